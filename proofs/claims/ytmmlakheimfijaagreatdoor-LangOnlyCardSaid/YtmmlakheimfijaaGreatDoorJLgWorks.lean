/-
  The chapter's examples (lang): they hold. Conditions: the table of powers lies as laid.
-/
import Derived.Test.YtmmlakheimfijaaGreatDoorJLgWorksPl
import Derived.Test.YtmmlakheimfijaaGreatDoorJLgFinite
import Derived.Test.YtmmlakheimfijaaGreatDoorJLgOnly
import Derived.Test.YtmmlakheimfijaaGreatDoorJLgMany
import Derived.Test.YtmmlakheimfijaaGreatDoorJLgAlike
import Derived.Test.YtmmlakheimfijaaGreatDoorJLgFirst
import Derived.Test.YtmmlakheimfijaaGreatDoorJWord
namespace Go.Proofs.YtmmlakheimfijaaGreatDoor
set_option linter.unusedVariables false
set_option linter.unusedSimpArgs false
open Go.RowKit Go.Maps Go.Sort Go.ChangeShapes Go.WideShapes

theorem exab_first : firstV wab = .tuple #[.string ⟨#[97, 98]⟩, .bool true] := by
  unfold firstV
  rw [wab_first]
  rfl
theorem exab_only {o : OT} (h : OnlyIs wab o) : onlyV o = .tuple #[.string ⟨#[97, 98]⟩, .bool true] := by
  rw [onlyIs_some wab_right h wab_only]
  rfl
theorem word_ab (W : World) : Calls Tryz.prog 16 #[.string ⟨#[97, 98]⟩] W fun e w' => ∃ rv, e = .returned (.tuple #[rv, .int .i64 0]) ∧ DfaAt w' rv wab ∧ Below W.heap.size W w' := by
  refine (word_any ⟨#[97, 98]⟩ (by decide) W).mono ?_
  rintro e w' ⟨rv, rfl, h, b⟩
  exact ⟨rv, rfl, h.at_, b⟩
/-- the automaton in a block of the call's own -/
structure Wl (w W : World) (p : Nat) (c : Array Value) : Prop where
  a : DfaAt W (.agg c) wab
  q : Blk W p 26 c
  bl : Below w.heap.size w W
  T : Pow10 W
theorem Wl.below {w W W' : World} {p : Nat} {c : Array Value} (h : Wl w W p c) (hb : Below W.heap.size W W') : Wl w W' p c :=
  ⟨h.a.below hb, h.q.below hb h.q.lt, h.bl.trans (hb.mono h.bl.size), h.T.below hb (Nat.le_refl _)⟩
set_option maxHeartbeats 8000000 in
set_option maxRecDepth 1000000 in
theorem lgworks_any (w : World) (hT : Pow10 w) : Calls Tryz.prog 8 #[] w fun e w' => e = .returned (.bool true) ∧ Below w.heap.size w w' := by
  have HT := Lib.hid hT
  clear hT
  go_enter Tryz.func8, Tryz.ntmps8
  go_wp2_with fail
  refine (word_ab _).mono ?_
  rintro e w1 ⟨rv, rfl, h1, b1⟩
  obtain ⟨S1, f1, k1, n1, F1, K1, M1, cf1, ck1, cn1, -, -, -, -, rfl⟩ := h1.form
  have hal := (Below.refl w1.heap.size w1).alloc (Nat.le_refl _) (.cells #[.int .i64 S1, .slice f1 F1 cf1, .slice k1 K1 ck1, .slice n1 M1 cn1] 26)
  have hq := Blk.new w1 26 #[.int .i64 S1, .slice f1 F1 cf1, .slice k1 K1 ck1, .slice n1 M1 cn1]
  have h0 : Wl w (w1.alloc (.cells #[.int .i64 S1, .slice f1 F1 cf1, .slice k1 K1 ck1, .slice n1 M1 cn1] 26)) w1.heap.size #[.int .i64 S1, .slice f1 F1 cf1, .slice k1 K1 ck1, .slice n1 M1 cn1] := ⟨h1.below hal, hq, b1.trans (hal.mono b1.size), HT.out.below (b1.trans (hal.mono b1.size)) (Nat.le_refl _)⟩
  have G := Lib.hid h0
  obtain ⟨p1, hp1⟩ : ∃ p, w1.heap.size = p := ⟨_, rfl⟩
  obtain ⟨⟨y0, y1, y2, y3⟩, -⟩ := h0.q.c4
  clear h1 b1 hal hq HT h0
  go_wp2_with fail
  generalize w1.alloc (.cells #[.int .i64 S1, .slice f1 F1 cf1, .slice k1 K1 ck1, .slice n1 M1 cn1] 26) = W1 at *
  try rw [hp1] at G
  try rw [hp1] at y0 y1 y2 y3
  try rw [hp1]
  clear hp1
  refine (lfirst_any _ _ W1 G.out.a wab_in).mono ?_
  rintro e w2 ⟨rfl, bx⟩
  rw [exab_first]
  have G' := Lib.hid (G.out.below bx)
  clear G bx y0 y1 y2 y3
  have G := G'
  clear G'
  obtain ⟨⟨y0, y1, y2, y3⟩, -⟩ := G.out.q.c4
  go_wp2_with fail
  refine (only_any _ _ w2 G.out.a wab_in G.out.T).mono ?_
  rintro e w3 ⟨o, rfl, ho, bx⟩
  rw [exab_only ho]
  clear ho
  have G' := Lib.hid (G.out.below bx)
  clear G bx y0 y1 y2 y3
  have G := G'
  clear G'
  go_upto_region 4 with (fail)
  refine wp_region_T [] (by kernel_rfl) ?_
  intro V bb
  have G' := Lib.hid (G.out.below bb)
  clear G bb
  have G := G'
  clear G'
  have lc : ∀ {p : Addr} {v : Value}, V.cell? p = some v → ∀ d os, (Sort.grow (redrawn V d) os).cell? p = some v := fun {p v} hp d os => ((below_regrown V d os).cell (World.block_lt_of_cell? V p hp)).trans hp
  obtain ⟨⟨y0, y1, y2, y3⟩, -⟩ := (G.out.q).c4
  have q0 := lc y0
  have q1 := lc y1
  have q2 := lc y2
  have q3 := lc y3
  clear lc y0 y1 y2 y3
  refine stepsQ [0, 1] (by kernel_rfl) (by kernel_rfl) (by kernel_rfl) (Grown.of_below (Below.refl _ _)) ?_
  simp only [atIdx, List.filterMap_cons, List.filterMap_nil, List.getElem?_toArray, List.getElem_toArray, List.getElem?_cons_zero, List.getElem?_cons_succ, List.getElem_cons_zero, List.getElem_cons_succ]
  iterate 2 (show wpQuiet _ _ _ _ (_ :: _) _; go_big_quiet_step (fail))
  refine wpQuiet_nil ?_
  show stepT _ _ _ _ _ _ _ _ _
  clear q0 q1 q2 q3
  refine stepS (i := 2) rfl (by kernel_rfl) ?_
  intro K hK
  go_simp
  refine (not_any _ _ V G.out.a wab_in G.out.T).mono ?_
  rintro e w4 ⟨rv, rfl, h4, b4⟩
  have H := Lib.hid (And.intro (G.out.below b4) h4)
  clear h4 G
  refine hK _ _ ⟨fun _ => Grown.of_below b4, ?_⟩
  clear hK K
  refine stepS (i := 3) rfl (by kernel_rfl) ?_
  intro K hK
  go_simp
  refine (inside_any _ _ _ _ w4 H.out.1.a H.out.2 wab_in (notC_in _) H.out.1.T).mono ?_
  rintro e w5 ⟨rfl, bx⟩
  rw [wab_inside.1, wab_inside.2]
  have G := Lib.hid (H.out.1.below bx)
  have b5 := b4.trans (bx.mono b4.size)
  clear H b4 bx
  refine hK _ _ ⟨fun _ => Grown.of_below b5, ?_⟩
  clear hK K
  refine stepsQ [4, 5, 6, 7, 8] (by kernel_rfl) (by kernel_rfl) (by kernel_rfl) (Grown.of_below b5) ?_
  simp only [atIdx, List.filterMap_cons, List.filterMap_nil, List.getElem?_toArray, List.getElem_toArray, List.getElem?_cons_zero, List.getElem?_cons_succ, List.getElem_cons_zero, List.getElem_cons_succ]
  iterate 5 (show wpQuiet _ _ _ _ (_ :: _) _; go_big_quiet_step (fail))
  refine wpQuiet_nil ?_
  show stepT _ _ _ _ _ _ _ _ _
  refine stepT_end (by kernel_rfl) ?_
  clear b5
  obtain ⟨⟨y0, y1, y2, y3⟩, -⟩ := G.out.q.c4
  go_wp2_with fail
  refine (finite_any _ _ w5 G.out.a wab_in G.out.T).mono ?_
  rintro e w6 ⟨rfl, bx⟩
  rw [wab_fin]
  have G' := Lib.hid (G.out.below bx)
  clear G bx y0 y1 y2 y3
  have G := G'
  clear G'
  obtain ⟨⟨y0, y1, y2, y3⟩, -⟩ := G.out.q.c4
  go_wp2_with fail
  refine (not_any _ _ w6 G.out.a wab_in G.out.T).mono ?_
  rintro e w7 ⟨rv2, rfl, h7, bx⟩
  have H := Lib.hid (And.intro (G.out.below bx) h7)
  clear h7 G bx y0 y1 y2 y3
  go_wp2_with fail
  refine (finite_any _ _ w7 H.out.2 (notC_in _) H.out.1.T).mono ?_
  rintro e w8 ⟨rfl, bx⟩
  rw [wab_inf]
  have G := Lib.hid (H.out.1.below bx)
  clear H bx
  obtain ⟨⟨y0, y1, y2, y3⟩, -⟩ := G.out.q.c4
  go_wp2_with fail
  refine (many_any _ 2 _ w8 G.out.a wab_in (by unfold In64; omega)).mono ?_
  rintro e w9 ⟨rfl, bx⟩
  rw [wab_two]
  have G' := Lib.hid (G.out.below bx)
  clear G bx y0 y1 y2 y3
  have G := G'
  clear G'
  obtain ⟨⟨y0, y1, y2, y3⟩, -⟩ := G.out.q.c4
  go_wp2_with fail
  refine (alike_any _ _ _ _ w9 G.out.a G.out.a wab_in wab_in G.out.T).mono ?_
  rintro e w10 ⟨rfl, bx⟩
  rw [wab_alike]
  have G' := Lib.hid (G.out.below bx)
  clear G bx y0 y1 y2 y3
  go_wp2_with fail
  go_ret
  exact ⟨rfl, G'.out.bl⟩
end Go.Proofs.YtmmlakheimfijaaGreatDoor
