/-
  LangFirst: the walk of the law. Conditions: the automaton lies in memory; the table of powers lies as laid.
-/
import Derived.Test.YtmmlakheimfijaaGreatDoorJLgWorks
import Derived.Test.YtmmlakheimfijaaGreatDoorJLgRefFin
import Derived.Test.YtmmlakheimfijaaGreatDoorJLgRefMany
import Derived.Test.YtmmlakheimfijaaGreatDoorJAuOpenT
namespace Go.Proofs.YtmmlakheimfijaaGreatDoor
set_option linter.unusedVariables false
set_option linter.unusedSimpArgs false
open Go.RowKit Go.Maps Go.Sort Go.ChangeShapes Go.WideShapes

/-- a law's one automaton -/
structure OneL (w W : World) (va : Array Value) (D : DfaI) : Prop where
  a : DfaAt W (.agg va) D
  qa : Blk W w.heap.size 26 va
  T : Pow10 W
  bl : Below w.heap.size w W
section
variable {w W W' : World} {ca : Array Value} {D : DfaI}
theorem OneL.below (h : OneL w W ca D) (hb : Below W.heap.size W W') : OneL w W' ca D :=
  ⟨h.a.below hb, h.qa.below hb h.qa.lt, h.T.below hb (Nat.le_refl _), h.bl.trans (hb.mono h.bl.size)⟩
theorem OneL.mk_ (ha : DfaAt w (.agg ca) D) (hT : Pow10 w) : OneL w (w.alloc (.cells ca 26)) ca D := by
  have b0 := (Below.refl w.heap.size w).alloc (Nat.le_refl _) (.cells ca 26)
  exact ⟨ha.below b0, Blk.new w 26 _, hT.below b0 (Nat.le_refl _), b0⟩
end
set_option maxHeartbeats 8000000 in
set_option maxRecDepth 1000000 in
theorem law_lfirst (va : Value) (D : DfaI) (w : World) (ha : DfaAt w va D) (hD : D.In) (hT : Pow10 w) :
    Calls Tryz.prog 3 #[va] w fun e w' => e = .returned (.bool true) ∧ Below w.heap.size w w' := by
  obtain ⟨S, af, ab, an, F, B, M, cf, cb, cn, hS, hF, hB, hM, rfl⟩ := ha.form
  have hM9 := hD.many
  rw [hM] at hM9
  have HI := Lib.hid hD
  have h0 := OneL.mk_ ha hT
  clear ha hT hD hM hF hB hS
  obtain ⟨⟨y0, y1, y2, y3⟩, -⟩ := h0.qa.c4
  have H0 := Lib.hid h0
  clear h0
  go_enter Tryz.func3, Tryz.ntmps3
  go_wp2_with fail
  generalize w.alloc (.cells #[.int .i64 S, .slice af F cf, .slice ab B cb, .slice an M cn] 26) = W at *
  clear y0 y1 y2 y3
  refine (great_any _ D W H0.out.a HI.out).mono ?_
  rintro e w1 ⟨rfl, bx⟩
  have H1 := Lib.hid (H0.out.below bx)
  clear bx H0
  obtain ⟨⟨y0, y1, y2, y3⟩, -⟩ := H1.out.qa.c4
  cases hg1 : greatD D with
  | true =>
    clear hg1
    go_wp2_with fail
    refine (lgworks_any w1 H1.out.T).mono ?_
    rintro e w' ⟨rfl, b'⟩
    go_wp2_with fail
    go_ret
    exact ⟨rfl, H1.out.bl.trans (b'.mono H1.out.bl.size)⟩
  | false =>
  by_cases h12 : 10 < M
  · have k1 : decide (10 < (M : Int)) = true := decide_eq_true (by omega)
    go_wp2_with fail
    refine (lgworks_any w1 H1.out.T).mono ?_
    rintro e w' ⟨rfl, b'⟩
    go_wp2_with fail
    go_ret
    exact ⟨rfl, H1.out.bl.trans (b'.mono H1.out.bl.size)⟩
  have k1 : decide (10 < (M : Int)) = false := decide_eq_false (by omega)
  go_wp2_with fail
  clear y0 y1 y2 y3 hg1
  refine (lfirst_any _ D w1 H1.out.a HI.out).mono ?_
  rintro e w2 ⟨rfl, bx⟩
  unfold firstV
  have H2 := Lib.hid (H1.out.below bx)
  clear bx H1
  obtain ⟨⟨y0, y1, y2, y3⟩, -⟩ := H2.out.qa.c4
  go_wp2_with fail
  clear y0 y1 y2 y3
  refine (reffirst_any _ D w2 H2.out.a HI.out).mono ?_
  rintro e w3 ⟨rfl, bx⟩
  unfold firstV
  have H3 := Lib.hid (H2.out.below bx)
  clear bx H2
  obtain ⟨⟨y0, y1, y2, y3⟩, -⟩ := H3.out.qa.c4
  obtain ⟨s, hs⟩ : ∃ s, bsT ((firstRes D).getD []) = s := ⟨_, rfl⟩
  obtain ⟨i, hi⟩ : ∃ i, (firstRes D).isSome = i := ⟨_, rfl⟩
  rw [hs, hi]
  clear hs hi y0 y1 y2 y3
  go_upto_region 5 with (fail)
  refine wp_region_T [] (by kernel_rfl) ?_
  intro V bb
  have H4 := Lib.hid (H3.out.below bb)
  clear H3 bb
  have lc : ∀ {p : Addr} {v : Value}, V.cell? p = some v → ∀ d os, (Sort.grow (redrawn V d) os).cell? p = some v := fun {p v} hp d os => ((below_regrown V d os).cell (World.block_lt_of_cell? V p hp)).trans hp
  obtain ⟨⟨y0, y1, y2, y3⟩, -⟩ := (H4.out.qa).c4
  have q0 := lc y0
  have q1 := lc y1
  have q2 := lc y2
  have q3 := lc y3
  clear lc y0 y1 y2 y3
  refine stepsQ [0, 1, 2, 3, 4, 5, 6, 7, 8, 9, 11] (by kernel_rfl) (by kernel_rfl) (by kernel_rfl) (Grown.of_below (Below.refl _ _)) ?_
  simp only [atIdx, List.filterMap_cons, List.filterMap_nil, List.getElem?_toArray, List.getElem_toArray, List.getElem?_cons_zero, List.getElem?_cons_succ, List.getElem_cons_zero, List.getElem_cons_succ]
  iterate 11 (show wpQuiet _ _ _ _ (_ :: _) _; go_big_quiet_step (fail))
  refine wpQuiet_nil ?_
  show stepT _ _ _ _ _ _ _ _ _
  clear q0 q1 q2 q3
  refine stepS (i := 10) rfl (by kernel_rfl) ?_
  intro K hK
  go_simp
  refine (finite_any _ D V H4.out.a HI.out H4.out.T).mono ?_
  rintro e w4 ⟨rfl, b4⟩
  have H5 := Lib.hid (H4.out.below b4)
  clear H4
  refine hK _ _ ⟨fun _ => Grown.of_below b4, ?_⟩
  clear hK K
  refine stepS (i := 12) rfl (by kernel_rfl) ?_
  intro K hK
  go_simp
  refine (reffinite_any _ D w4 H5.out.a HI.out).mono ?_
  rintro e w5 ⟨rfl, bx⟩
  have H6 := Lib.hid (H5.out.below bx)
  have b5 := b4.trans (bx.mono b4.size)
  clear H5 b4 bx
  refine hK _ _ ⟨fun _ => Grown.of_below b5, ?_⟩
  clear hK K
  obtain ⟨f, hf⟩ : ∃ f, finiteD D = f := ⟨_, rfl⟩
  rw [hf]
  clear hf
  refine stepsQ [13, 14, 15] (by kernel_rfl) (by kernel_rfl) (by kernel_rfl) (Grown.of_below b5) ?_
  simp only [atIdx, List.filterMap_cons, List.filterMap_nil, List.getElem?_toArray, List.getElem_toArray, List.getElem?_cons_zero, List.getElem?_cons_succ, List.getElem_cons_zero, List.getElem_cons_succ]
  iterate 3 (show wpQuiet _ _ _ _ (_ :: _) _; go_big_quiet_step (fail))
  refine wpQuiet_nil ?_
  show stepT _ _ _ _ _ _ _ _ _
  refine stepS (i := 16) rfl (by kernel_rfl) ?_
  intro K hK
  go_simp
  refine (lgworks_any w5 H6.out.T).mono ?_
  rintro e w6 ⟨rfl, bx⟩
  have H7 := Lib.hid (H6.out.below bx)
  have b6 := b5.trans (bx.mono b5.size)
  clear H6 b5 bx
  refine hK _ _ ⟨fun _ => Grown.of_below b6, ?_⟩
  clear hK K
  refine stepsQ [17, 18] (by kernel_rfl) (by kernel_rfl) (by kernel_rfl) (Grown.of_below b6) ?_
  simp only [atIdx, List.filterMap_cons, List.filterMap_nil, List.getElem?_toArray, List.getElem_toArray, List.getElem?_cons_zero, List.getElem?_cons_succ, List.getElem_cons_zero, List.getElem_cons_succ]
  iterate 2 (show wpQuiet _ _ _ _ (_ :: _) _; go_big_quiet_step (fail))
  refine wpQuiet_nil ?_
  show stepT _ _ _ _ _ _ _ _ _
  refine stepT_end (by kernel_rfl) ?_
  go_wp2_with fail
  go_ret
  exact ⟨rfl, H7.out.bl⟩

namespace langFirstW
set_option maxRecDepth 100000 in
theorem walkRaw {H : Type} (enc : TypeId × Value → H) (v0 : Value) (W : World) {base : Nat} {d0 : DataW H} {p0 : List MemPlace}
    (wv0 : Value.okWide Tryz.prog W .any base 26 v0) (h0 : DataW.Trod enc Tryz.prog W 0 (fun _ => true) true 26 v0 d0 p0) (_lt0 : ∀ x ∈ p0, x.block < W.heap.size)
    (hL : laidMet Tryz.prog Rows.langFirstRow.laid W) :
    Calls Tryz.prog 3 #[v0] W fun e w' => e = .returned (.bool true) ∧ Below W.heap.size W w' := by
  obtain ⟨D, hD, hI⟩ := open_dfa wv0 h0
  exact law_lfirst v0 D W hD hI (pow_in hL (by simp [Rows.langFirstRow]))
end langFirstW
end Go.Proofs.YtmmlakheimfijaaGreatDoor
