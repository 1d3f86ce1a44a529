/-
  LangMany: the walk of the law. Conditions: the automaton lies in memory; the table of powers lies as laid.
-/
import Derived.Test.YtmmlakheimfijaaGreatDoorJLgFirstW
namespace Go.Proofs.YtmmlakheimfijaaGreatDoor
set_option linter.unusedVariables false
set_option linter.unusedSimpArgs false
open Go.RowKit Go.Maps Go.Sort Go.ChangeShapes Go.WideShapes

set_option maxHeartbeats 8000000 in
set_option maxRecDepth 1000000 in
theorem law_lmany (va : Value) (n : Int) (D : DfaI) (w : World) (hn : In64 n) (ha : DfaAt w va D) (hD : D.In) (hT : Pow10 w) :
    Calls Tryz.prog 4 #[va, .int .i64 n] w fun e w' => e = .returned (.bool true) ∧ Below w.heap.size w w' := by
  obtain ⟨S, af, ab, an, F, B, M, cf, cb, cn, hS, hF, hB, hM, rfl⟩ := ha.form
  have hM9 := hD.many
  rw [hM] at hM9
  have HI := Lib.hid hD
  have h0 := OneL.mk_ ha hT
  clear ha hT hD hM hF hB hS
  obtain ⟨⟨y0, y1, y2, y3⟩, -⟩ := h0.qa.c4
  have H0 := Lib.hid h0
  clear h0
  have HN := Lib.hid hn
  clear hn
  go_enter Tryz.func4, Tryz.ntmps4
  go_wp2_with fail
  generalize w.alloc (.cells #[.int .i64 S, .slice af F cf, .slice ab B cb, .slice an M cn] 26) = W at *
  clear y0 y1 y2 y3
  refine (great_any _ D W H0.out.a HI.out).mono ?_
  rintro e w1 ⟨rfl, bx⟩
  have H1 := Lib.hid (H0.out.below bx)
  clear bx H0
  obtain ⟨⟨y0, y1, y2, y3⟩, -⟩ := H1.out.qa.c4
  cases hg1 : greatD D with
  | true =>
    clear hg1
    go_wp2_with fail
    refine (lgworks_any w1 H1.out.T).mono ?_
    rintro e w' ⟨rfl, b'⟩
    go_wp2_with fail
    go_ret
    exact ⟨rfl, H1.out.bl.trans (b'.mono H1.out.bl.size)⟩
  | false =>
  by_cases h12 : 6 < M
  · have k1 : decide (6 < (M : Int)) = true := decide_eq_true (by omega)
    go_wp2_with fail
    refine (lgworks_any w1 H1.out.T).mono ?_
    rintro e w' ⟨rfl, b'⟩
    go_wp2_with fail
    go_ret
    exact ⟨rfl, H1.out.bl.trans (b'.mono H1.out.bl.size)⟩
  have k1 : decide (6 < (M : Int)) = false := decide_eq_false (by omega)
  by_cases h13 : 12 < n ∧ n ≤ 1024
  · have k2 : decide (12 < n) = true := decide_eq_true h13.1
    have k3 : decide (n ≤ 1024) = true := decide_eq_true h13.2
    go_wp2_with fail
    refine (lgworks_any w1 H1.out.T).mono ?_
    rintro e w' ⟨rfl, b'⟩
    go_wp2_with fail
    go_ret
    exact ⟨rfl, H1.out.bl.trans (b'.mono H1.out.bl.size)⟩
  have H13 := Lib.hid h13
  clear h13
  obtain ⟨c2, hc2⟩ : ∃ c, decide (12 < n) = c := ⟨_, rfl⟩
  obtain ⟨c3, hc3⟩ : ∃ c, decide (n ≤ 1024) = c := ⟨_, rfl⟩
  have hcc : (c2 && c3) = false := by
    rw [← hc2, ← hc3, Bool.and_eq_false_iff, decide_eq_false_iff_not, decide_eq_false_iff_not]
    have := H13.out
    omega
  cases c2 with
  | false =>
    go_wp2_with fail
    clear y0 y1 y2 y3 hc2 hc3 hcc
    refine wp_region_T [] (by kernel_rfl) ?_
    intro V bb
    have H4 := Lib.hid (H1.out.below bb)
    clear H1 bb
    have lc : ∀ {p : Addr} {v : Value}, V.cell? p = some v → ∀ d os, (Sort.grow (redrawn V d) os).cell? p = some v := fun {p v} hp d os => ((below_regrown V d os).cell (World.block_lt_of_cell? V p hp)).trans hp
    obtain ⟨⟨y0, y1, y2, y3⟩, -⟩ := (H4.out.qa).c4
    have q0 := lc y0
    have q1 := lc y1
    have q2 := lc y2
    have q3 := lc y3
    clear lc y0 y1 y2 y3
    refine stepsQ [0, 1, 3, 4] (by kernel_rfl) (by kernel_rfl) (by kernel_rfl) (Grown.of_below (Below.refl _ _)) ?_
    simp only [atIdx, List.filterMap_cons, List.filterMap_nil, List.getElem?_toArray, List.getElem_toArray, List.getElem?_cons_zero, List.getElem?_cons_succ, List.getElem_cons_zero, List.getElem_cons_succ]
    iterate 4 (show wpQuiet _ _ _ _ (_ :: _) _; go_big_quiet_step (fail))
    refine wpQuiet_nil ?_
    show stepT _ _ _ _ _ _ _ _ _
    clear q0 q1 q2 q3
    refine stepS (i := 2) rfl (by kernel_rfl) ?_
    intro K hK
    go_simp
    refine (many_any _ n D V H4.out.a HI.out HN.out).mono ?_
    rintro e w4 ⟨rfl, b4⟩
    have H5 := Lib.hid (H4.out.below b4)
    clear H4
    refine hK _ _ ⟨fun _ => Grown.of_below b4, ?_⟩
    clear hK K
    refine stepS (i := 5) rfl (by kernel_rfl) ?_
    intro K hK
    go_simp
    refine (refmany_any _ n D w4 H5.out.a HI.out HN.out).mono ?_
    rintro e w5 ⟨rfl, bx⟩
    have H6 := Lib.hid (H5.out.below bx)
    have b5 := b4.trans (bx.mono b4.size)
    clear H5 b4 bx
    refine hK _ _ ⟨fun _ => Grown.of_below b5, ?_⟩
    clear hK K
    obtain ⟨f, hf⟩ : ∃ f, manyI D n = f := ⟨_, rfl⟩
    rw [hf]
    clear hf
    refine stepsQ [6, 7] (by kernel_rfl) (by kernel_rfl) (by kernel_rfl) (Grown.of_below b5) ?_
    simp only [atIdx, List.filterMap_cons, List.filterMap_nil, List.getElem?_toArray, List.getElem_toArray, List.getElem?_cons_zero, List.getElem?_cons_succ, List.getElem_cons_zero, List.getElem_cons_succ]
    iterate 2 (show wpQuiet _ _ _ _ (_ :: _) _; go_big_quiet_step (fail))
    refine wpQuiet_nil ?_
    show stepT _ _ _ _ _ _ _ _ _
    refine stepS (i := 8) rfl (by kernel_rfl) ?_
    intro K hK
    go_simp
    refine (lgworks_any w5 H6.out.T).mono ?_
    rintro e w6 ⟨rfl, bx⟩
    have H7 := Lib.hid (H6.out.below bx)
    have b6 := b5.trans (bx.mono b5.size)
    clear H6 b5 bx
    refine hK _ _ ⟨fun _ => Grown.of_below b6, ?_⟩
    clear hK K
    refine stepsQ [9, 10] (by kernel_rfl) (by kernel_rfl) (by kernel_rfl) (Grown.of_below b6) ?_
    simp only [atIdx, List.filterMap_cons, List.filterMap_nil, List.getElem?_toArray, List.getElem_toArray, List.getElem?_cons_zero, List.getElem?_cons_succ, List.getElem_cons_zero, List.getElem_cons_succ]
    iterate 2 (show wpQuiet _ _ _ _ (_ :: _) _; go_big_quiet_step (fail))
    refine wpQuiet_nil ?_
    show stepT _ _ _ _ _ _ _ _ _
    refine stepT_end (by kernel_rfl) ?_
    go_wp2_with fail
    go_ret
    exact ⟨rfl, H7.out.bl⟩
  | true =>
    obtain rfl : c3 = false := by simpa using hcc
    go_wp2_with fail
    clear y0 y1 y2 y3 hc2 hc3 hcc
    refine wp_region_T [] (by kernel_rfl) ?_
    intro V bb
    have H4 := Lib.hid (H1.out.below bb)
    clear H1 bb
    have lc : ∀ {p : Addr} {v : Value}, V.cell? p = some v → ∀ d os, (Sort.grow (redrawn V d) os).cell? p = some v := fun {p v} hp d os => ((below_regrown V d os).cell (World.block_lt_of_cell? V p hp)).trans hp
    obtain ⟨⟨y0, y1, y2, y3⟩, -⟩ := (H4.out.qa).c4
    have q0 := lc y0
    have q1 := lc y1
    have q2 := lc y2
    have q3 := lc y3
    clear lc y0 y1 y2 y3
    refine stepsQ [0, 1, 3, 4] (by kernel_rfl) (by kernel_rfl) (by kernel_rfl) (Grown.of_below (Below.refl _ _)) ?_
    simp only [atIdx, List.filterMap_cons, List.filterMap_nil, List.getElem?_toArray, List.getElem_toArray, List.getElem?_cons_zero, List.getElem?_cons_succ, List.getElem_cons_zero, List.getElem_cons_succ]
    iterate 4 (show wpQuiet _ _ _ _ (_ :: _) _; go_big_quiet_step (fail))
    refine wpQuiet_nil ?_
    show stepT _ _ _ _ _ _ _ _ _
    clear q0 q1 q2 q3
    refine stepS (i := 2) rfl (by kernel_rfl) ?_
    intro K hK
    go_simp
    refine (many_any _ n D V H4.out.a HI.out HN.out).mono ?_
    rintro e w4 ⟨rfl, b4⟩
    have H5 := Lib.hid (H4.out.below b4)
    clear H4
    refine hK _ _ ⟨fun _ => Grown.of_below b4, ?_⟩
    clear hK K
    refine stepS (i := 5) rfl (by kernel_rfl) ?_
    intro K hK
    go_simp
    refine (refmany_any _ n D w4 H5.out.a HI.out HN.out).mono ?_
    rintro e w5 ⟨rfl, bx⟩
    have H6 := Lib.hid (H5.out.below bx)
    have b5 := b4.trans (bx.mono b4.size)
    clear H5 b4 bx
    refine hK _ _ ⟨fun _ => Grown.of_below b5, ?_⟩
    clear hK K
    obtain ⟨f, hf⟩ : ∃ f, manyI D n = f := ⟨_, rfl⟩
    rw [hf]
    clear hf
    refine stepsQ [6, 7] (by kernel_rfl) (by kernel_rfl) (by kernel_rfl) (Grown.of_below b5) ?_
    simp only [atIdx, List.filterMap_cons, List.filterMap_nil, List.getElem?_toArray, List.getElem_toArray, List.getElem?_cons_zero, List.getElem?_cons_succ, List.getElem_cons_zero, List.getElem_cons_succ]
    iterate 2 (show wpQuiet _ _ _ _ (_ :: _) _; go_big_quiet_step (fail))
    refine wpQuiet_nil ?_
    show stepT _ _ _ _ _ _ _ _ _
    refine stepS (i := 8) rfl (by kernel_rfl) ?_
    intro K hK
    go_simp
    refine (lgworks_any w5 H6.out.T).mono ?_
    rintro e w6 ⟨rfl, bx⟩
    have H7 := Lib.hid (H6.out.below bx)
    have b6 := b5.trans (bx.mono b5.size)
    clear H6 b5 bx
    refine hK _ _ ⟨fun _ => Grown.of_below b6, ?_⟩
    clear hK K
    refine stepsQ [9, 10] (by kernel_rfl) (by kernel_rfl) (by kernel_rfl) (Grown.of_below b6) ?_
    simp only [atIdx, List.filterMap_cons, List.filterMap_nil, List.getElem?_toArray, List.getElem_toArray, List.getElem?_cons_zero, List.getElem?_cons_succ, List.getElem_cons_zero, List.getElem_cons_succ]
    iterate 2 (show wpQuiet _ _ _ _ (_ :: _) _; go_big_quiet_step (fail))
    refine wpQuiet_nil ?_
    show stepT _ _ _ _ _ _ _ _ _
    refine stepT_end (by kernel_rfl) ?_
    go_wp2_with fail
    go_ret
    exact ⟨rfl, H7.out.bl⟩

namespace langManyW
set_option maxRecDepth 100000 in
theorem walkRaw {H : Type} (enc : TypeId × Value → H) (v0 : Value) (n : Int) (W : World) {base : Nat} {d0 : DataW H} {p0 : List MemPlace}
    (wv0 : Value.okWide Tryz.prog W .any base 26 v0) (h0 : DataW.Trod enc Tryz.prog W 0 (fun _ => true) true 26 v0 d0 p0) (_lt0 : ∀ x ∈ p0, x.block < W.heap.size) (hn : (Lit.int .i64 n).wf = true)
    (hL : laidMet Tryz.prog Rows.langManyRow.laid W) :
    Calls Tryz.prog 4 #[v0, .int .i64 n] W fun e w' => e = .returned (.bool true) ∧ Below W.heap.size W w' := by
  obtain ⟨D, hD, hI⟩ := open_dfa wv0 h0
  exact law_lmany v0 n D W (wf_in64 hn) hD hI (pow_in hL (by simp [Rows.langManyRow]))
end langManyW
end Go.Proofs.YtmmlakheimfijaaGreatDoor
