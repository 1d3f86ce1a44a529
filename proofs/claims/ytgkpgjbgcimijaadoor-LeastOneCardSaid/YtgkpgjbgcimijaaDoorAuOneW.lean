/-
  LeastOne: the walk of the law. Conditions: the automata lie in memory; the table of powers lies as laid.
-/
import Derived.Test.YtgkpgjbgcimijaaDoorAuTwo
import Derived.Test.YtgkpgjbgcimijaaDoorAuRefRight
import Derived.Test.YtgkpgjbgcimijaaDoorAuApartW
import Derived.Test.YtgkpgjbgcimijaaDoorAuOpenT
namespace Go.Proofs.YtgkpgjbgcimijaaDoor
set_option linter.unusedVariables false
set_option linter.unusedSimpArgs false
open Go.RowKit Go.Maps Go.Sort Go.ChangeShapes Go.WideShapes

set_option maxHeartbeats 8000000 in
set_option maxRecDepth 1000000 in
theorem law_one (va vb : Value) (D E : DfaI) (w : World) (ha : DfaAt w va D) (hb : DfaAt w vb E) (hD : D.In) (hE : E.In) (hT : Pow10 w) :
    Calls Tryd.prog 5 #[va, vb] w fun e w' => e = .returned (.bool true) ∧ Below w.heap.size w w' := by
  obtain ⟨S, af, ab, an, F, B, M, cf, cb, cn, hS, hF, hB, hM, rfl⟩ := ha.form
  obtain ⟨S', ef, eb, en, F', B', M', ce, ce', ce'', hS', hF', hB', hM', rfl⟩ := hb.form
  have hM9 := hD.many
  have hM9' := hE.many
  rw [hM] at hM9
  rw [hM'] at hM9'
  have HI := Lib.hid (And.intro hD (And.intro hE (And.intro hM hM')))
  have h0 := TwoD.mk_ ha hb hT
  clear ha hb hT hD hE hF hB hM hF' hB' hM' hS hS'
  obtain ⟨⟨y0, y1, y2, y3⟩, -⟩ := h0.qa.c4
  obtain ⟨⟨x0, x1, x2, x3⟩, -⟩ := h0.qb.c4
  have H0 := Lib.hid h0
  clear h0
  go_enter Tryd.func5, Tryd.ntmps5
  go_wp2_with fail
  generalize (w.alloc (.cells #[.int .i64 S, .slice af F cf, .slice ab B cb, .slice an M cn] 26)).alloc (.cells #[.int .i64 S', .slice ef F' ce, .slice eb B' ce', .slice en M' ce''] 26) = W at *
  clear y0 y1 y2 y3 x0 x1 x2 x3
  refine (great_any _ D W H0.out.a HI.out.1).mono ?_
  rintro e w1 ⟨rfl, bx⟩
  have H1 := Lib.hid (H0.out.below bx)
  clear bx H0
  obtain ⟨⟨y0, y1, y2, y3⟩, -⟩ := H1.out.qa.c4
  obtain ⟨⟨x0, x1, x2, x3⟩, -⟩ := H1.out.qb.c4
  cases hg1 : greatD D with
  | true =>
    clear hg1
    go_wp2_with fail
    refine (works_any w1 H1.out.T).mono ?_
    rintro e w' ⟨rfl, b'⟩
    go_wp2_with fail
    go_ret
    exact ⟨rfl, H1.out.bl.trans (b'.mono H1.out.bl.size)⟩
  | false =>
  go_wp2_with fail
  clear y0 y1 y2 y3 x0 x1 x2 x3
  refine (great_any _ E w1 H1.out.b HI.out.2.1).mono ?_
  rintro e w2 ⟨rfl, bx⟩
  have H2 := Lib.hid (H1.out.below bx)
  clear bx H1
  obtain ⟨⟨y0, y1, y2, y3⟩, -⟩ := H2.out.qa.c4
  obtain ⟨⟨x0, x1, x2, x3⟩, -⟩ := H2.out.qb.c4
  cases hg2 : greatD E with
  | true =>
    clear hg2
    go_wp2_with fail
    refine (works_any w2 H2.out.T).mono ?_
    rintro e w' ⟨rfl, b'⟩
    go_wp2_with fail
    go_ret
    exact ⟨rfl, H2.out.bl.trans (b'.mono H2.out.bl.size)⟩
  | false =>
  by_cases h12 : 12 < M
  · have k1 : decide (12 < (M : Int)) = true := decide_eq_true (by omega)
    go_wp2_with fail
    refine (works_any w2 H2.out.T).mono ?_
    rintro e w' ⟨rfl, b'⟩
    go_wp2_with fail
    go_ret
    exact ⟨rfl, H2.out.bl.trans (b'.mono H2.out.bl.size)⟩
  have k1 : decide (12 < (M : Int)) = false := decide_eq_false (by omega)
  by_cases h12' : 12 < M'
  · have k2 : decide (12 < (M' : Int)) = true := decide_eq_true (by omega)
    go_wp2_with fail
    refine (works_any w2 H2.out.T).mono ?_
    rintro e w' ⟨rfl, b'⟩
    go_wp2_with fail
    go_ret
    exact ⟨rfl, H2.out.bl.trans (b'.mono H2.out.bl.size)⟩
  have k2 : decide (12 < (M' : Int)) = false := decide_eq_false (by omega)
  go_wp2_with fail
  clear y0 y1 y2 y3 x0 x1 x2 x3
  refine (refdright_any _ D w2 H2.out.a HI.out.1).mono ?_
  rintro e w3 ⟨rfl, bx⟩
  have H3 := Lib.hid (H2.out.below bx)
  clear bx H2
  obtain ⟨⟨y0, y1, y2, y3⟩, -⟩ := H3.out.qa.c4
  obtain ⟨⟨x0, x1, x2, x3⟩, -⟩ := H3.out.qb.c4
  cases hr1 : rightD D with
  | false =>
    clear hr1
    go_wp2_with fail
    refine (works_any w3 H3.out.T).mono ?_
    rintro e w' ⟨rfl, b'⟩
    go_wp2_with fail
    go_ret
    exact ⟨rfl, H3.out.bl.trans (b'.mono H3.out.bl.size)⟩
  | true =>
  go_wp2_with fail
  clear y0 y1 y2 y3 x0 x1 x2 x3
  refine (refdright_any _ E w3 H3.out.b HI.out.2.1).mono ?_
  rintro e w4 ⟨rfl, bx⟩
  have H4 := Lib.hid (H3.out.below bx)
  clear bx H3
  obtain ⟨⟨y0, y1, y2, y3⟩, -⟩ := H4.out.qa.c4
  obtain ⟨⟨x0, x1, x2, x3⟩, -⟩ := H4.out.qb.c4
  cases hr2 : rightD E with
  | false =>
    clear hr2
    go_wp2_with fail
    refine (works_any w4 H4.out.T).mono ?_
    rintro e w' ⟨rfl, b'⟩
    go_wp2_with fail
    go_ret
    exact ⟨rfl, H4.out.bl.trans (b'.mono H4.out.bl.size)⟩
  | true =>
  have hR1 := rightD_iff.1 hr1
  have hR2 := rightD_iff.1 hr2
  go_wp2_with fail
  clear y0 y1 y2 y3 x0 x1 x2 x3
  refine (refapart_any _ _ D E w4 H4.out.a H4.out.b hR1 hR2 (by rw [HI.out.2.2.1]; omega) (by rw [HI.out.2.2.2]; omega)).mono ?_
  rintro e w5 ⟨s, b, rfl, hs, hbt, hbf, bx⟩
  have H5 := Lib.hid (H4.out.below bx)
  clear bx H4
  obtain ⟨⟨y0, y1, y2, y3⟩, -⟩ := H5.out.qa.c4
  obtain ⟨⟨x0, x1, x2, x3⟩, -⟩ := H5.out.qb.c4
  have hq1 : runD D s = langD D (bytesTo s s.size) := by unfold runD; rw [hr1]; rfl
  have hq2 : runD E s = langD E (bytesTo s s.size) := by unfold runD; rw [hr2]; rfl
  have hone := ofD_eq_iff hR1 hR2
  have hs9 : s.size ≤ maxLen := by unfold maxLen; omega
  have hne : eqD (ofD D) (ofD E) = !b := by
    cases b with
    | false => exact eqD_iff.2 (hone.2 (hbf rfl))
    | true =>
      have h := hbt rfl
      cases hq : eqD (ofD D) (ofD E) with
      | false => rfl
      | true => exact absurd (hone.1 (eqD_iff.1 hq) _ (bytesTo_in s _)) h
  have HV := Lib.hid (And.intro hne (And.intro hq1 (And.intro hq2 hbt)))
  clear hne hq1 hq2 hone hbt hbf hr1 hr2 hR1 hR2
  go_wp2_with fail
  refine wp_region_T [] (by kernel_rfl) ?_
  intro W bb
  have lc : ∀ {p : Addr} {v : Value}, w5.cell? p = some v → ∀ d os, (Sort.grow (redrawn W d) os).cell? p = some v := fun {p v} hp d os => ((bb.trans ((below_regrown W d os).mono bb.size)).cell (World.block_lt_of_cell? w5 p hp)).trans hp
  have q0 := lc y0
  have q1 := lc y1
  have q2 := lc y2
  have q3 := lc y3
  have q4 := lc x0
  have q5 := lc x1
  have q6 := lc x2
  have q7 := lc x3
  clear lc y0 y1 y2 y3 x0 x1 x2 x3
  have bA : Below W.heap.size W W := Below.refl _ _
  have G : TwoD w W #[.int .i64 S, .slice af F cf, .slice ab B cb, .slice an M cn] #[.int .i64 S', .slice ef F' ce, .slice eb B' ce', .slice en M' ce''] D E := H5.out.below bb
  clear bb H5
  cases b with
  | true =>
    refine stepsQ [0, 1, 2, 3, 5, 6] (by kernel_rfl) (by kernel_rfl) (by kernel_rfl) (Grown.of_below bA) ?_
    simp only [atIdx, List.filterMap_cons, List.filterMap_nil, List.getElem?_toArray, List.getElem_toArray, List.getElem?_cons_zero, List.getElem?_cons_succ, List.getElem_cons_zero, List.getElem_cons_succ]
    iterate 6 (show wpQuiet _ _ _ _ (_ :: _) _; go_big_quiet_step (fail))
    refine wpQuiet_nil ?_
    show stepT _ _ _ _ _ _ _ _ _
    refine stepS (i := 4) rfl (by kernel_rfl) ?_
    intro K hK
    go_simp
    refine (run_any _ s D _ G.a HI.out.1 hs9).mono ?_
    rintro e w6 ⟨rfl, bx⟩
    rw [HV.out.2.1]
    have G' := G.below bx
    replace bA := bA.trans (bx.mono bA.size)
    clear G bx
    have G := G'
    clear G'
    refine hK _ _ ⟨fun _ => Grown.of_below bA, ?_⟩
    clear hK K
    refine stepS (i := 7) rfl (by kernel_rfl) ?_
    intro K hK
    go_simp
    refine (run_any _ s E _ G.b HI.out.2.1 hs9).mono ?_
    rintro e w7 ⟨rfl, bx⟩
    rw [HV.out.2.2.1]
    have G' := G.below bx
    replace bA := bA.trans (bx.mono bA.size)
    clear G bx
    have G := G'
    clear G'
    refine hK _ _ ⟨fun _ => Grown.of_below bA, ?_⟩
    clear hK K
    have hd := HV.out.2.2.2 rfl
    obtain ⟨d1, hd1⟩ : ∃ d, langD D (bytesTo s s.size) = d := ⟨_, rfl⟩
    obtain ⟨d2, hd2⟩ : ∃ d, langD E (bytesTo s s.size) = d := ⟨_, rfl⟩
    rw [hd1, hd2] at hd
    rw [hd1, hd2]
    have hdd : (d1 == d2) = false := by cases d1 <;> cases d2 <;> simp_all
    clear hd1 hd2 hd
    refine stepsQ [8, 9] (by kernel_rfl) (by kernel_rfl) (by kernel_rfl) (Grown.of_below bA) ?_
    simp only [atIdx, List.filterMap_cons, List.filterMap_nil, List.getElem?_toArray, List.getElem_toArray, List.getElem?_cons_zero, List.getElem?_cons_succ, List.getElem_cons_zero, List.getElem_cons_succ]
    iterate 2 (show wpQuiet _ _ _ _ (_ :: _) _; go_big_quiet_step (fail))
    refine wpQuiet_nil ?_
    show stepT _ _ _ _ _ _ _ _ _
    refine stepT_end (by kernel_rfl) ?_
    have H6 := Lib.hid G
    clear G bA q0 q1 q2 q3 q4 q5 q6 q7
    obtain ⟨⟨y0, y1, y2, y3⟩, -⟩ := H6.out.qa.c4
    obtain ⟨⟨x0, x1, x2, x3⟩, -⟩ := H6.out.qb.c4
    go_wp2_with fail
    refine wp_region_T [] (by kernel_rfl) ?_
    intro W2 bb
    have lc : ∀ {p : Addr} {v : Value}, w7.cell? p = some v → ∀ d os, (Sort.grow (redrawn W2 d) os).cell? p = some v := fun {p v} hp d os => ((bb.trans ((below_regrown W2 d os).mono bb.size)).cell (World.block_lt_of_cell? w7 p hp)).trans hp
    have q0 := lc y0
    have q1 := lc y1
    have q2 := lc y2
    have q3 := lc y3
    have q4 := lc x0
    have q5 := lc x1
    have q6 := lc x2
    have q7 := lc x3
    clear lc y0 y1 y2 y3 x0 x1 x2 x3
    have bA : Below W2.heap.size W2 W2 := Below.refl _ _
    have G : TwoD w W2 #[.int .i64 S, .slice af F cf, .slice ab B cb, .slice an M cn] #[.int .i64 S', .slice ef F' ce, .slice eb B' ce', .slice en M' ce''] D E := H6.out.below bb
    clear bb H6
    refine stepsQ [0, 2, 5] (by kernel_rfl) (by kernel_rfl) (by kernel_rfl) (Grown.of_below bA) ?_
    simp only [atIdx, List.filterMap_cons, List.filterMap_nil, List.getElem?_toArray, List.getElem_toArray, List.getElem?_cons_zero, List.getElem?_cons_succ, List.getElem_cons_zero, List.getElem_cons_succ]
    iterate 3 (show wpQuiet _ _ _ _ (_ :: _) _; go_big_quiet_step (fail))
    refine wpQuiet_nil ?_
    show stepT _ _ _ _ _ _ _ _ _
    refine stepS (i := 1) rfl (by kernel_rfl) ?_
    intro K hK
    go_simp
    refine (of_any _ D _ G.a HI.out.1 G.T).mono ?_
    rintro e w8 ⟨rv1, rfl, hl1, bx⟩
    have G' := G.below bx
    replace bA := bA.trans (bx.mono bA.size)
    clear G bx
    have G := G'
    clear G'
    refine hK _ _ ⟨fun _ => Grown.of_below bA, ?_⟩
    clear hK K
    refine stepS (i := 3) rfl (by kernel_rfl) ?_
    intro K hK
    go_simp
    refine (of_any _ E _ G.b HI.out.2.1 G.T).mono ?_
    rintro e w9 ⟨rv2, rfl, hl2, bx⟩
    replace hl1 := hl1.below bx
    have G' := G.below bx
    replace bA := bA.trans (bx.mono bA.size)
    clear G bx
    have G := G'
    clear G'
    refine hK _ _ ⟨fun _ => Grown.of_below bA, ?_⟩
    clear hK K
    refine stepS (i := 4) rfl (by kernel_rfl) ?_
    intro K hK
    go_simp
    refine (lsame_any _ _ _ _ _ hl1 hl2 (ofD_in D) (ofD_in E)).mono ?_
    rintro e w10 ⟨rfl, bx⟩
    rw [HV.out.1]
    clear hl1 hl2
    have G' := G.below bx
    replace bA := bA.trans (bx.mono bA.size)
    clear G bx
    have G := G'
    clear G'
    refine hK _ _ ⟨fun _ => Grown.of_below bA, ?_⟩
    clear hK K
    refine stepsQ [6, 7] (by kernel_rfl) (by kernel_rfl) (by kernel_rfl) (Grown.of_below bA) ?_
    simp only [atIdx, List.filterMap_cons, List.filterMap_nil, List.getElem?_toArray, List.getElem_toArray, List.getElem?_cons_zero, List.getElem?_cons_succ, List.getElem_cons_zero, List.getElem_cons_succ]
    iterate 2 (show wpQuiet _ _ _ _ (_ :: _) _; go_big_quiet_step (fail))
    refine wpQuiet_nil ?_
    show stepT _ _ _ _ _ _ _ _ _
    refine stepS (i := 8) rfl (by kernel_rfl) ?_
    intro K hK
    go_simp
    refine (works_any _ G.T).mono ?_
    rintro e w11 ⟨rfl, bx⟩
    have G' := G.below bx
    replace bA := bA.trans (bx.mono bA.size)
    clear G bx
    have G := G'
    clear G'
    refine hK _ _ ⟨fun _ => Grown.of_below bA, ?_⟩
    clear hK K
    refine stepsQ [9, 10] (by kernel_rfl) (by kernel_rfl) (by kernel_rfl) (Grown.of_below bA) ?_
    simp only [atIdx, List.filterMap_cons, List.filterMap_nil, List.getElem?_toArray, List.getElem_toArray, List.getElem?_cons_zero, List.getElem?_cons_succ, List.getElem_cons_zero, List.getElem_cons_succ]
    iterate 2 (show wpQuiet _ _ _ _ (_ :: _) _; go_big_quiet_step (fail))
    refine wpQuiet_nil ?_
    show stepT _ _ _ _ _ _ _ _ _
    refine stepT_end (by kernel_rfl) ?_
    go_wp2_with fail
    go_ret
    exact ⟨rfl, G.bl⟩
  | false =>
    refine stepsQ [0, 1, 2, 3, 5, 6] (by kernel_rfl) (by kernel_rfl) (by kernel_rfl) (Grown.of_below bA) ?_
    simp only [atIdx, List.filterMap_cons, List.filterMap_nil, List.getElem?_toArray, List.getElem_toArray, List.getElem?_cons_zero, List.getElem?_cons_succ, List.getElem_cons_zero, List.getElem_cons_succ]
    iterate 6 (show wpQuiet _ _ _ _ (_ :: _) _; go_big_quiet_step (fail))
    refine wpQuiet_nil ?_
    show stepT _ _ _ _ _ _ _ _ _
    refine stepS (i := 4) rfl (by kernel_rfl) ?_
    intro K hK
    go_simp
    refine hK _ _ ⟨fun _ => Grown.of_below bA, ?_⟩
    clear hK K
    refine stepS (i := 7) rfl (by kernel_rfl) ?_
    intro K hK
    go_simp
    refine hK _ _ ⟨fun _ => Grown.of_below bA, ?_⟩
    clear hK K
    refine stepsQ [8, 9] (by kernel_rfl) (by kernel_rfl) (by kernel_rfl) (Grown.of_below bA) ?_
    simp only [atIdx, List.filterMap_cons, List.filterMap_nil, List.getElem?_toArray, List.getElem_toArray, List.getElem?_cons_zero, List.getElem?_cons_succ, List.getElem_cons_zero, List.getElem_cons_succ]
    iterate 2 (show wpQuiet _ _ _ _ (_ :: _) _; go_big_quiet_step (fail))
    refine wpQuiet_nil ?_
    show stepT _ _ _ _ _ _ _ _ _
    refine stepT_end (by kernel_rfl) ?_
    have H6 := Lib.hid G
    clear G bA q0 q1 q2 q3 q4 q5 q6 q7
    obtain ⟨⟨y0, y1, y2, y3⟩, -⟩ := H6.out.qa.c4
    obtain ⟨⟨x0, x1, x2, x3⟩, -⟩ := H6.out.qb.c4
    go_wp2_with fail
    refine wp_region_T [] (by kernel_rfl) ?_
    intro W2 bb
    have lc : ∀ {p : Addr} {v : Value}, W.cell? p = some v → ∀ d os, (Sort.grow (redrawn W2 d) os).cell? p = some v := fun {p v} hp d os => ((bb.trans ((below_regrown W2 d os).mono bb.size)).cell (World.block_lt_of_cell? W p hp)).trans hp
    have q0 := lc y0
    have q1 := lc y1
    have q2 := lc y2
    have q3 := lc y3
    have q4 := lc x0
    have q5 := lc x1
    have q6 := lc x2
    have q7 := lc x3
    clear lc y0 y1 y2 y3 x0 x1 x2 x3
    have bA : Below W2.heap.size W2 W2 := Below.refl _ _
    have G : TwoD w W2 #[.int .i64 S, .slice af F cf, .slice ab B cb, .slice an M cn] #[.int .i64 S', .slice ef F' ce, .slice eb B' ce', .slice en M' ce''] D E := H6.out.below bb
    clear bb H6
    refine stepsQ [0, 2, 5] (by kernel_rfl) (by kernel_rfl) (by kernel_rfl) (Grown.of_below bA) ?_
    simp only [atIdx, List.filterMap_cons, List.filterMap_nil, List.getElem?_toArray, List.getElem_toArray, List.getElem?_cons_zero, List.getElem?_cons_succ, List.getElem_cons_zero, List.getElem_cons_succ]
    iterate 3 (show wpQuiet _ _ _ _ (_ :: _) _; go_big_quiet_step (fail))
    refine wpQuiet_nil ?_
    show stepT _ _ _ _ _ _ _ _ _
    refine stepS (i := 1) rfl (by kernel_rfl) ?_
    intro K hK
    go_simp
    refine (of_any _ D _ G.a HI.out.1 G.T).mono ?_
    rintro e w8 ⟨rv1, rfl, hl1, bx⟩
    have G' := G.below bx
    replace bA := bA.trans (bx.mono bA.size)
    clear G bx
    have G := G'
    clear G'
    refine hK _ _ ⟨fun _ => Grown.of_below bA, ?_⟩
    clear hK K
    refine stepS (i := 3) rfl (by kernel_rfl) ?_
    intro K hK
    go_simp
    refine (of_any _ E _ G.b HI.out.2.1 G.T).mono ?_
    rintro e w9 ⟨rv2, rfl, hl2, bx⟩
    replace hl1 := hl1.below bx
    have G' := G.below bx
    replace bA := bA.trans (bx.mono bA.size)
    clear G bx
    have G := G'
    clear G'
    refine hK _ _ ⟨fun _ => Grown.of_below bA, ?_⟩
    clear hK K
    refine stepS (i := 4) rfl (by kernel_rfl) ?_
    intro K hK
    go_simp
    refine (lsame_any _ _ _ _ _ hl1 hl2 (ofD_in D) (ofD_in E)).mono ?_
    rintro e w10 ⟨rfl, bx⟩
    rw [HV.out.1]
    clear hl1 hl2
    have G' := G.below bx
    replace bA := bA.trans (bx.mono bA.size)
    clear G bx
    have G := G'
    clear G'
    refine hK _ _ ⟨fun _ => Grown.of_below bA, ?_⟩
    clear hK K
    refine stepsQ [6, 7] (by kernel_rfl) (by kernel_rfl) (by kernel_rfl) (Grown.of_below bA) ?_
    simp only [atIdx, List.filterMap_cons, List.filterMap_nil, List.getElem?_toArray, List.getElem_toArray, List.getElem?_cons_zero, List.getElem?_cons_succ, List.getElem_cons_zero, List.getElem_cons_succ]
    iterate 2 (show wpQuiet _ _ _ _ (_ :: _) _; go_big_quiet_step (fail))
    refine wpQuiet_nil ?_
    show stepT _ _ _ _ _ _ _ _ _
    refine stepS (i := 8) rfl (by kernel_rfl) ?_
    intro K hK
    go_simp
    refine (works_any _ G.T).mono ?_
    rintro e w11 ⟨rfl, bx⟩
    have G' := G.below bx
    replace bA := bA.trans (bx.mono bA.size)
    clear G bx
    have G := G'
    clear G'
    refine hK _ _ ⟨fun _ => Grown.of_below bA, ?_⟩
    clear hK K
    refine stepsQ [9, 10] (by kernel_rfl) (by kernel_rfl) (by kernel_rfl) (Grown.of_below bA) ?_
    simp only [atIdx, List.filterMap_cons, List.filterMap_nil, List.getElem?_toArray, List.getElem_toArray, List.getElem?_cons_zero, List.getElem?_cons_succ, List.getElem_cons_zero, List.getElem_cons_succ]
    iterate 2 (show wpQuiet _ _ _ _ (_ :: _) _; go_big_quiet_step (fail))
    refine wpQuiet_nil ?_
    show stepT _ _ _ _ _ _ _ _ _
    refine stepT_end (by kernel_rfl) ?_
    go_wp2_with fail
    go_ret
    exact ⟨rfl, G.bl⟩

namespace leastOneW
set_option maxRecDepth 100000 in
theorem walkRaw {H : Type} (enc : TypeId × Value → H) (v0 v1 : Value) (W : World) {base base' : Nat} {d0 d1 : DataW H} {p0 p1 : List MemPlace}
    (wv0 : Value.okWide Tryd.prog W .any base 26 v0) (h0 : DataW.Trod enc Tryd.prog W 0 (fun _ => true) true 26 v0 d0 p0) (_lt0 : ∀ x ∈ p0, x.block < W.heap.size)
    (wv1 : Value.okWide Tryd.prog W .any base' 26 v1) (h1 : DataW.Trod enc Tryd.prog W 0 (fun _ => true) true 26 v1 d1 p1) (_lt1 : ∀ x ∈ p1, x.block < W.heap.size)
    (hL : laidMet Tryd.prog Rows.leastOneRow.laid W) :
    Calls Tryd.prog 5 #[v0, v1] W fun e w' => e = .returned (.bool true) ∧ Below W.heap.size W w' := by
  obtain ⟨D, hD, hI⟩ := open_dfa wv0 h0
  obtain ⟨E, hE, hJ⟩ := open_dfa wv1 h1
  exact law_one v0 v1 D E W hD hE hI hJ (pow_in hL (by simp [Rows.leastOneRow]))
end leastOneW
end Go.Proofs.YtgkpgjbgcimijaaDoor
