/-
  LeastTakes: the walk of the law. Conditions: the automata lie in memory; the table of powers lies as laid.
  LeastTakes: the arguments opened. Conditions: none but the row's.
-/
import Derived.Test.YtgkpgjbgcimijaaDoorAuTwo
import Derived.Test.YtgkpgjbgcimijaaDoorAuRefRight
import Derived.Test.YtgkpgjbgcimijaaDoorAuOpenT
namespace Go.Proofs.YtgkpgjbgcimijaaDoor
set_option linter.unusedVariables false
set_option linter.unusedSimpArgs false
open Go.RowKit Go.Maps Go.Sort Go.ChangeShapes Go.WideShapes

abbrev TwoG (w W : World) (ca cb : Array Value) (vl : Value) (D E L : DfaI) : Prop := TwoD w W ca cb D E ∧ DfaAt W vl L
theorem TwoG.below {w W W' : World} {ca cb : Array Value} {vl : Value} {D E L : DfaI} (h : TwoG w W ca cb vl D E L) (hb : Below W.heap.size W W') : TwoG w W' ca cb vl D E L := ⟨h.1.below hb, h.2.below hb⟩
set_option maxHeartbeats 8000000 in
set_option maxRecDepth 1000000 in
theorem law_takes (va vb : Value) (D E : DfaI) (s : ByteArray) (w : World) (ha : DfaAt w va D) (hb : DfaAt w vb E) (hD : D.In) (hE : E.In) (hs : s.size ≤ maxLen) (hT : Pow10 w) :
    Calls Tryd.prog 4 #[va, vb, .string s] w fun e w' => e = .returned (.bool true) ∧ Below w.heap.size w w' := by
  have hs9 : s.size ≤ 9223372036854775807 := by unfold maxLen at hs; omega
  obtain ⟨S, af, ab, an, F, B, M, cf, cb, cn, hS, hF, hB, hM, rfl⟩ := ha.form
  obtain ⟨S', ef, eb, en, F', B', M', ce, ce', ce'', hS', hF', hB', hM', rfl⟩ := hb.form
  have hM9 := hD.many
  rw [hM] at hM9
  have HI := Lib.hid (And.intro hD (And.intro hE (And.intro hs hM)))
  have h0 := TwoD.mk_ ha hb hT
  clear ha hb hT hD hE hF hB hM hF' hB' hM' hS hS' hs
  obtain ⟨⟨y0, y1, y2, y3⟩, -⟩ := h0.qa.c4
  obtain ⟨⟨x0, x1, x2, x3⟩, -⟩ := h0.qb.c4
  have H0 := Lib.hid h0
  clear h0
  go_enter Tryd.func4, Tryd.ntmps4
  go_wp2_with fail
  clear y0 y1 y2 y3 x0 x1 x2 x3
  generalize (w.alloc (.cells #[.int .i64 S, .slice af F cf, .slice ab B cb, .slice an M cn] 26)).alloc (.cells #[.int .i64 S', .slice ef F' ce, .slice eb B' ce', .slice en M' ce''] 26) = W at *
  refine (great_any _ D W H0.out.a HI.out.1).mono ?_
  rintro e w1 ⟨rfl, b1⟩
  have H1 := Lib.hid (H0.out.below b1)
  clear H0 b1
  obtain ⟨⟨y0, y1, y2, y3⟩, -⟩ := H1.out.qa.c4
  obtain ⟨⟨x0, x1, x2, x3⟩, -⟩ := H1.out.qb.c4
  cases hg1 : greatD D with
  | true =>
    clear hg1
    go_wp2_with fail
    refine (works_any w1 H1.out.T).mono ?_
    rintro e w2 ⟨rfl, b2⟩
    go_wp2_with fail
    go_ret
    exact ⟨rfl, H1.out.bl.trans (b2.mono H1.out.bl.size)⟩
  | false =>
  go_wp2_with fail
  clear y0 y1 y2 y3 x0 x1 x2 x3
  refine (great_any _ E w1 H1.out.b HI.out.2.1).mono ?_
  rintro e w2 ⟨rfl, b2⟩
  have H2 := Lib.hid (H1.out.below b2)
  clear H1 b2
  obtain ⟨⟨y0, y1, y2, y3⟩, -⟩ := H2.out.qa.c4
  obtain ⟨⟨x0, x1, x2, x3⟩, -⟩ := H2.out.qb.c4
  cases hg2 : greatD E with
  | true =>
    clear hg2
    go_wp2_with fail
    refine (works_any w2 H2.out.T).mono ?_
    rintro e w3 ⟨rfl, b3⟩
    go_wp2_with fail
    go_ret
    exact ⟨rfl, H2.out.bl.trans (b3.mono H2.out.bl.size)⟩
  | false =>
  by_cases h40 : 40 < s.size
  · have k1 : decide (40 < (s.size : Int)) = true := decide_eq_true (by omega)
    go_wp2_with fail
    refine (works_any w2 H2.out.T).mono ?_
    rintro e w3 ⟨rfl, b3⟩
    go_wp2_with fail
    go_ret
    exact ⟨rfl, H2.out.bl.trans (b3.mono H2.out.bl.size)⟩
  have k1 : decide (40 < (s.size : Int)) = false := decide_eq_false (by omega)
  go_wp2_with fail
  refine wp_region_T [] (by kernel_rfl) ?_
  intro W bb
  have lc : ∀ {p : Addr} {v : Value}, w2.cell? p = some v → ∀ d os, (Sort.grow (redrawn W d) os).cell? p = some v := fun {p v} hp d os => ((bb.trans ((below_regrown W d os).mono bb.size)).cell (World.block_lt_of_cell? w2 p hp)).trans hp
  have q0 := lc y0
  have q1 := lc y1
  have q2 := lc y2
  have q3 := lc y3
  have q4 := lc x0
  have q5 := lc x1
  have q6 := lc x2
  have q7 := lc x3
  clear lc y0 y1 y2 y3 x0 x1 x2 x3
  refine stepsQ [0, 1, 3, 4] (by kernel_rfl) (by kernel_rfl) (by kernel_rfl) (Grown.of_below (Below.refl _ _)) ?_
  simp only [atIdx, List.filterMap_cons, List.filterMap_nil, List.getElem?_toArray, List.getElem_toArray, List.getElem?_cons_zero, List.getElem?_cons_succ, List.getElem_cons_zero, List.getElem_cons_succ]
  iterate 4 (show wpQuiet _ _ _ _ (_ :: _) _; go_big_quiet_step (fail))
  refine wpQuiet_nil ?_
  show stepT _ _ _ _ _ _ _ _ _
  refine stepS (i := 2) rfl (by kernel_rfl) ?_
  intro K hK
  go_simp
  have G := H2.out.below bb
  refine (lsame_any _ _ D E W G.a G.b HI.out.1 HI.out.2.1).mono ?_
  rintro e w3 ⟨rfl, b3⟩
  obtain ⟨q, hq⟩ : ∃ q, eqD D E = q := ⟨_, rfl⟩
  rw [hq]
  refine hK _ _ ⟨fun _ => Grown.of_below b3, ?_⟩
  clear hK K
  refine stepS (i := 5) rfl (by kernel_rfl) ?_
  intro K hK
  go_simp
  have G3 := G.below b3
  refine (refsame_any _ _ D E w3 G3.a G3.b HI.out.1 HI.out.2.1).mono ?_
  rintro e w4 ⟨rfl, b4⟩
  rw [hq]
  have b34 := b3.trans (b4.mono b3.size)
  refine hK _ _ ⟨fun _ => Grown.of_below b34, ?_⟩
  clear hK K hq
  refine stepsQ [6, 7, 8, 9] (by kernel_rfl) (by kernel_rfl) (by kernel_rfl) (Grown.of_below b34) ?_
  simp only [atIdx, List.filterMap_cons, List.filterMap_nil, List.getElem?_toArray, List.getElem_toArray, List.getElem?_cons_zero, List.getElem?_cons_succ, List.getElem_cons_zero, List.getElem_cons_succ]
  iterate 4 (show wpQuiet _ _ _ _ (_ :: _) _; go_big_quiet_step (fail))
  refine wpQuiet_nil ?_
  show stepT _ _ _ _ _ _ _ _ _
  refine stepS (i := 10) rfl (by kernel_rfl) ?_
  intro K hK
  go_simp
  have G4 := G3.below b4
  refine (lsame_any _ _ D D w4 G4.a G4.a HI.out.1 HI.out.1).mono ?_
  rintro e w5 ⟨rfl, b5⟩
  rw [eqD_refl]
  have b35 := b34.trans (b5.mono b34.size)
  refine hK _ _ ⟨fun _ => Grown.of_below b35, ?_⟩
  clear hK K
  refine stepsQ [11, 12] (by kernel_rfl) (by kernel_rfl) (by kernel_rfl) (Grown.of_below b35) ?_
  simp only [atIdx, List.filterMap_cons, List.filterMap_nil, List.getElem?_toArray, List.getElem_toArray, List.getElem?_cons_zero, List.getElem?_cons_succ, List.getElem_cons_zero, List.getElem_cons_succ]
  iterate 2 (show wpQuiet _ _ _ _ (_ :: _) _; go_big_quiet_step (fail))
  refine wpQuiet_nil ?_
  show stepT _ _ _ _ _ _ _ _ _
  refine stepT_end (by kernel_rfl) ?_
  have H5 := Lib.hid (G4.below b5)
  clear H2 G G3 G4 b3 b4 b5 b34 b35 bb q0 q1 q2 q3 q4 q5 q6 q7
  obtain ⟨⟨y0, y1, y2, y3⟩, -⟩ := H5.out.qa.c4
  obtain ⟨⟨x0, x1, x2, x3⟩, -⟩ := H5.out.qb.c4
  go_wp2_with fail
  refine (of_any _ D w5 H5.out.a HI.out.1 H5.out.T).mono ?_
  rintro e w6 ⟨rv, rfl, h6, b6⟩
  obtain ⟨S2, a1, a2, a3, F2, B2, M2, c1, c2, c3, hS2, hF2, hB2, hM2, rfl⟩ := h6.form
  have hbox := box_lies h6
  unfold boxW at hbox
  have G6 := H5.out.below b6
  have hz6 := b6.size
  clear y0 y1 y2 y3 x0 x1 x2 x3 h6 H5 b6
  obtain ⟨h3, n3, b3⟩ := hbox
  have G7 := G6.below b3
  obtain ⟨⟨y0, y1, y2, y3⟩, -⟩ := G7.qa.c4
  have H7 := Lib.hid (And.intro G7 (And.intro h3 (And.intro n3 hM2)))
  have hM29 := (ofD_in D).many
  rw [hM2] at hM29
  clear G6 G7 h3 n3 b3 hS2 hF2 hB2 hM2
  go_wp2_with fail
  generalize w6.alloc (.cells #[.int .i64 S2, .slice a1 F2 c1, .slice a2 B2 c2, .slice a3 M2 c3] 26) = W3 at *
  refine (refdright_any _ D W3 H7.out.1.a HI.out.1).mono ?_
  rintro e w7 ⟨rfl, b7⟩
  have H8 := Lib.hid (And.intro (H7.out.1.below b7) (And.intro (H7.out.2.1.below b7) (H7.out.2.2.1.below b7 H7.out.2.2.1.lt)))
  have hM2 := H7.out.2.2.2
  clear y0 y1 y2 y3 H7 b7
  obtain ⟨⟨y0, y1, y2, y3⟩, -⟩ := H8.out.1.qa.c4
  obtain ⟨⟨x0, x1, x2, x3⟩, -⟩ := H8.out.2.2.c4
  cases hr : rightD D with
  | false =>
    have k3 : M2 = 0 := by rw [← hM2, ofD_neg hr]; rfl
    subst k3
    clear hr hM2
    go_wp2_with fail
    refine (works_any w7 H8.out.1.T).mono ?_
    rintro e w8 ⟨rfl, b8⟩
    go_wp2_with fail
    go_ret
    exact ⟨rfl, H8.out.1.bl.trans (b8.mono H8.out.1.bl.size)⟩
  | true =>
  have hR := rightD_iff.1 hr
  go_wp2_with fail
  have kR : rightD (ofD D) = true := rightD_iff.2 (ofD_right hR)
  have kO := ofD_ofD hR
  have kS : runD (ofD D) s = runD D s := by unfold runD; rw [kR, hr, ofD_lang hR (bytesTo_in s _)]
  have kL := ofD_len hR
  have kE := ofD_reach hR
  rw [hM2] at kL kE
  obtain ⟨R, hRe⟩ : ∃ R, (reachD D).length = R := ⟨_, rfl⟩
  rw [hRe] at kL
  have kI := ofD_in D
  obtain ⟨q, hq⟩ : ∃ q, runD D s = q := ⟨_, rfl⟩
  have kL2 : decide (M2 ≤ R) = true := decide_eq_true kL
  have HV := Lib.hid (And.intro kR (And.intro kO (And.intro (kS.trans hq) (And.intro kE (And.intro kI (And.intro hq hRe))))))
  have H9 := Lib.hid (And.intro H8.out.1 H8.out.2.1)
  clear kR kO kS kE kI hq hRe hr hM2 hR H8
  refine wp_region_T [] (by kernel_rfl) ?_
  intro W bb
  have lc : ∀ {p : Addr} {v : Value}, w7.cell? p = some v → ∀ d os, (Sort.grow (redrawn W d) os).cell? p = some v := fun {p v} hp d os => ((bb.trans ((below_regrown W d os).mono bb.size)).cell (World.block_lt_of_cell? w7 p hp)).trans hp
  have q0 := lc y0
  have q1 := lc y1
  have q2 := lc y2
  have q3 := lc y3
  have q4 := lc x0
  have q5 := lc x1
  have q6 := lc x2
  have q7 := lc x3
  clear lc y0 y1 y2 y3 x0 x1 x2 x3
  have bA : Below W.heap.size W W := Below.refl _ _
  have G : TwoG w W #[.int .i64 S, .slice af F cf, .slice ab B cb, .slice an M cn] #[.int .i64 S', .slice ef F' ce, .slice eb B' ce', .slice en M' ce''] (.agg #[.int .i64 S2, .slice a1 F2 c1, .slice a2 B2 c2, .slice a3 M2 c3]) D E (ofD D) := ⟨H9.out.1.below bb, H9.out.2.below bb⟩
  clear bb H9
  refine stepsQ [0] (by kernel_rfl) (by kernel_rfl) (by kernel_rfl) (Grown.of_below bA) ?_
  simp only [atIdx, List.filterMap_cons, List.filterMap_nil, List.getElem?_toArray, List.getElem_toArray, List.getElem?_cons_zero, List.getElem?_cons_succ, List.getElem_cons_zero, List.getElem_cons_succ]
  iterate 1 (show wpQuiet _ _ _ _ (_ :: _) _; go_big_quiet_step (fail))
  refine wpQuiet_nil ?_
  show stepT _ _ _ _ _ _ _ _ _
  refine stepS (i := 1) rfl (by kernel_rfl) ?_
  intro K hK
  go_simp
  refine (refdright_any _ _ _ G.2 HV.out.2.2.2.2.1).mono ?_
  rintro e w8 ⟨rfl, bx⟩
  rw [HV.out.1]
  have G' := G.below bx
  replace bA := bA.trans (bx.mono bA.size)
  clear G bx
  have G := G'
  clear G'
  refine hK _ _ ⟨fun _ => Grown.of_below bA, ?_⟩
  clear hK K
  refine stepsQ [2, 3, 4, 6, 7] (by kernel_rfl) (by kernel_rfl) (by kernel_rfl) (Grown.of_below bA) ?_
  simp only [atIdx, List.filterMap_cons, List.filterMap_nil, List.getElem?_toArray, List.getElem_toArray, List.getElem?_cons_zero, List.getElem?_cons_succ, List.getElem_cons_zero, List.getElem_cons_succ]
  iterate 5 (show wpQuiet _ _ _ _ (_ :: _) _; go_big_quiet_step (fail))
  refine wpQuiet_nil ?_
  show stepT _ _ _ _ _ _ _ _ _
  refine stepS (i := 5) rfl (by kernel_rfl) ?_
  intro K hK
  go_simp
  refine (run_any _ s _ _ G.2 HV.out.2.2.2.2.1 HI.out.2.2.1).mono ?_
  rintro e w9 ⟨rfl, bx⟩
  rw [HV.out.2.2.1]
  have G' := G.below bx
  replace bA := bA.trans (bx.mono bA.size)
  clear G bx
  have G := G'
  clear G'
  refine hK _ _ ⟨fun _ => Grown.of_below bA, ?_⟩
  clear hK K
  refine stepS (i := 8) rfl (by kernel_rfl) ?_
  intro K hK
  go_simp
  refine (run_any _ s D _ G.1.a HI.out.1 HI.out.2.2.1).mono ?_
  rintro e w10 ⟨rfl, bx⟩
  rw [HV.out.2.2.2.2.2.1]
  have G' := G.below bx
  replace bA := bA.trans (bx.mono bA.size)
  clear G bx
  have G := G'
  clear G'
  refine hK _ _ ⟨fun _ => Grown.of_below bA, ?_⟩
  clear hK K
  refine stepsQ [9, 10, 11, 12, 14] (by kernel_rfl) (by kernel_rfl) (by kernel_rfl) (Grown.of_below bA) ?_
  simp only [atIdx, List.filterMap_cons, List.filterMap_nil, List.getElem?_toArray, List.getElem_toArray, List.getElem?_cons_zero, List.getElem?_cons_succ, List.getElem_cons_zero, List.getElem_cons_succ]
  iterate 5 (show wpQuiet _ _ _ _ (_ :: _) _; go_big_quiet_step (fail))
  refine wpQuiet_nil ?_
  show stepT _ _ _ _ _ _ _ _ _
  refine stepS (i := 13) rfl (by kernel_rfl) ?_
  intro K hK
  go_simp
  refine (of_any _ _ _ G.2 HV.out.2.2.2.2.1 G.1.T).mono ?_
  rintro e w11 ⟨rv, rfl, hl, bx⟩
  rw [HV.out.2.1] at hl
  have G' := G.below bx
  replace bA := bA.trans (bx.mono bA.size)
  clear G bx
  have G := G'
  clear G'
  refine hK _ _ ⟨fun _ => Grown.of_below bA, ?_⟩
  clear hK K
  refine stepS (i := 15) rfl (by kernel_rfl) ?_
  intro K hK
  go_simp
  refine (refsame_any _ _ _ _ _ hl G.2 HV.out.2.2.2.2.1 HV.out.2.2.2.2.1).mono ?_
  rintro e w12 ⟨rfl, bx⟩
  rw [eqD_refl]
  clear hl
  have G' := G.below bx
  replace bA := bA.trans (bx.mono bA.size)
  clear G bx
  have G := G'
  clear G'
  refine hK _ _ ⟨fun _ => Grown.of_below bA, ?_⟩
  clear hK K
  refine stepsQ [16, 17, 18, 19, 20, 21] (by kernel_rfl) (by kernel_rfl) (by kernel_rfl) (Grown.of_below bA) ?_
  simp only [atIdx, List.filterMap_cons, List.filterMap_nil, List.getElem?_toArray, List.getElem_toArray, List.getElem?_cons_zero, List.getElem?_cons_succ, List.getElem_cons_zero, List.getElem_cons_succ]
  iterate 6 (show wpQuiet _ _ _ _ (_ :: _) _; go_big_quiet_step (fail))
  refine wpQuiet_nil ?_
  show stepT _ _ _ _ _ _ _ _ _
  refine stepS (i := 22) rfl (by kernel_rfl) ?_
  intro K hK
  go_simp
  refine (reached_any _ D _ G.1.a HI.out.1).mono ?_
  rintro e w13 ⟨rv, rfl, hown, bx⟩
  obtain ⟨ra, rc, rfl⟩ := own_shape hown
  clear hown
  rw [HV.out.2.2.2.2.2.2]
  have G' := G.below bx
  replace bA := bA.trans (bx.mono bA.size)
  clear G bx
  have G := G'
  clear G'
  refine hK _ _ ⟨fun _ => Grown.of_below bA, ?_⟩
  clear hK K
  refine stepsQ [23, 24, 25, 26, 27, 30, 31, 32] (by kernel_rfl) (by kernel_rfl) (by kernel_rfl) (Grown.of_below bA) ?_
  simp only [atIdx, List.filterMap_cons, List.filterMap_nil, List.getElem?_toArray, List.getElem_toArray, List.getElem?_cons_zero, List.getElem?_cons_succ, List.getElem_cons_zero, List.getElem_cons_succ]
  iterate 8 (show wpQuiet _ _ _ _ (_ :: _) _; go_big_quiet_step (fail))
  refine wpQuiet_nil ?_
  show stepT _ _ _ _ _ _ _ _ _
  refine stepS (i := 28) rfl (by kernel_rfl) ?_
  intro K hK
  go_simp
  refine (reached_any _ _ _ G.2 HV.out.2.2.2.2.1).mono ?_
  rintro e w14 ⟨rv, rfl, hown, bx⟩
  obtain ⟨ra', rc', rfl⟩ := own_shape hown
  clear hown
  rw [HV.out.2.2.2.1]
  have G' := G.below bx
  replace bA := bA.trans (bx.mono bA.size)
  clear G bx
  have G := G'
  clear G'
  refine hK _ _ ⟨fun _ => Grown.of_below bA, ?_⟩
  clear hK K
  refine stepsQ [29, 33, 34, 35] (by kernel_rfl) (by kernel_rfl) (by kernel_rfl) (Grown.of_below bA) ?_
  simp only [atIdx, List.filterMap_cons, List.filterMap_nil, List.getElem?_toArray, List.getElem_toArray, List.getElem?_cons_zero, List.getElem?_cons_succ, List.getElem_cons_zero, List.getElem_cons_succ]
  iterate 4 (show wpQuiet _ _ _ _ (_ :: _) _; go_big_quiet_step (fail))
  refine wpQuiet_nil ?_
  show stepT _ _ _ _ _ _ _ _ _
  refine stepS (i := 36) rfl (by kernel_rfl) ?_
  intro K hK
  go_simp
  refine (works_any _ G.1.T).mono ?_
  rintro e w15 ⟨rfl, bx⟩
  have G' := G.below bx
  replace bA := bA.trans (bx.mono bA.size)
  clear G bx
  have G := G'
  clear G'
  refine hK _ _ ⟨fun _ => Grown.of_below bA, ?_⟩
  clear hK K
  refine stepsQ [37, 38] (by kernel_rfl) (by kernel_rfl) (by kernel_rfl) (Grown.of_below bA) ?_
  simp only [atIdx, List.filterMap_cons, List.filterMap_nil, List.getElem?_toArray, List.getElem_toArray, List.getElem?_cons_zero, List.getElem?_cons_succ, List.getElem_cons_zero, List.getElem_cons_succ]
  iterate 2 (show wpQuiet _ _ _ _ (_ :: _) _; go_big_quiet_step (fail))
  refine wpQuiet_nil ?_
  show stepT _ _ _ _ _ _ _ _ _
  refine stepT_end (by kernel_rfl) ?_
  go_wp2_with fail
  go_ret
  exact ⟨rfl, G.1.bl⟩
end Go.Proofs.YtgkpgjbgcimijaaDoor
namespace Go.Proofs.YtgkpgjbgcimijaaDoor
set_option linter.unusedVariables false
open Go.RowKit Go.Sort Go.ChangeShapes Go.WideShapes
namespace leastTakesW
set_option maxRecDepth 100000 in
theorem walkRaw {H : Type} (enc : TypeId × Value → H) (v0 v1 : Value) (a2 : ByteArray) (W : World) {base base' : Nat} {d0 d1 : DataW H} {p0 p1 : List MemPlace}
    (wv0 : Value.okWide Tryd.prog W .any base 26 v0) (h0 : DataW.Trod enc Tryd.prog W 0 (fun _ => true) true 26 v0 d0 p0) (_lt0 : ∀ x ∈ p0, x.block < W.heap.size)
    (wv1 : Value.okWide Tryd.prog W .any base' 26 v1) (h1 : DataW.Trod enc Tryd.prog W 0 (fun _ => true) true 26 v1 d1 p1) (_lt1 : ∀ x ∈ p1, x.block < W.heap.size)
    (w2 : a2.size ≤ maxLen) (hL : laidMet Tryd.prog Rows.leastTakesRow.laid W) :
    Calls Tryd.prog 4 #[v0, v1, .string a2] W fun e w' => e = .returned (.bool true) ∧ Below W.heap.size W w' := by
  obtain ⟨D, hD, hI⟩ := open_dfa wv0 h0
  obtain ⟨E, hE, hJ⟩ := open_dfa wv1 h1
  exact law_takes v0 v1 D E a2 W hD hE hI hJ w2 (pow_in hL (by simp [Rows.leastTakesRow]))
end leastTakesW
end Go.Proofs.YtgkpgjbgcimijaaDoor
