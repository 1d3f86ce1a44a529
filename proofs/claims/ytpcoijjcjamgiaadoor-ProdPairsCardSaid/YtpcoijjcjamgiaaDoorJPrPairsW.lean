/-
  ProdPairs: the walk of the law. Conditions: the automata lie in memory; the table of powers lies as laid.
-/
import Derived.Test.YtpcoijjcjamgiaaDoorJPrRef
import Derived.Test.YtpcoijjcjamgiaaDoorJWord
import Derived.Test.YtpcoijjcjamgiaaDoorJAuTwo
import Derived.Test.YtpcoijjcjamgiaaDoorJAuOpenT
namespace Go.Proofs.YtpcoijjcjamgiaaDoor
set_option linter.unusedVariables false
set_option linter.unusedSimpArgs false
open Go.RowKit Go.Maps Go.Sort Go.ChangeShapes Go.WideShapes

theorem pairsC_ref {A B : DfaI} (h : refN A B ≤ 100) : pairsC A B = (refN A B : Int) ∧ pairsC B A = (refN A B : Int) := by
  unfold pairsC refN at *
  by_cases hr : (rightD A && rightD B) = true
  · have hr' : (rightD B && rightD A) = true := by rw [Bool.and_comm]; exact hr
    rw [if_pos hr] at h
    rw [if_pos hr, if_pos hr, if_pos hr']
    simp only [Bool.and_eq_true] at hr
    have hA := rightD_iff.1 hr.1
    have hB := rightD_iff.1 hr.2
    rw [pairs_any hA hB] at *
    rw [pairs_swap hA hB]
    omega
  · have hr' : ¬ (rightD B && rightD A) = true := by rw [Bool.and_comm]; exact hr
    rw [if_neg hr, if_neg hr, if_neg hr']
    exact ⟨rfl, rfl⟩
set_option maxHeartbeats 8000000 in
set_option maxRecDepth 1000000 in
theorem law_pairs (va vb : Value) (D E : DfaI) (w : World) (ha : DfaAt w va D) (hb : DfaAt w vb E) (hD : D.In) (hE : E.In) (hT : Pow10 w) :
    Calls Tryd.prog 3 #[va, vb] w fun e w' => e = .returned (.bool true) ∧ Below w.heap.size w w' := by
  obtain ⟨S, af, ab, an, F, B, M, cf, cb, cn, hS, hF, hB, hM, rfl⟩ := ha.form
  obtain ⟨S', ef, eb, en, F', B', M', ce, ce', ce'', hS', hF', hB', hM', rfl⟩ := hb.form
  have hM9 := hD.many
  have hM9' := hE.many
  rw [hM] at hM9
  rw [hM'] at hM9'
  have HI := Lib.hid (And.intro hD (And.intro hE (And.intro hM hM')))
  have h0 := TwoD.mk_ ha hb hT
  clear ha hb hT hD hE hF hB hM hF' hB' hM' hS hS'
  obtain ⟨⟨y0, y1, y2, y3⟩, -⟩ := h0.qa.c4
  obtain ⟨⟨x0, x1, x2, x3⟩, -⟩ := h0.qb.c4
  have H0 := Lib.hid h0
  clear h0
  go_enter Tryd.func3, Tryd.ntmps3
  go_wp2_with fail
  generalize (w.alloc (.cells #[.int .i64 S, .slice af F cf, .slice ab B cb, .slice an M cn] 26)).alloc (.cells #[.int .i64 S', .slice ef F' ce, .slice eb B' ce', .slice en M' ce''] 26) = W at *
  clear y0 y1 y2 y3 x0 x1 x2 x3
  refine (great_any _ D W H0.out.a HI.out.1).mono ?_
  rintro e w1 ⟨rfl, bx⟩
  have H1 := Lib.hid (H0.out.below bx)
  clear bx H0
  obtain ⟨⟨y0, y1, y2, y3⟩, -⟩ := H1.out.qa.c4
  obtain ⟨⟨x0, x1, x2, x3⟩, -⟩ := H1.out.qb.c4
  cases hg1 : greatD D with
  | true =>
    clear hg1
    go_wp2_with fail
    refine (prworks_any w1 H1.out.T).mono ?_
    rintro e w' ⟨rfl, b'⟩
    go_wp2_with fail
    go_ret
    exact ⟨rfl, H1.out.bl.trans (b'.mono H1.out.bl.size)⟩
  | false =>
  go_wp2_with fail
  clear y0 y1 y2 y3 x0 x1 x2 x3
  refine (great_any _ E w1 H1.out.b HI.out.2.1).mono ?_
  rintro e w2 ⟨rfl, bx⟩
  have H2 := Lib.hid (H1.out.below bx)
  clear bx H1
  obtain ⟨⟨y0, y1, y2, y3⟩, -⟩ := H2.out.qa.c4
  obtain ⟨⟨x0, x1, x2, x3⟩, -⟩ := H2.out.qb.c4
  cases hg2 : greatD E with
  | true =>
    clear hg2
    go_wp2_with fail
    refine (prworks_any w2 H2.out.T).mono ?_
    rintro e w' ⟨rfl, b'⟩
    go_wp2_with fail
    go_ret
    exact ⟨rfl, H2.out.bl.trans (b'.mono H2.out.bl.size)⟩
  | false =>
  by_cases h12 : 10 < M
  · have k1 : decide (10 < (M : Int)) = true := decide_eq_true (by omega)
    go_wp2_with fail
    refine (prworks_any w2 H2.out.T).mono ?_
    rintro e w' ⟨rfl, b'⟩
    go_wp2_with fail
    go_ret
    exact ⟨rfl, H2.out.bl.trans (b'.mono H2.out.bl.size)⟩
  have k1 : decide (10 < (M : Int)) = false := decide_eq_false (by omega)
  by_cases h12' : 10 < M'
  · have k2 : decide (10 < (M' : Int)) = true := decide_eq_true (by omega)
    go_wp2_with fail
    refine (prworks_any w2 H2.out.T).mono ?_
    rintro e w' ⟨rfl, b'⟩
    go_wp2_with fail
    go_ret
    exact ⟨rfl, H2.out.bl.trans (b'.mono H2.out.bl.size)⟩
  have k2 : decide (10 < (M' : Int)) = false := decide_eq_false (by omega)
  go_wp2_with fail
  clear y0 y1 y2 y3 x0 x1 x2 x3
  refine (refpairs_any _ _ D E w2 H2.out.a H2.out.b HI.out.1 HI.out.2.1 (by rw [HI.out.2.2.1]; omega) (by rw [HI.out.2.2.2]; omega)).mono ?_
  rintro e w3 ⟨rx, ry, rc, rd, rfl, hn, bx⟩
  have H3 := Lib.hid (H2.out.below bx)
  clear bx H2
  obtain ⟨⟨y0, y1, y2, y3⟩, -⟩ := H3.out.qa.c4
  obtain ⟨⟨x0, x1, x2, x3⟩, -⟩ := H3.out.qb.c4
  have HC := Lib.hid (pairsC_ref hn)
  obtain ⟨n, hne⟩ : ∃ n, refN D E = n := ⟨_, rfl⟩
  rw [hne] at HC hn ⊢
  clear hne
  go_wp2_with fail
  clear y0 y1 y2 y3 x0 x1 x2 x3
  refine (pairs_walk _ _ D E w3 H3.out.a H3.out.b HI.out.1 HI.out.2.1).mono ?_
  rintro e w4 ⟨rfl, bx⟩
  rw [HC.out.1]
  have H4 := Lib.hid (H3.out.below bx)
  clear bx H3
  obtain ⟨⟨y0, y1, y2, y3⟩, -⟩ := H4.out.qa.c4
  obtain ⟨⟨x0, x1, x2, x3⟩, -⟩ := H4.out.qb.c4
  go_wp2_with fail
  clear y0 y1 y2 y3 x0 x1 x2 x3
  refine (pairs_walk _ _ E D w4 H4.out.b H4.out.a HI.out.2.1 HI.out.1).mono ?_
  rintro e w5 ⟨rfl, bx⟩
  rw [HC.out.2]
  have H5 := Lib.hid (H4.out.below bx)
  clear bx H4
  obtain ⟨⟨y0, y1, y2, y3⟩, -⟩ := H5.out.qa.c4
  obtain ⟨⟨x0, x1, x2, x3⟩, -⟩ := H5.out.qb.c4
  go_wp2_with fail
  refine (prworks_any w5 H5.out.T).mono ?_
  rintro e w' ⟨rfl, b'⟩
  go_wp2_with fail
  go_ret
  exact ⟨rfl, H5.out.bl.trans (b'.mono H5.out.bl.size)⟩

namespace prodPairsW
set_option maxRecDepth 100000 in
theorem walkRaw {H : Type} (enc : TypeId × Value → H) (v0 v1 : Value) (W : World) {base base' : Nat} {d0 d1 : DataW H} {p0 p1 : List MemPlace}
    (wv0 : Value.okWide Tryd.prog W .any base 26 v0) (h0 : DataW.Trod enc Tryd.prog W 0 (fun _ => true) true 26 v0 d0 p0) (_lt0 : ∀ x ∈ p0, x.block < W.heap.size)
    (wv1 : Value.okWide Tryd.prog W .any base' 26 v1) (h1 : DataW.Trod enc Tryd.prog W 0 (fun _ => true) true 26 v1 d1 p1) (_lt1 : ∀ x ∈ p1, x.block < W.heap.size)
    (hL : laidMet Tryd.prog Rows.prodPairsRow.laid W) :
    Calls Tryd.prog 3 #[v0, v1] W fun e w' => e = .returned (.bool true) ∧ Below W.heap.size W w' := by
  obtain ⟨D, hD, hI⟩ := open_dfa wv0 h0
  obtain ⟨E, hE, hJ⟩ := open_dfa wv1 h1
  exact law_pairs v0 v1 D E W hD hE hI hJ (pow_in hL (by simp [Rows.prodPairsRow]))
end prodPairsW
end Go.Proofs.YtpcoijjcjamgiaaDoor
