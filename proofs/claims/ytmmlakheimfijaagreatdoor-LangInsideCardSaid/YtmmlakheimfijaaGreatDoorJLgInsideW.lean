/-
  LangInside: the walk of the law. Conditions: the automata lie in memory; the table of powers lies as laid.
-/
import Derived.Test.YtmmlakheimfijaaGreatDoorJLgLawPl
import Derived.Test.YtmmlakheimfijaaGreatDoorJLgWorks
import Derived.Test.YtmmlakheimfijaaGreatDoorJAuApartW
import Derived.Test.YtmmlakheimfijaaGreatDoorJDfa
import Derived.Test.YtmmlakheimfijaaGreatDoorJAuOpenT
import Derived.Test.YtmmlakheimfijaaGreatDoorJAuTwo
namespace Go.Proofs.YtmmlakheimfijaaGreatDoor
set_option linter.unusedVariables false
set_option linter.unusedSimpArgs false
open Go.RowKit Go.Maps Go.Sort Go.ChangeShapes Go.WideShapes

/-- the law's two automata, and the both of them -/
structure TwoA (w W : World) (ca cb cc : Array Value) (p : Nat) (D E : DfaI) : Prop where
  t : TwoD w W ca cb D E
  o : DfaAt W (.agg cc) (bothD andB D E)
  q : Blk W p 26 cc
theorem TwoA.below {w W W' : World} {ca cb cc : Array Value} {p : Nat} {D E : DfaI} (h : TwoA w W ca cb cc p D E) (hb : Below W.heap.size W W') : TwoA w W' ca cb cc p D E :=
  ⟨h.t.below hb, h.o.below hb, h.q.below hb h.q.lt⟩
set_option maxHeartbeats 8000000 in
set_option maxRecDepth 1000000 in
theorem law_linside (va vb : Value) (D E : DfaI) (w : World) (ha : DfaAt w va D) (hb : DfaAt w vb E) (hD : D.In) (hE : E.In) (hT : Pow10 w) :
    Calls Tryz.prog 6 #[va, vb] w fun e w' => e = .returned (.bool true) ∧ Below w.heap.size w w' := by
  obtain ⟨S, af, ab, an, F, B, M, cf, cb, cn, hS, hF, hB, hM, rfl⟩ := ha.form
  obtain ⟨S', ef, eb, en, F', B', M', ce, ce', ce'', hS', hF', hB', hM', rfl⟩ := hb.form
  have hM9 := hD.many
  have hM9' := hE.many
  rw [hM] at hM9
  rw [hM'] at hM9'
  have HI := Lib.hid (And.intro hD (And.intro hE (And.intro hM hM')))
  have h0 := TwoD.mk_ ha hb hT
  clear ha hb hT hD hE hF hB hM hF' hB' hM' hS hS'
  obtain ⟨⟨y0, y1, y2, y3⟩, -⟩ := h0.qa.c4
  obtain ⟨⟨x0, x1, x2, x3⟩, -⟩ := h0.qb.c4
  have H0 := Lib.hid h0
  clear h0
  go_enter Tryz.func6, Tryz.ntmps6
  go_wp2_with fail
  generalize (w.alloc (.cells #[.int .i64 S, .slice af F cf, .slice ab B cb, .slice an M cn] 26)).alloc (.cells #[.int .i64 S', .slice ef F' ce, .slice eb B' ce', .slice en M' ce''] 26) = W at *
  clear y0 y1 y2 y3 x0 x1 x2 x3
  refine (great_any _ D W H0.out.a HI.out.1).mono ?_
  rintro e w1 ⟨rfl, bx⟩
  have H1 := Lib.hid (H0.out.below bx)
  clear bx H0
  obtain ⟨⟨y0, y1, y2, y3⟩, -⟩ := H1.out.qa.c4
  obtain ⟨⟨x0, x1, x2, x3⟩, -⟩ := H1.out.qb.c4
  cases hg1 : greatD D with
  | true =>
    clear hg1
    go_wp2_with fail
    refine (lgworks_any w1 H1.out.T).mono ?_
    rintro e w' ⟨rfl, b'⟩
    go_wp2_with fail
    go_ret
    exact ⟨rfl, H1.out.bl.trans (b'.mono H1.out.bl.size)⟩
  | false =>
  go_wp2_with fail
  clear y0 y1 y2 y3 x0 x1 x2 x3
  refine (great_any _ E w1 H1.out.b HI.out.2.1).mono ?_
  rintro e w2 ⟨rfl, bx⟩
  have H2 := Lib.hid (H1.out.below bx)
  clear bx H1
  obtain ⟨⟨y0, y1, y2, y3⟩, -⟩ := H2.out.qa.c4
  obtain ⟨⟨x0, x1, x2, x3⟩, -⟩ := H2.out.qb.c4
  cases hg2 : greatD E with
  | true =>
    clear hg2
    go_wp2_with fail
    refine (lgworks_any w2 H2.out.T).mono ?_
    rintro e w' ⟨rfl, b'⟩
    go_wp2_with fail
    go_ret
    exact ⟨rfl, H2.out.bl.trans (b'.mono H2.out.bl.size)⟩
  | false =>
  by_cases h12 : 10 < M
  · have k1 : decide (10 < (M : Int)) = true := decide_eq_true (by omega)
    go_wp2_with fail
    refine (lgworks_any w2 H2.out.T).mono ?_
    rintro e w' ⟨rfl, b'⟩
    go_wp2_with fail
    go_ret
    exact ⟨rfl, H2.out.bl.trans (b'.mono H2.out.bl.size)⟩
  have k1 : decide (10 < (M : Int)) = false := decide_eq_false (by omega)
  by_cases h12' : 10 < M'
  · have k2 : decide (10 < (M' : Int)) = true := decide_eq_true (by omega)
    go_wp2_with fail
    refine (lgworks_any w2 H2.out.T).mono ?_
    rintro e w' ⟨rfl, b'⟩
    go_wp2_with fail
    go_ret
    exact ⟨rfl, H2.out.bl.trans (b'.mono H2.out.bl.size)⟩
  have k2 : decide (10 < (M' : Int)) = false := decide_eq_false (by omega)
  go_wp2_with fail
  clear y0 y1 y2 y3 x0 x1 x2 x3
  clear hg1 hg2 k1 k2
  refine (inside_any _ _ D E w2 H2.out.a H2.out.b HI.out.1 HI.out.2.1 H2.out.T).mono ?_
  rintro e w3 ⟨rfl, bx⟩
  have H3 := Lib.hid (H2.out.below bx)
  clear bx H2
  obtain ⟨⟨y0, y1, y2, y3⟩, -⟩ := H3.out.qa.c4
  obtain ⟨⟨x0, x1, x2, x3⟩, -⟩ := H3.out.qb.c4
  cases hr1 : rightD D with
  | false =>
    have hwr := wrong_alike (D := D) (E := E) (by rw [hr1]; rfl)
    rw [hwr.2.1, hwr.2.2]
    go_wp2_with fail
    clear y0 y1 y2 y3 x0 x1 x2 x3
    refine (refdright_any _ D w3 H3.out.a HI.out.1).mono ?_
    rintro e w4 ⟨rfl, bx⟩
    rw [hr1]
    clear hr1
    have H4 := Lib.hid (H3.out.below bx)
    clear bx H3
    obtain ⟨⟨y0, y1, y2, y3⟩, -⟩ := H4.out.qa.c4
    obtain ⟨⟨x0, x1, x2, x3⟩, -⟩ := H4.out.qb.c4
    go_wp2_with fail
    clear y0 y1 y2 y3 x0 x1 x2 x3
    refine (alike_any _ _ _ _ w4 H4.out.a H4.out.b HI.out.1 HI.out.2.1 H4.out.T).mono ?_
    rintro e w6 ⟨rfl, bx⟩
    rw [hwr.1]
    have H6 := Lib.hid (H4.out.below bx)
    clear bx H4
    obtain ⟨⟨y0, y1, y2, y3⟩, -⟩ := H6.out.qa.c4
    obtain ⟨⟨x0, x1, x2, x3⟩, -⟩ := H6.out.qb.c4
    go_wp2_with fail
    refine (lgworks_any w6 H6.out.T).mono ?_
    rintro e w' ⟨rfl, b'⟩
    go_wp2_with fail
    go_ret
    exact ⟨rfl, H6.out.bl.trans (b'.mono H6.out.bl.size)⟩
  | true =>
  cases hr2 : rightD E with
  | false =>
    have hwr := wrong_alike (D := D) (E := E) (by rw [hr1, hr2]; rfl)
    rw [hwr.2.1, hwr.2.2]
    go_wp2_with fail
    clear y0 y1 y2 y3 x0 x1 x2 x3
    refine (refdright_any _ D w3 H3.out.a HI.out.1).mono ?_
    rintro e w4 ⟨rfl, bx⟩
    rw [hr1]
    clear hr1
    have H4 := Lib.hid (H3.out.below bx)
    clear bx H3
    obtain ⟨⟨y0, y1, y2, y3⟩, -⟩ := H4.out.qa.c4
    obtain ⟨⟨x0, x1, x2, x3⟩, -⟩ := H4.out.qb.c4
    go_wp2_with fail
    clear y0 y1 y2 y3 x0 x1 x2 x3
    refine (refdright_any _ E w4 H4.out.b HI.out.2.1).mono ?_
    rintro e w5 ⟨rfl, bx⟩
    rw [hr2]
    clear hr2
    have H5 := Lib.hid (H4.out.below bx)
    clear bx H4
    obtain ⟨⟨y0, y1, y2, y3⟩, -⟩ := H5.out.qa.c4
    obtain ⟨⟨x0, x1, x2, x3⟩, -⟩ := H5.out.qb.c4
    go_wp2_with fail
    clear y0 y1 y2 y3 x0 x1 x2 x3
    refine (alike_any _ _ _ _ w5 H5.out.a H5.out.b HI.out.1 HI.out.2.1 H5.out.T).mono ?_
    rintro e w6 ⟨rfl, bx⟩
    rw [hwr.1]
    have H6 := Lib.hid (H5.out.below bx)
    clear bx H5
    obtain ⟨⟨y0, y1, y2, y3⟩, -⟩ := H6.out.qa.c4
    obtain ⟨⟨x0, x1, x2, x3⟩, -⟩ := H6.out.qb.c4
    go_wp2_with fail
    refine (lgworks_any w6 H6.out.T).mono ?_
    rintro e w' ⟨rfl, b'⟩
    go_wp2_with fail
    go_ret
    exact ⟨rfl, H6.out.bl.trans (b'.mono H6.out.bl.size)⟩
  | true =>
  have hR1 := rightD_iff.1 hr1
  have hR2 := rightD_iff.1 hr2
  have hl1 : (pairsL D E).length ≤ 4096 := by have := pairs_small hR1 hR2 (by rw [HI.out.2.2.1]; omega) (by rw [HI.out.2.2.2]; omega); omega
  have hl2 : (pairsL E D).length ≤ 4096 := by have := pairs_small hR2 hR1 (by rw [HI.out.2.2.2]; omega) (by rw [HI.out.2.2.1]; omega); omega
  have hl3 : (pairsL D E).length ≤ 100 := Nat.le_trans (pairs_le hR1 hR2) (Nat.mul_le_mul (by rw [HI.out.2.2.1]; omega : _ ≤ 10) (by rw [HI.out.2.2.2]; omega : _ ≤ 10))
  have HR := Lib.hid (And.intro hR1 (And.intro hR2 (And.intro hl1 (And.intro hl2 (And.intro hr1 (And.intro hr2 hl3))))))
  obtain ⟨i, hi⟩ : ∃ i, insideB D E = i := ⟨_, rfl⟩
  obtain ⟨j, hj⟩ : ∃ j, insideB E D = j := ⟨_, rfl⟩
  have HE := Lib.hid (And.intro hi hj)
  rw [hi, (bothD_eq (op := andB) hR1 hR2 hl1).2]
  clear hR1 hR2 hl1 hl2 hl3 hr1 hr2 hi hj
  go_wp2_with fail
  clear y0 y1 y2 y3 x0 x1 x2 x3
  refine (refdright_any _ D w3 H3.out.a HI.out.1).mono ?_
  rintro e w4 ⟨rfl, bx⟩
  rw [HR.out.2.2.2.2.1]
  have H4 := Lib.hid (H3.out.below bx)
  clear bx H3
  obtain ⟨⟨y0, y1, y2, y3⟩, -⟩ := H4.out.qa.c4
  obtain ⟨⟨x0, x1, x2, x3⟩, -⟩ := H4.out.qb.c4
  go_wp2_with fail
  clear y0 y1 y2 y3 x0 x1 x2 x3
  refine (refdright_any _ E w4 H4.out.b HI.out.2.1).mono ?_
  rintro e w5 ⟨rfl, bx⟩
  rw [HR.out.2.2.2.2.2.1]
  have H5 := Lib.hid (H4.out.below bx)
  clear bx H4
  obtain ⟨⟨y0, y1, y2, y3⟩, -⟩ := H5.out.qa.c4
  obtain ⟨⟨x0, x1, x2, x3⟩, -⟩ := H5.out.qb.c4
  go_wp2_with fail
  clear y0 y1 y2 y3 x0 x1 x2 x3
  refine (inside_any _ _ E D w5 H5.out.b H5.out.a HI.out.2.1 HI.out.1 H5.out.T).mono ?_
  rintro e w6 ⟨rfl, bx⟩
  rw [HE.out.2, (bothD_eq (op := andB) HR.out.2.1 HR.out.1 HR.out.2.2.2.1).2]
  have H6 := Lib.hid (H5.out.below bx)
  clear bx H5
  obtain ⟨⟨y0, y1, y2, y3⟩, -⟩ := H6.out.qa.c4
  obtain ⟨⟨x0, x1, x2, x3⟩, -⟩ := H6.out.qb.c4
  go_wp2_with fail
  clear y0 y1 y2 y3 x0 x1 x2 x3
  refine (and_any _ _ D E w6 H6.out.a H6.out.b HI.out.1 HI.out.2.1 H6.out.T).mono ?_
  rintro e w7 ⟨rv, rfl, ho, bx⟩
  rw [(bothD_eq (op := andB) HR.out.1 HR.out.2.1 HR.out.2.2.1).2]
  have ho' := ho.at_
  obtain ⟨S3, f3, g3, n3, F3, K3, M3, cf3, ck3, cn3, -, -, -, -, rfl⟩ := ho'.form
  have hal := (Below.refl w7.heap.size w7).alloc (Nat.le_refl _) (.cells #[.int .i64 S3, .slice f3 F3 cf3, .slice g3 K3 ck3, .slice n3 M3 cn3] 26)
  have H7 := Lib.hid (TwoA.mk ((H6.out.below bx).below hal) (ho'.below hal) (Blk.new w7 26 #[.int .i64 S3, .slice f3 F3 cf3, .slice g3 K3 ck3, .slice n3 M3 cn3]))
  obtain ⟨⟨y0, y1, y2, y3⟩, -⟩ := (H6.out.below bx).qa.c4
  clear ho ho' hal bx H6 y0 y1 y2 y3
  obtain ⟨p3, hp3⟩ : ∃ p, w7.heap.size = p := ⟨_, rfl⟩
  obtain ⟨⟨z0, z1, z2, z3⟩, -⟩ := H7.out.q.c4
  go_wp2_with fail
  generalize w7.alloc (.cells #[.int .i64 S3, .slice f3 F3 cf3, .slice g3 K3 ck3, .slice n3 M3 cn3] 26) = W7 at *
  rw [hp3] at H7
  clear hp3 z0 z1 z2 z3
  refine (refdright_any _ _ _ H7.out.o (bothD_in _ _ _)).mono ?_
  rintro e w8 ⟨rfl, bx⟩
  rw [rightD_iff.2 (bothD_right (op := andB) HR.out.1 HR.out.2.1 HR.out.2.2.1)]
  have H8 := Lib.hid (H7.out.below bx)
  clear bx H7
  obtain ⟨⟨y0, y1, y2, y3⟩, -⟩ := H8.out.t.qa.c4
  obtain ⟨⟨x0, x1, x2, x3⟩, -⟩ := H8.out.t.qb.c4
  obtain ⟨⟨z0, z1, z2, z3⟩, -⟩ := H8.out.q.c4
  go_wp2_with fail
  clear y0 y1 y2 y3 x0 x1 x2 x3 z0 z1 z2 z3
  refine (refapart_any _ _ _ D w8 H8.out.o H8.out.t.a (bothD_right (op := andB) HR.out.1 HR.out.2.1 HR.out.2.2.1) HR.out.1 (Nat.le_trans (bothD_small HR.out.1 HR.out.2.1 HR.out.2.2.1) (by have := HR.out.2.2.2.2.2.2; omega)) (by rw [HI.out.2.2.1]; omega)).mono ?_
  rintro e w9 ⟨s1, b1, rfl, hs1, hbt1, hbf1, bx⟩
  have hb1 := inside_apart HR.out.1 HR.out.2.1 HR.out.2.2.1 (bytesTo_in s1 s1.size) hbt1 hbf1
  rw [HE.out.1] at hb1
  clear hbt1 hbf1
  have H9 := Lib.hid (H8.out.below bx)
  clear bx H8
  obtain ⟨⟨y0, y1, y2, y3⟩, -⟩ := H9.out.t.qa.c4
  obtain ⟨⟨x0, x1, x2, x3⟩, -⟩ := H9.out.t.qb.c4
  obtain ⟨⟨z0, z1, z2, z3⟩, -⟩ := H9.out.q.c4
  go_wp2_with fail
  clear y0 y1 y2 y3 x0 x1 x2 x3 z0 z1 z2 z3
  refine (refapart_any _ _ D E w9 H9.out.t.a H9.out.t.b HR.out.1 HR.out.2.1 (by rw [HI.out.2.2.1]; omega) (by rw [HI.out.2.2.2]; omega)).mono ?_
  rintro e w10 ⟨s2, b2, rfl, hs2, hbt2, hbf2, bx⟩
  have hb2 := alike_apart HR.out.1 HR.out.2.1 (bytesTo_in s2 s2.size) hbt2 hbf2
  have hb3 := inside_both HR.out.1 HR.out.2.1 HR.out.2.2.1 HR.out.2.2.2.1
  rw [HE.out.1, HE.out.2, hb2] at hb3
  have HE2 := Lib.hid hb2
  clear hbt2 hbf2 hb2
  have HX := Lib.hid (H9.out.below bx)
  clear bx H9
  obtain ⟨⟨y0, y1, y2, y3⟩, -⟩ := HX.out.t.qa.c4
  obtain ⟨⟨x0, x1, x2, x3⟩, -⟩ := HX.out.t.qb.c4
  obtain ⟨⟨z0, z1, z2, z3⟩, -⟩ := HX.out.q.c4
  have e1 : (i != b1) = true := by rw [hb1]; cases b1 <;> rfl
  have e2 : ((!b2) != b2) = true := by cases b2 <;> rfl
  have e3 : ((i && j) != b2) = true := by rw [hb3]; exact e2
  have EE := Lib.hid (And.intro e1 (And.intro e2 e3))
  clear hb1 hb3 e1 e2 e3
  cases i with
  | true =>
    obtain rfl : b1 = false := by have := EE.out.1; revert this; cases b1 <;> decide
    obtain rfl : b2 = !j := by have := EE.out.2.2; revert this; cases b2 <;> cases j <;> decide
    cases j with
    | true =>
      go_wp2_with fail
      clear y0 y1 y2 y3 x0 x1 x2 x3 z0 z1 z2 z3
      refine (alike_any _ _ D E w10 HX.out.t.a HX.out.t.b HI.out.1 HI.out.2.1 HX.out.t.T).mono ?_
      rintro e w11 ⟨rfl, bx⟩
      rw [HE2.out]
      have HY := Lib.hid (HX.out.below bx)
      clear bx HX
      obtain ⟨⟨y0, y1, y2, y3⟩, -⟩ := HY.out.t.qa.c4
      obtain ⟨⟨x0, x1, x2, x3⟩, -⟩ := HY.out.t.qb.c4
      obtain ⟨⟨z0, z1, z2, z3⟩, -⟩ := HY.out.q.c4
      go_wp2_with fail
      clear y0 y1 y2 y3 x0 x1 x2 x3 z0 z1 z2 z3
      have HH := Lib.hid HY.out.t
      clear HY
      refine (lgworks_any w11 HH.out.T).mono ?_
      rintro e w' ⟨rfl, b'⟩
      go_wp2_with fail
      go_ret
      exact ⟨rfl, HH.out.bl.trans (b'.mono HH.out.bl.size)⟩
    | false =>
      go_wp2_with fail
      clear y0 y1 y2 y3 x0 x1 x2 x3 z0 z1 z2 z3
      refine (alike_any _ _ D E w10 HX.out.t.a HX.out.t.b HI.out.1 HI.out.2.1 HX.out.t.T).mono ?_
      rintro e w11 ⟨rfl, bx⟩
      rw [HE2.out]
      have HY := Lib.hid (HX.out.below bx)
      clear bx HX
      obtain ⟨⟨y0, y1, y2, y3⟩, -⟩ := HY.out.t.qa.c4
      obtain ⟨⟨x0, x1, x2, x3⟩, -⟩ := HY.out.t.qb.c4
      obtain ⟨⟨z0, z1, z2, z3⟩, -⟩ := HY.out.q.c4
      go_wp2_with fail
      clear y0 y1 y2 y3 x0 x1 x2 x3 z0 z1 z2 z3
      have HH := Lib.hid HY.out.t
      clear HY
      refine (lgworks_any w11 HH.out.T).mono ?_
      rintro e w' ⟨rfl, b'⟩
      go_wp2_with fail
      go_ret
      exact ⟨rfl, HH.out.bl.trans (b'.mono HH.out.bl.size)⟩
  | false =>
    obtain rfl : b1 = true := by have := EE.out.1; revert this; cases b1 <;> decide
    obtain rfl : b2 = true := by have := EE.out.2.2; revert this; cases b2 <;> cases j <;> decide
    go_wp2_with fail
    clear y0 y1 y2 y3 x0 x1 x2 x3 z0 z1 z2 z3
    refine (alike_any _ _ D E w10 HX.out.t.a HX.out.t.b HI.out.1 HI.out.2.1 HX.out.t.T).mono ?_
    rintro e w11 ⟨rfl, bx⟩
    rw [HE2.out]
    have HY := Lib.hid (HX.out.below bx)
    clear bx HX
    obtain ⟨⟨y0, y1, y2, y3⟩, -⟩ := HY.out.t.qa.c4
    obtain ⟨⟨x0, x1, x2, x3⟩, -⟩ := HY.out.t.qb.c4
    obtain ⟨⟨z0, z1, z2, z3⟩, -⟩ := HY.out.q.c4
    go_wp2_with fail
    clear y0 y1 y2 y3 x0 x1 x2 x3 z0 z1 z2 z3
    have HH := Lib.hid HY.out.t
    clear HY
    refine (lgworks_any w11 HH.out.T).mono ?_
    rintro e w' ⟨rfl, b'⟩
    go_wp2_with fail
    go_ret
    exact ⟨rfl, HH.out.bl.trans (b'.mono HH.out.bl.size)⟩

namespace langInsideW
set_option maxRecDepth 100000 in
theorem walkRaw {H : Type} (enc : TypeId × Value → H) (v0 v1 : Value) (W : World) {base base' : Nat} {d0 d1 : DataW H} {p0 p1 : List MemPlace}
    (wv0 : Value.okWide Tryz.prog W .any base 26 v0) (h0 : DataW.Trod enc Tryz.prog W 0 (fun _ => true) true 26 v0 d0 p0) (_lt0 : ∀ x ∈ p0, x.block < W.heap.size)
    (wv1 : Value.okWide Tryz.prog W .any base' 26 v1) (h1 : DataW.Trod enc Tryz.prog W 0 (fun _ => true) true 26 v1 d1 p1) (_lt1 : ∀ x ∈ p1, x.block < W.heap.size)
    (hL : laidMet Tryz.prog Rows.langInsideRow.laid W) :
    Calls Tryz.prog 6 #[v0, v1] W fun e w' => e = .returned (.bool true) ∧ Below W.heap.size W w' := by
  obtain ⟨D, hD, hI⟩ := open_dfa wv0 h0
  obtain ⟨E, hE, hJ⟩ := open_dfa wv1 h1
  exact law_linside v0 v1 D E W hD hE hI hJ (pow_in hL (by simp [Rows.langInsideRow]))
end langInsideW
end Go.Proofs.YtmmlakheimfijaaGreatDoor
