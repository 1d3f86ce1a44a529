/-
  The walk of the reference's number. Conditions: a number from 0 to 16.
-/
import Derived.Test.YtpknglbpbodnbaaDoorJRgRefSign
namespace Go.Proofs.YtpknglbpbodnbaaDoor
set_option linter.unusedVariables false
set_option linter.unusedSimpArgs false
open Go.RowKit Go.Sort Cs Rg Go.ChangeShapes Go.WideShapes

set_option maxHeartbeats 8000000 in
set_option maxRecDepth 1000000 in
theorem number_any (n : Int) (w : World) (h0 : 0 ≤ n) (h1 : n ≤ 16) :
    Calls Tryd.prog 61 #[.int .i64 n] w fun e w' => e = .returned (.string (bsT (numT n))) ∧ Below w.heap.size w w' := by
  have hc : n = 0 ∨ n = 1 ∨ n = 2 ∨ n = 3 ∨ n = 4 ∨ n = 5 ∨ n = 6 ∨ n = 7 ∨ n = 8 ∨ n = 9 ∨ n = 10 ∨ n = 11 ∨ n = 12 ∨ n = 13 ∨ n = 14 ∨ n = 15 ∨ n = 16 := by omega
  rcases hc with rfl | rfl | rfl | rfl | rfl | rfl | rfl | rfl | rfl | rfl | rfl | rfl | rfl | rfl | rfl | rfl | rfl
  iterate 10
    · go_enter Tryd.func61, Tryd.ntmps61
      go_wp2_with fail
      go_ret
      exact ⟨rfl, Below.refl _ _⟩
  iterate 7
    · go_enter Tryd.func61, Tryd.ntmps61
      go_wp2_with fail
      refine wp_region_quiet_below (by kernel_rfl) (by kernel_rfl) ?_
      repeat (go_big_quiet_step (fail))
      refine wpQuiet_nil ?_
      intro _ hw'
      obtain ⟨⟨dq, osq⟩, hw''⟩ := hw'
      subst hw''
      have bb : Below w.heap.size w (Sort.grow (redrawn w dq) osq) := below_regrown w dq osq
      generalize Sort.grow (redrawn w dq) osq = w2 at *
      go_wp2_with fail
      go_ret
      exact ⟨rfl, bb⟩
theorem numT_small {n : Int} (h0 : 0 ≤ n) (h1 : n ≤ 16) : (numT n).length ≤ 2 := by
  unfold numT
  split <;> simp
set_option maxHeartbeats 8000000 in
set_option maxRecDepth 1000000 in
theorem refoften_any (x y : Int) (w : World) (ht : timesB x y = true) :
    Calls Tryd.prog 46 #[.int .i64 x, .int .i64 y] w fun e w' => e = .returned (.string (bsT (oftenT x y))) ∧ Below w.heap.size w w' := by
  have hx : 0 ≤ x ∧ x ≤ 16 ∧ (y = -1 ∨ (1 ≤ y ∧ x ≤ y ∧ y ≤ 16)) := by
    simp only [timesB, Bool.and_eq_true, Bool.or_eq_true, decide_eq_true_eq] at ht
    omega
  obtain ⟨R, hR⟩ : ∃ R, bsT (oftenT x y) = R := ⟨_, rfl⟩
  have HR := Lib.hid hR
  rw [hR]
  clear hR ht
  by_cases c1 : x = 0 ∧ y = -1
  · obtain ⟨rfl, rfl⟩ := c1
    go_enter Tryd.func46, Tryd.ntmps46
    go_wp2_with fail
    go_ret
    exact ⟨ret_str (by rw [← HR.out]; rfl), Below.refl _ _⟩
  by_cases c2 : x = 1 ∧ y = -1
  · obtain ⟨rfl, rfl⟩ := c2
    go_enter Tryd.func46, Tryd.ntmps46
    go_wp2_with fail
    go_ret
    exact ⟨ret_str (by rw [← HR.out]; rfl), Below.refl _ _⟩
  by_cases c3 : x = 0 ∧ y = 1
  · obtain ⟨rfl, rfl⟩ := c3
    go_enter Tryd.func46, Tryd.ntmps46
    go_wp2_with fail
    go_ret
    exact ⟨ret_str (by rw [← HR.out]; rfl), Below.refl _ _⟩
  by_cases c4 : y = x
  · subst c4
    have k1 : (y == -1) = false := by rw [beq_eq_false_iff_ne]; omega
    have hF : R = bsT (123 :: (numT y ++ [125])) := by rw [← HR.out]; unfold oftenT; rw [if_neg c1, if_neg c2, if_neg c3, if_pos rfl]
    have HF := Lib.hid hF
    have hl := numT_small (n := y) (by omega) (by omega)
    clear hF
    go_enter Tryd.func46, Tryd.ntmps46
    by_cases d0 : y = 0
    · exfalso; omega
    by_cases d1 : y = 1
    · subst d1
      go_wp2_with fail
      refine (number_any 1 _ (by omega) (by omega)).mono ?_
      rintro e w1 ⟨rfl, bx⟩
      have HB := Lib.hid bx
      clear bx
      obtain ⟨ts, hts⟩ : ∃ ts, bsT (numT 1) = ts := ⟨_, rfl⟩
      rw [hts]
      have hs2 : ts.size ≤ 2 := by rw [← hts, bsT_size]; exact numT_small (by omega) (by omega)
      have HT := Lib.hid hts
      clear hts
      go_wp2_with fail
      go_ret
      exact ⟨ret_str (by rw [HF.out, ← HT.out]; exact (by rw [show (⟨#[123]⟩ : ByteArray) = bsT [123] from rfl, show (⟨#[125]⟩ : ByteArray) = bsT [125] from rfl, bsT_app, bsT_app]; simp)), HB.out⟩
    have k2 : (y == 0) = false := by rw [beq_eq_false_iff_ne]; exact d0
    have k3 : (y == 1) = false := by rw [beq_eq_false_iff_ne]; exact d1
    go_wp2_with fail
    refine (number_any y _ (by omega) (by omega)).mono ?_
    rintro e w1 ⟨rfl, bx⟩
    have HB := Lib.hid bx
    clear bx
    obtain ⟨ts, hts⟩ : ∃ ts, bsT (numT y) = ts := ⟨_, rfl⟩
    rw [hts]
    have hs2 : ts.size ≤ 2 := by rw [← hts, bsT_size]; exact numT_small (by omega) (by omega)
    have HT := Lib.hid hts
    clear hts
    go_wp2_with fail
    go_ret
    exact ⟨ret_str (by rw [HF.out, ← HT.out]; exact (by rw [show (⟨#[123]⟩ : ByteArray) = bsT [123] from rfl, show (⟨#[125]⟩ : ByteArray) = bsT [125] from rfl, bsT_app, bsT_app]; simp)), HB.out⟩
  by_cases c5 : y = -1
  · subst c5
    have k1 : ((-1 : Int) == x) = false := by rw [beq_eq_false_iff_ne]; omega
    have k2 : (x == 0) = false := by rw [beq_eq_false_iff_ne]; omega
    have k3 : (x == 1) = false := by rw [beq_eq_false_iff_ne]; omega
    have hF : R = bsT (123 :: (numT x ++ [44, 125])) := by rw [← HR.out]; unfold oftenT; rw [if_neg c1, if_neg c2, if_neg c3, if_neg c4, if_pos rfl]
    have HF := Lib.hid hF
    clear hF
    go_enter Tryd.func46, Tryd.ntmps46
    go_wp2_with fail
    refine (number_any x _ (by omega) (by omega)).mono ?_
    rintro e w1 ⟨rfl, bx⟩
    have HB := Lib.hid bx
    clear bx
    obtain ⟨ts, hts⟩ : ∃ ts, bsT (numT x) = ts := ⟨_, rfl⟩
    rw [hts]
    have hs2 : ts.size ≤ 2 := by rw [← hts, bsT_size]; exact numT_small (by omega) (by omega)
    have HT := Lib.hid hts
    clear hts
    go_wp2_with fail
    go_ret
    exact ⟨ret_str (by rw [HF.out, ← HT.out]; exact (by rw [show (⟨#[123]⟩ : ByteArray) = bsT [123] from rfl, show (⟨#[44, 125]⟩ : ByteArray) = bsT [44, 125] from rfl, bsT_app, bsT_app]; simp)), HB.out⟩
  have k1 : (y == x) = false := by rw [beq_eq_false_iff_ne]; omega
  have k2 : (y == -1) = false := by rw [beq_eq_false_iff_ne]; omega
  have hF : R = bsT (123 :: (numT x ++ 44 :: (numT y ++ [125]))) := by rw [← HR.out]; unfold oftenT; rw [if_neg c1, if_neg c2, if_neg c3, if_neg c4, if_neg c5]
  have HF := Lib.hid hF
  clear hF
  go_enter Tryd.func46, Tryd.ntmps46
  by_cases d0 : x = 0
  · subst d0
    have k3 : (y == 1) = false := by rw [beq_eq_false_iff_ne]; omega
    go_wp2_with fail
    refine (number_any 0 _ (by omega) (by omega)).mono ?_
    rintro e w1 ⟨rfl, bx⟩
    obtain ⟨ts, hts⟩ : ∃ ts, bsT (numT 0) = ts := ⟨_, rfl⟩
    rw [hts]
    have hs2 : ts.size ≤ 2 := by rw [← hts, bsT_size]; exact numT_small (by omega) (by omega)
    have HT := Lib.hid hts
    clear hts
    go_wp2_with fail
    refine (number_any y _ (by omega) (by omega)).mono ?_
    rintro e w2 ⟨rfl, by2⟩
    have HB := Lib.hid (bx.trans (by2.mono bx.size))
    clear bx by2
    obtain ⟨us, hus⟩ : ∃ us, bsT (numT y) = us := ⟨_, rfl⟩
    rw [hus]
    have hs3 : us.size ≤ 2 := by rw [← hus, bsT_size]; exact numT_small (by omega) (by omega)
    have HU := Lib.hid hus
    clear hus
    go_wp2_with fail
    go_ret
    exact ⟨ret_str (by rw [HF.out, ← HT.out, ← HU.out]; exact (by rw [show (⟨#[123]⟩ : ByteArray) = bsT [123] from rfl, show (⟨#[44]⟩ : ByteArray) = bsT [44] from rfl, show (⟨#[125]⟩ : ByteArray) = bsT [125] from rfl, bsT_app, bsT_app, bsT_app, bsT_app]; simp)), HB.out⟩
  have k3 : (x == 0) = false := by rw [beq_eq_false_iff_ne]; omega
  by_cases d1 : x = 1
  · subst d1
    go_wp2_with fail
    refine (number_any 1 _ (by omega) (by omega)).mono ?_
    rintro e w1 ⟨rfl, bx⟩
    obtain ⟨ts, hts⟩ : ∃ ts, bsT (numT 1) = ts := ⟨_, rfl⟩
    rw [hts]
    have hs2 : ts.size ≤ 2 := by rw [← hts, bsT_size]; exact numT_small (by omega) (by omega)
    have HT := Lib.hid hts
    clear hts
    go_wp2_with fail
    refine (number_any y _ (by omega) (by omega)).mono ?_
    rintro e w2 ⟨rfl, by2⟩
    have HB := Lib.hid (bx.trans (by2.mono bx.size))
    clear bx by2
    obtain ⟨us, hus⟩ : ∃ us, bsT (numT y) = us := ⟨_, rfl⟩
    rw [hus]
    have hs3 : us.size ≤ 2 := by rw [← hus, bsT_size]; exact numT_small (by omega) (by omega)
    have HU := Lib.hid hus
    clear hus
    go_wp2_with fail
    go_ret
    exact ⟨ret_str (by rw [HF.out, ← HT.out, ← HU.out]; exact (by rw [show (⟨#[123]⟩ : ByteArray) = bsT [123] from rfl, show (⟨#[44]⟩ : ByteArray) = bsT [44] from rfl, show (⟨#[125]⟩ : ByteArray) = bsT [125] from rfl, bsT_app, bsT_app, bsT_app, bsT_app]; simp)), HB.out⟩
  have k4 : (x == 1) = false := by rw [beq_eq_false_iff_ne]; omega
  go_wp2_with fail
  refine (number_any x _ (by omega) (by omega)).mono ?_
  rintro e w1 ⟨rfl, bx⟩
  obtain ⟨ts, hts⟩ : ∃ ts, bsT (numT x) = ts := ⟨_, rfl⟩
  rw [hts]
  have hs2 : ts.size ≤ 2 := by rw [← hts, bsT_size]; exact numT_small (by omega) (by omega)
  have HT := Lib.hid hts
  clear hts
  go_wp2_with fail
  refine (number_any y _ (by omega) (by omega)).mono ?_
  rintro e w2 ⟨rfl, by2⟩
  have HB := Lib.hid (bx.trans (by2.mono bx.size))
  clear bx by2
  obtain ⟨us, hus⟩ : ∃ us, bsT (numT y) = us := ⟨_, rfl⟩
  rw [hus]
  have hs3 : us.size ≤ 2 := by rw [← hus, bsT_size]; exact numT_small (by omega) (by omega)
  have HU := Lib.hid hus
  clear hus
  go_wp2_with fail
  go_ret
  exact ⟨ret_str (by rw [HF.out, ← HT.out, ← HU.out]; exact (by rw [show (⟨#[123]⟩ : ByteArray) = bsT [123] from rfl, show (⟨#[44]⟩ : ByteArray) = bsT [44] from rfl, show (⟨#[125]⟩ : ByteArray) = bsT [125] from rfl, bsT_app, bsT_app, bsT_app, bsT_app]; simp)), HB.out⟩
end Go.Proofs.YtpknglbpbodnbaaDoor
