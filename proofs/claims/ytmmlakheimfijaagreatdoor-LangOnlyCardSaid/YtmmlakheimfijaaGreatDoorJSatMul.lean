/-
  The contracts of the product of package sat and of its reference, and of the sum of a list. Conditions: the arguments are ints.
-/
import Derived.Test.YtmmlakheimfijaaGreatDoorJSat
import Derived.Test.YtmmlakheimfijaaGreatDoorJShelf
namespace Go.Proofs.YtmmlakheimfijaaGreatDoor
set_option linter.unusedVariables false
open Go.RowKit

def absI (n : Int) : Int := if n < 0 then -n else n
def mhi (x y : Int) : Int := x * y / 18446744073709551616
def mlo (x y : Int) : Int := x * y % 18446744073709551616
theorem absI_neg {n : Int} (h : n < 0) : absI n = -n := by unfold absI; rw [if_pos h]
theorem absI_pos {n : Int} (h : ¬ n < 0) : absI n = n := by unfold absI; rw [if_neg h]

theorem size_any (n : Int) (w : World) (hn : In n) :
    Calls Tryz.prog 55 #[.int .i64 n] w fun e w' => e = .returned (.int .u64 (absI n)) ∧ w = w' := by
  obtain ⟨h1, h2⟩ := hn
  by_cases h : n < 0
  · have E := Lib.hid (absI_neg h)
    have e1 : IntKind.u64.wrap n = n + 18446744073709551616 := by simp [IntKind.wrap, IntKind.bits, IntKind.signed]; omega
    have e2 : IntKind.u64.wrap (-(n + 18446744073709551616)) = -n := by simp [IntKind.wrap, IntKind.bits, IntKind.signed]; omega
    go_enter Tryz.func55, Tryz.ntmps55
    go_wp2
    go_ret
    exact ⟨ret_int E.out.symm, rfl⟩
  · have E := Lib.hid (absI_pos h)
    have h0 : 0 ≤ n := by omega
    go_enter Tryz.func55, Tryz.ntmps55
    go_wp2
    go_ret
    exact ⟨ret_int E.out.symm, rfl⟩

theorem mul64_any (x y : Int) (w : World) (hx : 0 ≤ x ∧ x < 18446744073709551616) (hy : 0 ≤ y ∧ y < 18446744073709551616) :
    Calls Tryz.prog 54 #[.int .u64 x, .int .u64 y] w fun e w' => e = .returned (.tuple #[.int .u64 (mhi x y), .int .u64 (mlo x y)]) ∧ w = w' := by
  obtain ⟨n, rfl⟩ := Int.eq_ofNat_of_zero_le hx.1
  obtain ⟨m, rfl⟩ := Int.eq_ofNat_of_zero_le hy.1
  refine (Tryz.bits_Mul64 n m (by omega) (by omega) w).mono ?_
  rintro e w' ⟨rfl, rfl⟩
  exact ⟨by simp [mhi, mlo], rfl⟩

theorem abs_bound {n : Int} (h : In n) : 0 ≤ absI n ∧ absI n ≤ 9223372036854775808 := by
  unfold absI; obtain ⟨h1, h2⟩ := h; split <;> omega


/-- what the product is, by the signs and the two halves -/
theorem mul_parts (a b : Int) (ha : In a) (hb : In b) :
    0 ≤ mhi (absI a) (absI b) ∧ 0 ≤ mlo (absI a) (absI b) ∧ mlo (absI a) (absI b) ≤ 18446744073709551615 ∧
    (a * b = absI a * absI b ∨ a * b = -(absI a * absI b)) ∧
    (((a < 0 ∧ b < 0) ∨ (0 ≤ a ∧ 0 ≤ b)) → a * b = absI a * absI b) ∧ (((a < 0 ∧ 0 ≤ b) ∨ (0 ≤ a ∧ b < 0)) → a * b = -(absI a * absI b)) ∧
    absI a * absI b = 18446744073709551616 * mhi (absI a) (absI b) + mlo (absI a) (absI b) := by
  have h1 := abs_bound ha
  have h2 := abs_bound hb
  have h3 : 0 ≤ absI a * absI b := Int.mul_nonneg h1.1 h2.1
  have e1 : (((a < 0 ∧ b < 0) ∨ (0 ≤ a ∧ 0 ≤ b)) → a * b = absI a * absI b) := by
    rintro (⟨x, y⟩ | ⟨x, y⟩)
    · rw [absI_neg x, absI_neg y, Int.neg_mul_neg]
    · rw [absI_pos (by omega), absI_pos (by omega)]
  have e2 : (((a < 0 ∧ 0 ≤ b) ∨ (0 ≤ a ∧ b < 0)) → a * b = -(absI a * absI b)) := by
    rintro (⟨x, y⟩ | ⟨x, y⟩)
    · rw [absI_neg x, absI_pos (by omega), Int.neg_mul, Int.neg_neg]
    · rw [absI_pos (by omega), absI_neg y, Int.mul_neg, Int.neg_neg]
  refine ⟨by unfold mhi; omega, by unfold mlo; omega, by unfold mlo; omega, ?_, e1, e2, by unfold mhi mlo; omega⟩
  by_cases x : a < 0 <;> by_cases y : b < 0
  · exact .inl (e1 (.inl ⟨x, y⟩))
  · exact .inr (e2 (.inl ⟨x, by omega⟩))
  · exact .inr (e2 (.inr ⟨by omega, y⟩))
  · exact .inl (e1 (.inr ⟨by omega, by omega⟩))

set_option maxHeartbeats 1000000 in
theorem mul_apart (a b : Int) (w : World) (ha : In a) (hb : In b) (hs : (a < 0 ∧ 0 ≤ b) ∨ (0 ≤ a ∧ b < 0)) :
    Calls Tryz.prog 29 #[.int .i64 a, .int .i64 b] w fun e w' => e = .returned (.int .i64 (clip (a * b))) ∧ w = w' := by
  have ba := abs_bound ha
  have bb := abs_bound hb
  obtain ⟨p1, p2, p3, _, _, p6, p7⟩ := mul_parts a b ha hb
  have p8 := p6 hs
  have Ha := Lib.hid ha
  have Hb := Lib.hid hb
  clear ha hb p6
  by_cases h : 0 < mhi (absI a) (absI b)
  · have E := Lib.hid (clip_lo (n := a * b) (by omega))
    clear p7 p8
    rcases hs with ⟨x, y⟩ | ⟨x, y⟩
    all_goals
      first | have z1 := decide_eq_true (show a < 0 by omega) | have z1 := decide_eq_false (show ¬ a < 0 by omega)
      first | have z2 := decide_eq_true (show b < 0 by omega) | have z2 := decide_eq_false (show ¬ b < 0 by omega)
      go_enter Tryz.func29, Tryz.ntmps29
      go_wp2_with fail
      refine (size_any _ _ Ha.out).mono ?_
      rintro e w' ⟨rfl, rfl⟩
      go_wp2_with fail
      refine (size_any _ _ Hb.out).mono ?_
      rintro e w' ⟨rfl, rfl⟩
      go_wp2_with fail
      refine (mul64_any _ _ _ ⟨ba.1, by omega⟩ ⟨bb.1, by omega⟩).mono ?_
      rintro e w' ⟨rfl, rfl⟩
      go_wp2
      all_goals go_ret
      all_goals exact ⟨ret_int E.out.symm, rfl⟩
  · have h0 : mhi (absI a) (absI b) ≤ 0 := by omega
    by_cases h63 : 9223372036854775808 < mlo (absI a) (absI b)
    · have E := Lib.hid (clip_lo (n := a * b) (by omega))
      clear p7 p8
      rcases hs with ⟨x, y⟩ | ⟨x, y⟩
      all_goals
        first | have z1 := decide_eq_true (show a < 0 by omega) | have z1 := decide_eq_false (show ¬ a < 0 by omega)
        first | have z2 := decide_eq_true (show b < 0 by omega) | have z2 := decide_eq_false (show ¬ b < 0 by omega)
        go_enter Tryz.func29, Tryz.ntmps29
        go_wp2_with fail
        refine (size_any _ _ Ha.out).mono ?_
        rintro e w' ⟨rfl, rfl⟩
        go_wp2_with fail
        refine (size_any _ _ Hb.out).mono ?_
        rintro e w' ⟨rfl, rfl⟩
        go_wp2_with fail
        refine (mul64_any _ _ _ ⟨ba.1, by omega⟩ ⟨bb.1, by omega⟩).mono ?_
        rintro e w' ⟨rfl, rfl⟩
        go_wp2
        all_goals go_ret
        all_goals exact ⟨ret_int E.out.symm, rfl⟩
    · have E := Lib.hid (show clip (a * b) = - mlo (absI a) (absI b) by rw [clip_id ⟨by omega, by omega⟩]; omega)
      by_cases hz : mlo (absI a) (absI b) = 0
      · have Z := Lib.hid hz
        have e1 : IntKind.u64.wrap (-mlo (absI a) (absI b)) = 0 := by simp [IntKind.wrap, IntKind.bits, IntKind.signed]; omega
        clear p7 p8 hz
        rcases hs with ⟨x, y⟩ | ⟨x, y⟩
        all_goals
          first | have z1 := decide_eq_true (show a < 0 by omega) | have z1 := decide_eq_false (show ¬ a < 0 by omega)
          first | have z2 := decide_eq_true (show b < 0 by omega) | have z2 := decide_eq_false (show ¬ b < 0 by omega)
          go_enter Tryz.func29, Tryz.ntmps29
          go_wp2_with fail
          refine (size_any _ _ Ha.out).mono ?_
          rintro e w' ⟨rfl, rfl⟩
          go_wp2_with fail
          refine (size_any _ _ Hb.out).mono ?_
          rintro e w' ⟨rfl, rfl⟩
          go_wp2_with fail
          refine (mul64_any _ _ _ ⟨ba.1, by omega⟩ ⟨bb.1, by omega⟩).mono ?_
          rintro e w' ⟨rfl, rfl⟩
          go_wp2
          all_goals go_ret
          all_goals exact ⟨ret_int (by rw [E.out, Z.out]; rfl), rfl⟩
      · have e1 : IntKind.u64.wrap (-mlo (absI a) (absI b)) = 18446744073709551616 - mlo (absI a) (absI b) := by simp [IntKind.wrap, IntKind.bits, IntKind.signed]; omega
        have e2 : IntKind.i64.wrap (18446744073709551616 - mlo (absI a) (absI b)) = - mlo (absI a) (absI b) := by rw [IntKind.wrap_i64]; omega
        have e3 : wrap64 (18446744073709551616 - mlo (absI a) (absI b)) = - mlo (absI a) (absI b) := by unfold wrap64; omega
        clear p7 p8
        rcases hs with ⟨x, y⟩ | ⟨x, y⟩
        all_goals
          first | have z1 := decide_eq_true (show a < 0 by omega) | have z1 := decide_eq_false (show ¬ a < 0 by omega)
          first | have z2 := decide_eq_true (show b < 0 by omega) | have z2 := decide_eq_false (show ¬ b < 0 by omega)
          go_enter Tryz.func29, Tryz.ntmps29
          go_wp2_with fail
          refine (size_any _ _ Ha.out).mono ?_
          rintro e w' ⟨rfl, rfl⟩
          go_wp2_with fail
          refine (size_any _ _ Hb.out).mono ?_
          rintro e w' ⟨rfl, rfl⟩
          go_wp2_with fail
          refine (mul64_any _ _ _ ⟨ba.1, by omega⟩ ⟨bb.1, by omega⟩).mono ?_
          rintro e w' ⟨rfl, rfl⟩
          go_wp2
          all_goals go_ret
          all_goals exact ⟨ret_int E.out.symm, rfl⟩

set_option maxHeartbeats 1000000 in
theorem mul_alike (a b : Int) (w : World) (ha : In a) (hb : In b) (hs : (a < 0 ∧ b < 0) ∨ (0 ≤ a ∧ 0 ≤ b)) :
    Calls Tryz.prog 29 #[.int .i64 a, .int .i64 b] w fun e w' => e = .returned (.int .i64 (clip (a * b))) ∧ w = w' := by
  have ba := abs_bound ha
  have bb := abs_bound hb
  obtain ⟨p1, p2, p3, _, p6, _, p7⟩ := mul_parts a b ha hb
  have p8 := p6 hs
  have Ha := Lib.hid ha
  have Hb := Lib.hid hb
  clear ha hb p6
  by_cases h : 0 < mhi (absI a) (absI b)
  · have E := Lib.hid (clip_hi (n := a * b) (by omega))
    clear p7 p8
    rcases hs with ⟨x, y⟩ | ⟨x, y⟩
    all_goals
      first | have z1 := decide_eq_true (show a < 0 by omega) | have z1 := decide_eq_false (show ¬ a < 0 by omega)
      first | have z2 := decide_eq_true (show b < 0 by omega) | have z2 := decide_eq_false (show ¬ b < 0 by omega)
      go_enter Tryz.func29, Tryz.ntmps29
      go_wp2_with fail
      refine (size_any _ _ Ha.out).mono ?_
      rintro e w' ⟨rfl, rfl⟩
      go_wp2_with fail
      refine (size_any _ _ Hb.out).mono ?_
      rintro e w' ⟨rfl, rfl⟩
      go_wp2_with fail
      refine (mul64_any _ _ _ ⟨ba.1, by omega⟩ ⟨bb.1, by omega⟩).mono ?_
      rintro e w' ⟨rfl, rfl⟩
      go_wp2
      all_goals go_ret
      all_goals exact ⟨ret_int E.out.symm, rfl⟩
  · have h0 : mhi (absI a) (absI b) ≤ 0 := by omega
    by_cases h63 : 9223372036854775808 ≤ mlo (absI a) (absI b)
    · have E := Lib.hid (clip_hi (n := a * b) (by omega))
      clear p7 p8
      rcases hs with ⟨x, y⟩ | ⟨x, y⟩
      all_goals
        first | have z1 := decide_eq_true (show a < 0 by omega) | have z1 := decide_eq_false (show ¬ a < 0 by omega)
        first | have z2 := decide_eq_true (show b < 0 by omega) | have z2 := decide_eq_false (show ¬ b < 0 by omega)
        go_enter Tryz.func29, Tryz.ntmps29
        go_wp2_with fail
        refine (size_any _ _ Ha.out).mono ?_
        rintro e w' ⟨rfl, rfl⟩
        go_wp2_with fail
        refine (size_any _ _ Hb.out).mono ?_
        rintro e w' ⟨rfl, rfl⟩
        go_wp2_with fail
        refine (mul64_any _ _ _ ⟨ba.1, by omega⟩ ⟨bb.1, by omega⟩).mono ?_
        rintro e w' ⟨rfl, rfl⟩
        go_wp2
        all_goals go_ret
        all_goals exact ⟨ret_int E.out.symm, rfl⟩
    · have E := Lib.hid (show clip (a * b) = mlo (absI a) (absI b) by rw [clip_id ⟨by omega, by omega⟩]; omega)
      clear p7 p8
      rcases hs with ⟨x, y⟩ | ⟨x, y⟩
      all_goals
        first | have z1 := decide_eq_true (show a < 0 by omega) | have z1 := decide_eq_false (show ¬ a < 0 by omega)
        first | have z2 := decide_eq_true (show b < 0 by omega) | have z2 := decide_eq_false (show ¬ b < 0 by omega)
        go_enter Tryz.func29, Tryz.ntmps29
        go_wp2_with fail
        refine (size_any _ _ Ha.out).mono ?_
        rintro e w' ⟨rfl, rfl⟩
        go_wp2_with fail
        refine (size_any _ _ Hb.out).mono ?_
        rintro e w' ⟨rfl, rfl⟩
        go_wp2_with fail
        refine (mul64_any _ _ _ ⟨ba.1, by omega⟩ ⟨bb.1, by omega⟩).mono ?_
        rintro e w' ⟨rfl, rfl⟩
        go_wp2
        all_goals go_ret
        all_goals exact ⟨ret_int E.out.symm, rfl⟩

theorem mul_any (a b : Int) (w : World) (ha : In a) (hb : In b) :
    Calls Tryz.prog 29 #[.int .i64 a, .int .i64 b] w fun e w' => e = .returned (.int .i64 (clip (a * b))) ∧ w = w' := by
  by_cases x : a < 0 <;> by_cases y : b < 0
  · exact mul_alike a b w ha hb (.inl ⟨x, y⟩)
  · exact mul_apart a b w ha hb (.inl ⟨x, by omega⟩)
  · exact mul_apart a b w ha hb (.inr ⟨by omega, y⟩)
  · exact mul_alike a b w ha hb (.inr ⟨by omega, by omega⟩)

end Go.Proofs.YtmmlakheimfijaaGreatDoor
