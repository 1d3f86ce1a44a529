/-
  The contract of the reference's product. Conditions: the arguments are ints.
-/
import Derived.Test.YtikpbhfjmlfooaaSatMul
namespace Go.Proofs.Ytikpbhfjmlfooaa
set_option linter.unusedVariables false
open Go.RowKit

def M : Int := 9223372036854775807
def L : Int := -9223372036854775808
theorem quo_pp {a b : Int} (hb : 0 < b) : 9223372036854775807 / b < a ↔ 9223372036854775807 < a * b := Int.ediv_lt_iff_lt_mul hb
theorem tdiv_M_neg {b : Int} (hb : b < 0) : Int.tdiv 9223372036854775807 b = -(9223372036854775807 / (-b)) := by
  have h := Int.tdiv_neg 9223372036854775807 (-b)
  rw [Int.neg_neg] at h
  rw [h, Int.tdiv_eq_ediv_of_nonneg (by omega)]
theorem tdiv_L_pos {b : Int} (hb : 0 < b) : -Int.tdiv 9223372036854775808 b = -(9223372036854775808 / b) := by
  rw [Int.tdiv_eq_ediv_of_nonneg (by omega)]
theorem quo_nn {a b : Int} (hb : b < 0) : a < Int.tdiv 9223372036854775807 b ↔ 9223372036854775807 < a * b := by
  rw [tdiv_M_neg hb]
  have := @Int.ediv_lt_iff_lt_mul 9223372036854775807 (-a) (-b) (by omega)
  rw [Int.neg_mul_neg] at this
  omega
theorem quo_pn {a b : Int} (ha : 0 < a) : b < -Int.tdiv 9223372036854775808 a ↔ a * b < -9223372036854775808 := by
  rw [tdiv_L_pos ha]
  have := @Int.ediv_lt_iff_lt_mul 9223372036854775808 (-b) a (by omega)
  rw [Int.neg_mul, Int.mul_comm] at this
  omega
theorem tdiv_M_in {b : Int} (hb : b < 0) : -9223372036854775807 ≤ Int.tdiv 9223372036854775807 b ∧ Int.tdiv 9223372036854775807 b ≤ 0 := by
  rw [tdiv_M_neg hb]
  have h1 := Int.ediv_nonneg (a := 9223372036854775807) (b := -b) (by omega) (by omega)
  have h2 := Int.ediv_le_self (-b) (a := 9223372036854775807) (by omega)
  omega
theorem tdiv_L_in {b : Int} (hb : 0 < b) : -9223372036854775808 ≤ -Int.tdiv 9223372036854775808 b ∧ -Int.tdiv 9223372036854775808 b ≤ 0 := by
  rw [tdiv_L_pos hb]
  have h1 := Int.ediv_nonneg (a := 9223372036854775808) (b := b) (by omega) (by omega)
  have h2 := Int.ediv_le_self b (a := 9223372036854775808) (by omega)
  omega

set_option maxHeartbeats 1000000 in
theorem refmul_any (a b : Int) (w : World) (ha : In a) (hb : In b) :
    Calls Try.prog 30 #[.int .i64 a, .int .i64 b] w fun e w' => e = .returned (.int .i64 (clip (a * b))) ∧ w = w' := by
  obtain ⟨ha1, ha2⟩ := ha
  obtain ⟨hb1, hb2⟩ := hb
  by_cases z1 : a = 0
  · have E : Hid (clip (a * b) = 0) := by rw [z1, Int.zero_mul]; rfl
    have zz : (a == 0) = true := by simp [z1]
    clear z1
    go_enter Try.func30, Try.ntmps30
    go_wp2
    all_goals go_ret
    all_goals exact ⟨ret_int E.out.symm, rfl⟩
  by_cases z2 : b = 0
  · have E : Hid (clip (a * b) = 0) := by rw [z2, Int.mul_zero]; rfl
    have zz : (b == 0) = true := by simp [z2]
    have zz' : (a == 0) = false := by simp [z1]
    clear z1 z2
    go_enter Try.func30, Try.ntmps30
    go_wp2
    all_goals go_ret
    all_goals exact ⟨ret_int E.out.symm, rfl⟩
  have zz : (b == 0) = false := by simp [z2]
  have zz' : (a == 0) = false := by simp [z1]
  by_cases x : 0 < a <;> by_cases y : 0 < b
  · have q := @quo_pp a b y
    by_cases h : 9223372036854775807 < a * b
    · have h' := q.2 h
      have E := Lib.hid (clip_hi h)
      clear q h z1 z2
      go_enter Try.func30, Try.ntmps30
      go_wp2
      all_goals go_ret
      all_goals exact ⟨ret_int E.out.symm, rfl⟩
    · have h' : a ≤ 9223372036854775807 / b := by have := mt q.1 h; omega
      have h0 : 0 ≤ a * b := Int.mul_nonneg (by omega) (by omega)
      have h2 : a * b ≤ 9223372036854775807 := by omega
      have E := Lib.hid (clip_id (n := a * b) ⟨by omega, by omega⟩)
      clear q h z1 z2
      go_enter Try.func30, Try.ntmps30
      go_wp2
      all_goals go_ret
      all_goals exact ⟨ret_int E.out.symm, rfl⟩
  · have y' : b < 0 := by omega
    have q := @quo_pn a b x
    obtain ⟨t1, t2⟩ := tdiv_L_in x
    by_cases h : a * b < -9223372036854775808
    · have h' := q.2 h
      have E := Lib.hid (clip_lo h)
      clear q h z1 z2
      go_enter Try.func30, Try.ntmps30
      go_wp2
      all_goals go_ret
      all_goals exact ⟨ret_int E.out.symm, rfl⟩
    · have h' : -Int.tdiv 9223372036854775808 a ≤ b := by have := mt q.1 h; omega
      have h0 : a * b ≤ 0 := Int.mul_nonpos_of_nonneg_of_nonpos (by omega) (by omega)
      have h2 : -9223372036854775808 ≤ a * b := by omega
      have E := Lib.hid (clip_id (n := a * b) ⟨by omega, by omega⟩)
      clear q h z1 z2
      go_enter Try.func30, Try.ntmps30
      go_wp2
      all_goals go_ret
      all_goals exact ⟨ret_int E.out.symm, rfl⟩
  · have x' : a < 0 := by omega
    have q := @quo_pn b a y
    obtain ⟨t1, t2⟩ := tdiv_L_in y
    rw [Int.mul_comm] at q
    by_cases h : a * b < -9223372036854775808
    · have h' := q.2 h
      have E := Lib.hid (clip_lo h)
      clear q h z1 z2
      go_enter Try.func30, Try.ntmps30
      go_wp2
      all_goals go_ret
      all_goals exact ⟨ret_int E.out.symm, rfl⟩
    · have h' : -Int.tdiv 9223372036854775808 b ≤ a := by have := mt q.1 h; omega
      have h0 : a * b ≤ 0 := by rw [Int.mul_comm]; exact Int.mul_nonpos_of_nonneg_of_nonpos (by omega) (by omega)
      have h2 : -9223372036854775808 ≤ a * b := by omega
      have E := Lib.hid (clip_id (n := a * b) ⟨by omega, by omega⟩)
      clear q h z1 z2
      go_enter Try.func30, Try.ntmps30
      go_wp2
      all_goals go_ret
      all_goals exact ⟨ret_int E.out.symm, rfl⟩
  · have x' : a < 0 := by omega
    have y' : b < 0 := by omega
    have q := @quo_nn a b y'
    obtain ⟨t1, t2⟩ := tdiv_M_in y'
    by_cases h : 9223372036854775807 < a * b
    · have h' := q.2 h
      have E := Lib.hid (clip_hi h)
      clear q h z1 z2
      go_enter Try.func30, Try.ntmps30
      go_wp2
      all_goals go_ret
      all_goals exact ⟨ret_int E.out.symm, rfl⟩
    · have h' : Int.tdiv 9223372036854775807 b ≤ a := by have := mt q.1 h; omega
      have h0 : 0 ≤ a * b := Int.mul_nonneg_of_nonpos_of_nonpos (by omega) (by omega)
      have h2 : a * b ≤ 9223372036854775807 := by omega
      have E := Lib.hid (clip_id (n := a * b) ⟨by omega, by omega⟩)
      clear q h z1 z2
      go_enter Try.func30, Try.ntmps30
      go_wp2
      all_goals go_ret
      all_goals exact ⟨ret_int E.out.symm, rfl⟩
end Go.Proofs.Ytikpbhfjmlfooaa
