/-
  The contracts of package sat and of its reference: each function computes the number that 'clip' and its kin tell. Conditions: the arguments are ints.
-/
import Derived.Test.YtmmlakheimfijaaGreatDoorRows
import Derived.Test.YtmmlakheimfijaaGreatDoorJKit
namespace Go.Proofs.YtmmlakheimfijaaGreatDoor
set_option linter.unusedVariables false
open Go.RowKit

def clip (n : Int) : Int := if n > 9223372036854775807 then 9223372036854775807 else if n < -9223372036854775808 then -9223372036854775808 else n
/-- an int -/
def In (a : Int) : Prop := -9223372036854775808 ≤ a ∧ a ≤ 9223372036854775807

theorem clip_in (n : Int) : In (clip n) := by unfold clip In; split <;> (try split) <;> omega
theorem clip_hi {n : Int} (h : 9223372036854775807 < n) : clip n = 9223372036854775807 := by unfold clip; rw [if_pos (by omega)]
theorem clip_lo {n : Int} (h : n < -9223372036854775808) : clip n = -9223372036854775808 := by unfold clip; rw [if_neg (by omega), if_pos (by omega)]
theorem clip_id {n : Int} (h : In n) : clip n = n := by unfold In at h; unfold clip; rw [if_neg (by omega), if_neg (by omega)]
theorem clip_mono {a b : Int} (h : a ≤ b) : clip a ≤ clip b := by unfold clip; split <;> split <;> (try split) <;> (try split) <;> omega
theorem wf_in {a : Int} (h : (Lit.int .i64 a).wf = true) : In a := by unfold In; simpa [Lit.wf, IntKind.min, IntKind.max, IntKind.signed, IntKind.bits] using h

set_option maxHeartbeats 400000 in
theorem add_any (a b : Int) (w : World) (ha : In a) (hb : In b) :
    Calls Tryz.prog 28 #[.int .i64 a, .int .i64 b] w fun e w' => e = .returned (.int .i64 (clip (a + b))) ∧ w = w' := by
  obtain ⟨ha1, ha2⟩ := ha
  obtain ⟨hb1, hb2⟩ := hb
  by_cases h1 : 9223372036854775807 < a + b
  · have e : wrap64 (a + b) = a + b - 18446744073709551616 := by unfold wrap64; omega
    go_enter Tryz.func28, Tryz.ntmps28
    go_wp2
    go_ret
    exact ⟨ret_int (clip_hi h1).symm, rfl⟩
  · by_cases h2 : a + b < -9223372036854775808
    · have e : wrap64 (a + b) = a + b + 18446744073709551616 := by unfold wrap64; omega
      go_enter Tryz.func28, Tryz.ntmps28
      go_wp2
      go_ret
      exact ⟨ret_int (clip_lo h2).symm, rfl⟩
    · have e : clip (a + b) = a + b := clip_id ⟨by omega, by omega⟩
      have E := Lib.hid e
      clear e
      go_enter Tryz.func28, Tryz.ntmps28
      go_wp2
      all_goals go_ret
      all_goals exact ⟨ret_int E.out.symm, rfl⟩

set_option maxHeartbeats 400000 in
theorem refadd_any (a b : Int) (w : World) (ha : In a) (hb : In b) :
    Calls Tryz.prog 30 #[.int .i64 a, .int .i64 b] w fun e w' => e = .returned (.int .i64 (clip (a + b))) ∧ w = w' := by
  obtain ⟨ha1, ha2⟩ := ha
  obtain ⟨hb1, hb2⟩ := hb
  by_cases h1 : 9223372036854775807 < a + b
  · go_enter Tryz.func30, Tryz.ntmps30
    go_wp2
    go_ret
    exact ⟨ret_int (clip_hi h1).symm, rfl⟩
  · by_cases h2 : a + b < -9223372036854775808
    · go_enter Tryz.func30, Tryz.ntmps30
      go_wp2
      go_ret
      exact ⟨ret_int (clip_lo h2).symm, rfl⟩
    · have e : clip (a + b) = a + b := clip_id ⟨by omega, by omega⟩
      have E := Lib.hid e
      clear e
      by_cases h3 : 0 < b
      · go_enter Tryz.func30, Tryz.ntmps30
        go_wp2
        all_goals go_ret
        all_goals exact ⟨ret_int E.out.symm, rfl⟩
      · by_cases h4 : b < 0
        · go_enter Tryz.func30, Tryz.ntmps30
          go_wp2
          all_goals go_ret
          all_goals exact ⟨ret_int E.out.symm, rfl⟩
        · go_enter Tryz.func30, Tryz.ntmps30
          go_wp2
          all_goals go_ret
          all_goals exact ⟨ret_int E.out.symm, rfl⟩

def clampTo (n lo hi : Int) : Int := if n < lo then lo else if n > hi then hi else n
/-- the quotient, rounded down -/
def divTo (a b : Int) : Int := if b < 1 then 0 else a / b
theorem tdiv_floor (a b : Int) (hb : 1 ≤ b) : a.tdiv b = if a % b = 0 ∨ 0 ≤ a then a / b else a / b + 1 := by
  rw [Int.tdiv_eq_ediv]
  by_cases h : 0 ≤ a
  · rw [if_pos (.inl h), if_pos (.inr h)]; omega
  · by_cases h' : b ∣ a
    · have : a % b = 0 := Int.emod_eq_zero_of_dvd h'
      rw [if_pos (.inr h'), if_pos (.inl this)]; omega
    · have : a % b ≠ 0 := fun e => h' (Int.dvd_of_emod_eq_zero e)
      rw [if_neg (by simp [h, h']), if_neg (by simp [h, this]), Int.sign_eq_one_of_pos (by omega)]
theorem tmod_floor (a b : Int) (hb : 1 ≤ b) : a.tmod b = a - b * (a.tdiv b) := by
  have := Int.mul_tdiv_add_tmod a b; omega
theorem ediv_in {a b : Int} (ha : In a) (hb : 1 ≤ b) : In (a / b) := by
  obtain ⟨h1, h2⟩ := ha
  refine ⟨?_, ?_⟩
  · rw [Int.le_ediv_iff_mul_le (by omega)]
    calc -9223372036854775808 * b ≤ -9223372036854775808 * 1 := Int.mul_le_mul_of_nonpos_left (by omega) (by omega)
      _ ≤ a := by omega
  · have h3 := Int.ediv_le_ediv (c := b) (by omega) h2
    have h4 := Int.ediv_le_self b (a := 9223372036854775807) (by omega)
    omega

end Go.Proofs.YtmmlakheimfijaaGreatDoor
