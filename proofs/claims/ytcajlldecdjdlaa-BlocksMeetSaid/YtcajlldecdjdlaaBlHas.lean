/-
  The contracts of Has of package charset and of its reference. Conditions: none but what each says.
-/
import Derived.Test.YtcajlldecdjdlaaRows
import Derived.Test.YtcajlldecdjdlaaBlMath
import Derived.Test.YtcajlldecdjdlaaKit2
import Derived.Lib.Zigzag
namespace Go.Proofs.Ytcajlldecdjdlaa
set_option linter.unusedVariables false
open Go.RowKit

/-- a set's value -/
def setV (s : Nat → Int) : Value := .agg #[.int .u64 (s 0), .int .u64 (s 1), .int .u64 (s 2), .int .u64 (s 3)]
def SetIn (s : Nat → Int) : Prop := ∀ i, 0 ≤ s i ∧ s i < 18446744073709551616
/-- has it the byte? -/
def hasS (s : Nat → Int) (b : Nat) : Bool := decide (s (b / 64) / 2 ^ (b % 64) % 2 = 1)

set_option maxHeartbeats 1000000 in
set_option maxRecDepth 100000 in
theorem has_any (s : Nat → Int) (b : Int) (w : World) (h0 : 0 ≤ b) (h1 : b < 256) (hs : SetIn s) :
    Calls Try.prog 19 #[setV s, .int .u8 b] w fun e w' => e = .returned (.bool (hasS s b.toNat)) ∧ Below w.heap.size w w' := by
  obtain ⟨q, hq, hq'⟩ : ∃ q, b / 64 = q ∧ (q = 0 ∨ q = 1 ∨ q = 2 ∨ q = 3) := ⟨b / 64, rfl, by omega⟩
  obtain ⟨r, hr⟩ : ∃ r, b % 64 = r := ⟨_, rfl⟩
  have hr0 : 0 ≤ r := by omega
  have hr1 : r < 64 := by omega
  obtain ⟨x, hx⟩ : ∃ x, s q.toNat = x := ⟨_, rfl⟩
  have hres : hasS s b.toNat = decide (x / 2 ^ r.toNat % 2 = 1) := by
    have e1 : b.toNat / 64 = q.toNat := by omega
    have e2 : b.toNat % 64 = r.toNat := by omega
    unfold hasS
    rw [e1, e2, hx]
  rw [hres]
  have hxr := hs q.toNat
  rw [hx] at hxr
  clear hres
  unfold setV
  have hy : bits .and .u64 (x / 2 ^ r.toNat) 1 = x / 2 ^ r.toNat % 2 := by
    have h2 : (0 : Int) < 2 ^ r.toNat := Int.pow_pos (by omega)
    refine Lib.u64_and1 _ (Int.ediv_nonneg hxr.1 (by omega)) (Int.lt_of_le_of_lt (Int.ediv_le_self _ hxr.1) hxr.2)
  rcases hq' with rfl | rfl | rfl | rfl
  all_goals simp at hx
  all_goals
    have hX := Lib.hid hx
    rw [hx]
    clear hx
    go_enter Try.func19, Try.ntmps19
    go_wp2_with fail
    go_ret
    refine ⟨rfl, ?_⟩
    repeat (first | exact Below.refl _ _ | refine Below.alloc ?_ (by simp) _)

theorem half_on (x : Int) (k : Nat) : x / 2 ^ k / 2 = x / 2 ^ (k + 1) := by
  rw [Int.pow_succ, Int.ediv_ediv_of_nonneg (Int.le_of_lt (Int.pow_pos (by omega)))]

set_option maxHeartbeats 1000000 in
set_option maxRecDepth 100000 in
theorem refhas_any (s : Nat → Int) (b : Int) (w : World) (h0 : 0 ≤ b) (h1 : b < 256) (hs : SetIn s) :
    Calls Try.prog 22 #[setV s, .int .i64 b] w fun e w' => e = .returned (.bool (hasS s b.toNat)) ∧ Below w.heap.size w w' := by
  obtain ⟨q, hq, hq'⟩ : ∃ q, b / 64 = q ∧ (q = 0 ∨ q = 1 ∨ q = 2 ∨ q = 3) := ⟨b / 64, rfl, by omega⟩
  obtain ⟨r, hr⟩ : ∃ r, b % 64 = r := ⟨_, rfl⟩
  have hr0 : 0 ≤ r := by omega
  have hr1 : r < 64 := by omega
  obtain ⟨x, hx⟩ : ∃ x, s q.toNat = x := ⟨_, rfl⟩
  have hres : hasS s b.toNat = decide (x / 2 ^ r.toNat % 2 = 1) := by
    have e1 : b.toNat / 64 = q.toNat := by omega
    have e2 : b.toNat % 64 = r.toNat := by omega
    unfold hasS
    rw [e1, e2, hx]
  rw [hres]
  have hxr := hs q.toNat
  rw [hx] at hxr
  clear hres
  unfold setV
  rcases hq' with rfl | rfl | rfl | rfl
  all_goals simp at hx
  all_goals
    have hX := Lib.hid hx
    rw [hx]
    clear hx
    go_enter Try.func22, Try.ntmps22
    go_wp2_with fail
    go_loopw [5, 6] (fun y v wr => ∃ k : Nat, (k : Int) ≤ r ∧ y = .int .u64 (x / 2 ^ k) ∧ v = .int .i64 k ∧ Below w.heap.size w wr) (fun y v wr => 64 - (intOf v).toNat)
    case atStart => exact ⟨0, hr0, by simp, rfl, Below.alloc (Below.refl _ _) (by simp) _⟩
    case round =>
      obtain ⟨k, hk, rfl, rfl, hB⟩ := hrel
      obtain ⟨y, hy⟩ : ∃ y, x / 2 ^ k = y := ⟨_, rfl⟩
      have h2 : (0 : Int) < 2 ^ k := Int.pow_pos (by omega)
      have hy0 : 0 ≤ y := by rw [← hy]; exact Int.ediv_nonneg hxr.1 (by omega)
      have hy1 : y < 18446744073709551616 := by rw [← hy]; exact Int.lt_of_le_of_lt (Int.ediv_le_self _ hxr.1) hxr.2
      rw [hy]
      have HY := Lib.hid hy
      clear hy h2
      by_cases hlt : (k : Int) < r
      · go_wp2_with fail
        go_roundw
        case rel => exact ⟨k + 1, by omega, by rw [← half_on, HY.out], by simp, hB⟩
        case measure => simp [intOf]; omega
      · go_wp2_with fail
        go_ret
        have e : r.toNat = k := by omega
        refine ⟨?_, hB⟩
        rw [e, HY.out]
        rfl
end Go.Proofs.Ytcajlldecdjdlaa
