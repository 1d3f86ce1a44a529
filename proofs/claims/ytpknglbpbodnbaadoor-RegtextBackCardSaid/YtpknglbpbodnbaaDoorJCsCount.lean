/-
  The contracts of the library's OnesCount64 and TrailingZeros64 and of Count and First. Conditions: the words fit; the library's table lies as laid.
-/
import Derived.Test.YtpknglbpbodnbaaDoorJCsHas
import Derived.Test.YtpknglbpbodnbaaDoorJOnes
import Derived.Lib.TrailingZeros
namespace Go.Proofs.YtpknglbpbodnbaaDoor
set_option linter.unusedVariables false
open Go.RowKit Go.Sort Cs

theorem uwrap {n : Int} (h : 0 ≤ n ∧ n < 18446744073709551616) : IntKind.u64.wrap n = n := IntWalk.u64_in _ (by omega)
theorem uand (a m : Nat) (ha : a < 18446744073709551616) (hm : m < 18446744073709551616) : bits .and .u64 (a : Int) (m : Int) = ((a &&& m : Nat) : Int) := u64_and_nat a m ha hm

theorem of_i64 (a : Nat) (ha : a < 9223372036854775808) : (BitVec.ofInt 64 (a : Int)).toNat = a := by
  rw [BitVec.ofInt_natCast, BitVec.toNat_ofNat]; exact Nat.mod_eq_of_lt (by omega)
theorem and_i64 (a b : Nat) (ha : a < 9223372036854775808) (hb : b < 9223372036854775808) : bits .and .i64 (a : Int) (b : Int) = ((a &&& b : Nat) : Int) := by
  have hx : a &&& b < 2 ^ 63 := Nat.and_lt_two_pow _ (by omega)
  show IntKind.i64.wrap ((BitVec.ofInt 64 (a : Int) &&& BitVec.ofInt 64 (b : Int)).toNat : Int) = _
  rw [BitVec.toNat_and, of_i64 a ha, of_i64 b hb, IntKind.wrap_i64]
  omega
theorem sums (x : Nat) (hx : x < 18446744073709551616) : ∃ p n y y1 y2 y3 : Int,
    IntKind.u64.wrap (bits .and .u64 ((x : Int) / 2) 6148914691236517205 + bits .and .u64 (x : Int) 6148914691236517205) = p ∧
    IntKind.u64.wrap (bits .and .u64 (p / 4) 3689348814741910323 + bits .and .u64 p 3689348814741910323) = n ∧
    bits .and .u64 (IntKind.u64.wrap (n / 16 + n)) 1085102592571150095 = y ∧
    IntKind.u64.wrap (y + y / 256) = y1 ∧ IntKind.u64.wrap (y1 + y1 / 65536) = y2 ∧ IntKind.u64.wrap (y2 + y2 / 4294967296) = y3 ∧
    bits .and .i64 (wrap64 y3) 127 = (ones x 64 : Int) := by
  have s4 := step4 32 x
  rw [m4_32] at s4
  have s16 := step16 16 x
  rw [m16_16] at s16
  simp only [Nat.reduceMul] at s16
  obtain ⟨s256, hp, hn, hy⟩ := ones_word x hx
  obtain ⟨hs, hs3⟩ := ones_sum x hx _ _ _ rfl rfl rfl
  have hl := ones_le x 64
  generalize pairs 32 x = P at *
  generalize nibs 16 x = N at *
  generalize byts 8 x = Y at *
  have k1 : IntKind.u64.wrap ((Y : Int) + (Y : Int) / 256) = ((Y + Y / 256 : Nat) : Int) := by rw [uwrap (by omega)]; omega
  generalize Y + Y / 256 = Y1 at *
  have k2 : IntKind.u64.wrap ((Y1 : Int) + (Y1 : Int) / 65536) = ((Y1 + Y1 / 65536 : Nat) : Int) := by rw [uwrap (by omega)]; omega
  generalize Y1 + Y1 / 65536 = Y2 at *
  have k3 : IntKind.u64.wrap ((Y2 : Int) + (Y2 : Int) / 4294967296) = ((Y2 + Y2 / 4294967296 : Nat) : Int) := by rw [uwrap (by omega)]; omega
  generalize Y2 + Y2 / 4294967296 = Y3 at *
  refine ⟨P, N, Y, Y1, Y2, Y3, ?_, ?_, ?_, k1, k2, k3, ?_⟩
  · have e1 : (x : Int) / 2 = ((x / 2 : Nat) : Int) := by omega
    have e2 : (6148914691236517205 : Int) = ((6148914691236517205 : Nat) : Int) := rfl
    rw [e1, e2, uand _ _ (by omega) (by decide), uand _ _ hx (by decide), ← Int.natCast_add, s4]
    exact uwrap (by omega)
  · have e1 : (P : Int) / 4 = ((P / 4 : Nat) : Int) := by omega
    have e2 : (3689348814741910323 : Int) = ((3689348814741910323 : Nat) : Int) := rfl
    rw [e1, e2, uand _ _ (by omega) (by decide), uand _ _ hp (by decide), ← Int.natCast_add, s16]
    exact uwrap (by omega)
  · have e1 : (N : Int) / 16 + N = ((N / 16 + N : Nat) : Int) := by omega
    have e2 : (1085102592571150095 : Int) = ((1085102592571150095 : Nat) : Int) := rfl
    rw [e1, uwrap (by omega), e2, uand _ _ (by omega) (by decide), s256]
  · have e1 : wrap64 (Y3 : Int) = ((Y3 : Nat) : Int) := by unfold wrap64; omega
    rw [e1]
    have e2 : (127 : Int) = ((127 : Nat) : Int) := rfl
    rw [e2, and_i64 _ _ hs3 (by decide)]
    have e3 : Y3 &&& 127 = Y3 % 128 := Nat.and_two_pow_sub_one_eq_mod Y3 7
    rw [e3, hs]

set_option maxHeartbeats 1000000 in
set_option maxRecDepth 100000 in
theorem ones_any (x : Nat) (w : World) (hx : x < 18446744073709551616) :
    Calls Tryd.prog 47 #[.int .u64 x] w fun e w' => e = .returned (.int .i64 (ones x 64)) ∧ w = w' := by
  obtain ⟨p, n, y, y1, y2, y3, r1, r2, r3, r4, r5, r6, r7⟩ := sums x hx
  have R1 := Lib.hid r1
  have R2 := Lib.hid r2
  have R3 := Lib.hid r3
  have R4 := Lib.hid r4
  have R5 := Lib.hid r5
  have R6 := Lib.hid r6
  have R7 := Lib.hid r7
  clear r1 r2 r3 r4 r5 r6 r7
  go_enter Tryd.func47, Tryd.ntmps47
  go_wp2_with fail
  simp only [R1.out, R2.out, R3.out, R4.out, R5.out, R6.out]
  go_ret
  refine ⟨ret_int ?_, rfl⟩
  exact R7.out

/-- the library's table -/
def TabIn (w : World) : Prop := 1 < w.heap.size ∧ ∀ j, j < 64 → w.cell? ⟨1, j, none⟩ = some (.int .u8 (Lib.deBruijn64tab.getD j 0))
theorem TabIn.below {w w' : World} (h : TabIn w) (hb : Below w.heap.size w w') : TabIn w' :=
  ⟨by have := hb.size; have := h.1; omega, fun j hj => (hb.cell (p := ⟨1, j, none⟩) h.1).trans (h.2 j hj)⟩

theorem low_unique (x k c m : Nat) (hc : x = 2 ^ c * (2 * m + 1)) (hk : x.testBit k = true) (hlow : ∀ j, j < k → x.testBit j = false) : c = k := by
  have h1 : x.testBit c = true := by
    rw [hc, Nat.testBit_two_pow_mul]
    simp
  rcases Nat.lt_trichotomy c k with h | h | h
  · rw [hlow c h] at h1; cases h1
  · exact h
  · rw [hc, Nat.testBit_two_pow_mul] at hk
    simp at hk
    omega

theorem tz_key (x a : Nat) (hx : x < 18446744073709551616) (hx0 : x ≠ 0) (hlow : x &&& (18446744073709551616 - x) = a) :
    IntKind.u64.wrap (bits BinOp.and IntKind.u64 (x : Int) (IntKind.u64.wrap (-(x : Int))) * 285870213051353865) / 288230376151711744 = ((a * 285870213051353865 % 18446744073709551616 / 288230376151711744 : Nat) : Int) := by
  have e1 : IntKind.u64.wrap (-(x : Int)) = ((18446744073709551616 - x : Nat) : Int) := by rw [IntKind.wrap_u64]; omega
  rw [e1, uand x _ hx (by omega), hlow, IntKind.wrap_u64]
  omega

set_option maxHeartbeats 1000000 in
theorem tz_core (x k idx : Nat) (w : World) (d0 : ((x : Int) == 0) = false)
    (key : IntKind.u64.wrap (bits BinOp.and IntKind.u64 (x : Int) (IntKind.u64.wrap (-(x : Int))) * 285870213051353865) / 288230376151711744 = (idx : Int))
    (hi : idx < 64) (hk : k < 64) (hcell : w.cell? ⟨1, idx, none⟩ = some (.int .u8 k)) :
    Calls Tryd.prog 48 #[.int .u64 x] w fun e w' => e = .returned (.int .i64 k) ∧ w = w' := by
  have KEY := Lib.hid key
  clear key
  go_enter Tryd.func48, Tryd.ntmps48
  go_wp2_with (simp only [KEY.out])
  go_ret
  exact ⟨rfl, rfl⟩
theorem tz_any (x k : Nat) (w : World) (hx : x < 18446744073709551616) (hk : x.testBit k = true) (hlow : ∀ j, j < k → x.testBit j = false) (hT : TabIn w) :
    Calls Tryd.prog 48 #[.int .u64 x] w fun e w' => e = .returned (.int .i64 k) ∧ w = w' := by
  have hx0 : x ≠ 0 := by rintro rfl; simp at hk
  obtain ⟨hl, hk64⟩ := Lib.lowest_bit 64 x hx0 hx
  have e : Lib.ctz 64 x = k := by
    obtain ⟨m, hm, _⟩ := Lib.ctzFrom_spec 64 x (by omega) hx
    have e0 : Lib.ctz 64 x = Lib.ctzFrom 64 x := by simp [Lib.ctz, hx0]
    rw [e0]
    exact low_unique x k _ m hm hk hlow
  rw [e] at hl hk64
  obtain ⟨hi, htab⟩ := Lib.deBruijn64_at _ hk64
  have hcell := hT.2 _ hi
  rw [htab] at hcell
  exact tz_core x k _ w (by simp; omega) (tz_key x _ hx hx0 hl) hi hk64 hcell

/-- one word out of a set -/
theorem word_at (s : Nat → Int) (k : Nat) (hk : k < 4) (w : World) : (Instr.index 24 (.agg #[.int .u64 (s 0), .int .u64 (s 1), .int .u64 (s 2), .int .u64 (s 3)]) (.int .i64 k)).run Tryd.prog w = .ok (.int .u64 (s k)) w := by
  obtain rfl | rfl | rfl | rfl : k = 0 ∨ k = 1 ∨ k = 2 ∨ k = 3 := by omega
  · kernel_rfl
  · kernel_rfl
  · kernel_rfl
  · kernel_rfl

set_option maxHeartbeats 1000000 in
set_option maxRecDepth 100000 in
theorem count_any (s : Nat → Int) (w : World) (hs : SetIn s) :
    Calls Tryd.prog 29 #[setV s] w fun e w' => e = .returned (.int .i64 (cnt s 256)) ∧ Below w.heap.size w w' := by
  unfold setV
  go_enter Tryd.func29, Tryd.ntmps29
  go_wp2_with fail
  go_loop [3, 7] (fun m c => ∃ (k N : Nat), k ≤ 4 ∧ c = .int .i64 k ∧ m = .int .i64 N ∧ Hid (cnt s (k * 64) = N) ∧ N ≤ 256) (fun _ c => 4 - (intOf c).toNat)
  case atStart => exact ⟨0, 0, by omega, rfl, rfl, Lib.hid rfl, by omega⟩
  case round =>
    obtain ⟨k, N, hk, rfl, rfl, hN, hN2⟩ := hrel
    by_cases hlt : k < 4
    · have hidx := word_at s k hlt
      obtain ⟨x, hx⟩ := Int.eq_ofNat_of_zero_le (hs k).1
      have hx1 : x < 18446744073709551616 := by have := (hs k).2; omega
      have hstep := cnt_word s hs k 64 (by omega)
      rw [show k * 64 + 64 = (k + 1) * 64 by omega, hN.out, hx, Int.toNat_natCast] at hstep
      have hle := cnt_le s ((k + 1) * 64)
      rw [hx] at hidx
      have HST := Lib.hid hstep
      obtain ⟨M, hM⟩ : ∃ M, ones x 64 = M := ⟨_, rfl⟩
      rw [hM] at hstep
      have hM5 : (N : Int) + M ≤ 256 := by omega
      have HM := Lib.hid hM
      clear hx hstep hle hM
      go_wp2_with fail
      refine (ones_any x _ hx1).mono ?_
      rintro e w1 ⟨rfl, rfl⟩
      rw [HM.out]
      go_wp2_with fail
      go_round
      case rel => exact ⟨k + 1, N + M, by omega, by simp, by simp, Lib.hid (by rw [HST.out, HM.out]), by omega⟩
      case measure => simp [intOf]; omega
    · have e : k = 4 := by omega
      subst e
      go_wp2_with fail
      go_ret
      exact ⟨ret_int (by rw [← hN.out]), (Below.refl _ _).alloc (Nat.le_refl _) _⟩
end Go.Proofs.YtpknglbpbodnbaaDoor
