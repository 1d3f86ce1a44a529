/-
  The contract of varint.Take: it reads what 'take' tells. Conditions: the text has at most 1000 bytes.
-/
import Derived.Test.YteblfeblkcmppaaPut
namespace Go.Proofs.Yteblfeblkcmppaa
set_option linter.unusedVariables false
open Go.RowKit

def tuple3 (t : Nat × Nat × Nat) : Value := .tuple #[.int .u64 t.1, .int .i64 t.2.1, .int .i64 t.2.2]
theorem ret_tuple3 {t : Nat × Nat × Nat} {a b c : Int} {x y z : Nat} (h : t = (x, y, z)) (ha : a = x) (hb : b = y) (hc : c = z) :
    Ending.returned (.tuple #[.int .u64 a, .int .i64 b, .int .i64 c]) = .returned (tuple3 t) := by subst h ha hb hc; rfl

theorem takeF_stop {k n : Nat} {d : UInt8} {r : List UInt8} (hk : k < 10) (hd : d.toNat < 128) :
    takeF (10 - k) (d :: r) k n = if k = 9 ∧ 1 < d.toNat then (0, 0, 2) else if d.toNat = 0 ∧ 0 < k then (0, 0, 2) else (n + d.toNat * 128 ^ k, k + 1, 0) := by
  rw [show 10 - k = (9 - k) + 1 from by omega, takeF, if_pos hd]
  by_cases h : k = 9
  · subst h; simp
  · rw [if_neg (c := 9 - k = 0 ∧ 1 < d.toNat) (by omega), if_neg (c := k = 9 ∧ 1 < d.toNat) (by omega)]
theorem takeF_on {k n : Nat} {d : UInt8} {r : List UInt8} (hk : k < 10) (hd : ¬ d.toNat < 128) :
    takeF (10 - k) (d :: r) k n = takeF (10 - (k + 1)) r (k + 1) (n + (d.toNat % 128) * 128 ^ k) := by
  rw [show 10 - k = (10 - (k + 1)) + 1 from by omega, takeF, if_neg hd]

theorem pow7 (k : Nat) : (2 : Int) ^ (7 * k) = ((128 ^ k : Nat) : Int) := by
  rw [Int.pow_mul]; simp

theorem acc {k : Nat} {X : Int} {d : UInt8} (hk : k ≤ 8) (h0 : 0 ≤ X) (hX : X.toNat < 128 ^ k) :
    bits .or .u64 X (IntKind.u64.wrap (bits .and .u64 (d.toNat : Int) 127 * 2 ^ (7 * k))) = ((X.toNat + (d.toNat % 128) * 128 ^ k : Nat) : Int) := by
  have hd := d.toNat_lt
  have h1 : bits .and .u64 (d.toNat : Int) 127 = (d.toNat : Int) % 128 := bits_mask .u64 64 (by decide) wraps_u64 7 (by decide) _ (by omega) (by omega)
  have h2 : (d.toNat : Int) % 128 = ((d.toNat % 128 : Nat) : Int) := by omega
  have hp : 128 ^ k ≤ 128 ^ 8 := Nat.pow_le_pow_right (by omega) hk
  have hp1 : 0 < 128 ^ k := Nat.pow_pos (by omega)
  have h3 : (d.toNat % 128) * 128 ^ k ≤ 127 * 128 ^ k := Nat.mul_le_mul_right _ (by omega)
  rw [h1, h2, pow7, ← Int.natCast_mul]
  rw [IntKind.wrap_u64, Int.emod_eq_of_lt (by omega) (by omega)]
  have h4 := bits_join_low .u64 64 (by decide) wraps_u64 (7 * k) X (((d.toNat % 128) * 128 ^ k : Nat) : Int) h0 (by rw [pow7]; omega) (by omega) (by omega)
    (by rw [pow7, ← Int.natCast_emod, Nat.mul_mod_left]; rfl) (by omega)
  rw [h4]
  omega

theorem acc_nine {X : Int} (h0 : 0 ≤ X) (hX : X.toNat < 128 ^ 9) :
    bits .or .u64 X (IntKind.u64.wrap (bits .and .u64 1 127 * 9223372036854775808)) = ((X.toNat + 1 * 128 ^ 9 : Nat) : Int) := by
  have h1 : bits .and .u64 (1 : Int) 127 = (1 : Int) % 128 := bits_mask .u64 64 (by decide) wraps_u64 7 (by decide) _ (by omega) (by omega)
  rw [h1, IntKind.wrap_u64]
  have h4 := bits_join_low .u64 64 (by decide) wraps_u64 63 X 9223372036854775808 h0 (by omega) (by omega) (by omega) (by decide) (by omega)
  have e : (1 % 128 * 9223372036854775808 % 18446744073709551616 : Int) = 9223372036854775808 := by decide
  rw [e, h4]
  omega

theorem drop_at (s : ByteArray) {k : Nat} (h : k < s.size) : s.data.toList.drop k = s[k] :: s.data.toList.drop (k + 1) := by
  have h' : k < s.data.toList.length := by rw [Array.length_toList]; exact h
  rw [List.drop_eq_getElem_cons h']
  rfl
theorem drop_past (s : ByteArray) {k : Nat} (h : s.size ≤ k) : s.data.toList.drop k = [] :=
  List.drop_eq_nil_of_le (by rw [Array.length_toList]; exact h)

set_option maxRecDepth 100000 in
set_option maxHeartbeats 2000000 in
theorem take_any (s : ByteArray) (w : World) (hs : s.size ≤ 1000) :
    Calls Try.prog 10 #[.string s] w fun e w' => e = .returned (tuple3 (take s.data.toList)) ∧ w = w' := by
  rcases Nat.lt_or_ge 10 s.size with h10 | h10
  all_goals
    go_enter Try.func10, Try.ntmps10
    go_wp2_with fail
    go_loop [2, 10] (fun x i => ∃ (k : Nat) (X : Int), k ≤ s.size ∧ k ≤ 10 ∧ 0 ≤ X ∧ (k ≤ 9 → X.toNat < 128 ^ k) ∧ i = .int .i64 k ∧ x = .int .u64 X ∧ take s.data.toList = takeF (10 - k) (s.data.toList.drop k) k X.toNat) (fun _ i => 10 - (intOf i).toNat)
    case atStart => exact ⟨0, 0, by omega, by omega, by omega, by omega, rfl, rfl, rfl⟩
    case round =>
      obtain ⟨k, X, hk, hk10, hX, hX9, rfl, rfl, ht⟩ := hrel
      by_cases hlt : k < 10 ∧ k < s.size
      · obtain ⟨hlt1, hlt2⟩ := hlt
        have hdrop := drop_at s hlt2
        rw [hdrop] at ht
        obtain ⟨d, hd⟩ : ∃ d, s[k]'hlt2 = d := ⟨_, rfl⟩
        rw [hd] at ht
        clear hdrop
        have hd0 : (d.toNat : Int) ≤ 255 := by have := d.toNat_lt; omega
        by_cases h128 : d.toNat < 128
        · rw [takeF_stop hlt1 h128] at ht
          have h128' : (d.toNat : Int) < 128 := by omega
          by_cases h9 : k = 9
          · subst h9
            by_cases h1 : 1 < d.toNat
            · rw [if_pos ⟨rfl, h1⟩] at ht
              have h1' : 1 < (d.toNat : Int) := by omega
              have HT := Lib.hid ht
              clear ht hX9 h1 h128
              go_wp2_with fail
              go_ret3
              exact ⟨ret_tuple3 HT.out rfl rfl rfl, rfl⟩
            · rw [if_neg (by omega)] at ht
              have h1' : (d.toNat : Int) ≤ 1 := by omega
              by_cases h0 : d.toNat = 0
              · rw [if_pos ⟨h0, by omega⟩] at ht
                have HT := Lib.hid ht
                have h0' : ((d.toNat : Int) == 0) = true := by simp [h0]
                clear ht hX9 h1 h128
                go_wp2_with fail
                go_ret3
                exact ⟨ret_tuple3 HT.out rfl rfl rfl, rfl⟩
              · have hd1 : d.toNat = 1 := by omega
                rw [if_neg (by omega), hd1] at ht
                have HT := Lib.hid ht
                have HA := Lib.hid (acc_nine hX (hX9 (by omega)))
                have h0' : ((d.toNat : Int) == 0) = false := by simp [h0]
                clear ht hX9 h1 h128 h0
                go_wp2_with fail
                go_ret3
                exact ⟨ret_tuple3 HT.out (by rw [HA.out]) rfl rfl, rfl⟩
          · rw [if_neg (by omega)] at ht
            have h9' : ((k : Int) == 9) = false := by simp; omega
            by_cases h0 : d.toNat = 0 ∧ 0 < k
            · rw [if_pos h0] at ht
              have HT := Lib.hid ht
              obtain ⟨h00, h01⟩ := h0
              have h0' : ((d.toNat : Int) == 0) = true := by simp [h00]
              clear ht hX9 h128 h00 h9
              go_wp2_with fail
              go_ret3
              exact ⟨ret_tuple3 HT.out rfl rfl rfl, rfl⟩
            · rw [if_neg h0] at ht
              have HT := Lib.hid ht
              have HA := Lib.hid (acc (d := d) (show k ≤ 8 by omega) hX (hX9 (by omega)))
              obtain ⟨Y, hY⟩ : ∃ Y, bits .or .u64 X (IntKind.u64.wrap (bits .and .u64 (d.toNat : Int) 127 * 2 ^ (7 * k))) = Y := ⟨_, rfl⟩
              have HY := Lib.hid hY
              by_cases h00 : d.toNat = 0
              · have hk0 : k = 0 := by omega
                subst hk0
                have hX0 : X = 0 := by have := hX9 (by omega); omega
                subst hX0
                rw [h00] at HT
                have h0' : ((d.toNat : Int) == 0) = true := by simp [h00]
                clear ht hX9 h128 h9 h0 hY
                go_wp2_with fail
                go_ret3
                exact ⟨ret_tuple3 HT.out (by decide) rfl rfl, rfl⟩
              · have h0' : ((d.toNat : Int) == 0) = false := by simp [h00]
                clear ht hX9 h128 h9 h0 h00
                go_wp2_with fail
                go_ret3
                exact ⟨ret_tuple3 HT.out (by rw [← HY.out, HA.out, Nat.mod_eq_of_lt (by omega)]) (by omega) rfl, rfl⟩
        · rw [takeF_on hlt1 h128] at ht
          have h128' : 128 ≤ (d.toNat : Int) := by omega
          by_cases h9 : k = 9
          · subst h9
            have HT := Lib.hid (show take s.data.toList = (0, 0, 2) from ht)
            have h1' : 1 < (d.toNat : Int) := by omega
            clear ht hX9 h128
            go_wp2_with fail
            go_round
            case rel => exact ⟨10, _, by omega, by omega, bits_lo_u64 _ _ _, by omega, rfl, rfl, by rw [HT.out]; rfl⟩
            case measure => simp [intOf]
          · have h9' : ((k : Int) == 9) = false := by simp; omega
            have hk8 : k ≤ 8 := by omega
            have HA := Lib.hid (acc (d := d) hk8 hX (hX9 (by omega)))
            have HX := Lib.hid (hX9 (by omega))
            have HT := Lib.hid ht
            obtain ⟨Y, hY⟩ : ∃ Y, bits .or .u64 X (IntKind.u64.wrap (bits .and .u64 (d.toNat : Int) 127 * 2 ^ (7 * k))) = Y := ⟨_, rfl⟩
            have HY := Lib.hid hY
            clear ht hX9 h128 h9
            go_wp2_with fail
            go_round
            case rel =>
              have e1 := HY.out.symm.trans HA.out
              have e2 : Y.toNat = X.toNat + d.toNat % 128 * 128 ^ k := by omega
              refine ⟨k + 1, Y, by omega, by omega, by omega, fun _ => ?_, by go_num, rfl, by rw [HT.out, e2]⟩
              have h3 : (d.toNat % 128) * 128 ^ k ≤ 127 * 128 ^ k := Nat.mul_le_mul_right _ (by omega)
              have h4 := HX.out
              rw [e2, Nat.pow_succ]
              omega
            case measure => simp [intOf]; omega
      · by_cases hk : k = 10
        · subst hk
          have HT := Lib.hid (show take s.data.toList = (0, 0, 2) from ht)
          have h10' : 10 ≤ s.size := by omega
          clear ht hX9 hlt
          go_wp2_with fail
          go_ret3
          exact ⟨ret_tuple3 HT.out rfl rfl rfl, rfl⟩
        · have hks : k = s.size := by omega
          rw [drop_past s (by omega), show 10 - k = (9 - k) + 1 from by omega, takeF] at ht
          have HT := Lib.hid ht
          have hlt10 : s.size < 10 := by omega
          clear ht hX9 hlt hk
          subst hks
          go_wp2_with fail
          all_goals go_ret3
          all_goals exact ⟨ret_tuple3 HT.out rfl rfl rfl, rfl⟩
end Go.Proofs.Yteblfeblkcmppaa
