/-
  The contract of the reference's Take: it reads what 'take' tells. Conditions: the text has at most 1000 bytes.
-/
import Derived.Test.YteblfeblkcmppaaTake
import Derived.Deep.RegionWith
namespace Go.Proofs.Yteblfeblkcmppaa
set_option linter.unusedVariables false
open Go.RowKit

/-- the number that the low bits of bytes tell, the first ones least -/
def low : List UInt8 → Nat
  | [] => 0
  | d :: r => d.toNat % 128 + 128 * low r
theorem low_lt (l : List UInt8) : low l < 128 ^ l.length := by
  induction l with
  | nil => simp [low]
  | cons d r ih => simp only [low, List.length_cons, Nat.pow_succ]; omega
theorem low_snoc (l : List UInt8) (d : UInt8) : low (l ++ [d]) = low l + (d.toNat % 128) * 128 ^ l.length := by
  induction l with
  | nil => simp [low]
  | cons e r ih =>
    simp only [List.cons_append, low, ih, List.length_cons, Nat.pow_succ]
    rw [Nat.mul_add, Nat.add_assoc, ← Nat.mul_assoc 128, Nat.mul_comm 128 (d.toNat % 128), Nat.mul_assoc, Nat.mul_comm 128 (128 ^ r.length)]
theorem take_at (s : ByteArray) {k : Nat} (h : k < s.size) : s.data.toList.take (k + 1) = s.data.toList.take k ++ [s[k]] := by
  have h' : k < s.data.toList.length := by rw [Array.length_toList]; exact h
  rw [List.take_succ_eq_append_getElem h']
  rfl
theorem take_len (s : ByteArray) {k : Nat} (h : k ≤ s.size) : (s.data.toList.take k).length = k := by
  rw [List.length_take, Array.length_toList]; exact Nat.min_eq_left h

theorem low_drop (l : List UInt8) (d : UInt8) {j : Nat} (h : j ≤ l.length) : low ((l ++ [d]).drop j) = low (l.drop j) + (d.toNat % 128) * 128 ^ (l.length - j) := by
  rw [List.drop_append_of_le_length h, low_snoc, List.length_drop]
/-- no step but perhaps the last one is too great -/
theorem low_small (l : List UInt8) (d : UInt8) {j : Nat} (hl : l.length ≤ 9) (hj : 1 ≤ j) (hd : d.toNat < 128) (h : j = 1 → l.length = 9 → d.toNat ≤ 1) : low ((l ++ [d]).drop j) ≤ 144115188075855871 := by
  by_cases hjl : j ≤ l.length
  · rw [low_drop l d hjl]
    have h1 := low_lt (l.drop j)
    rw [List.length_drop] at h1
    by_cases h8 : l.length - j ≤ 7
    · have h2 : 128 ^ (l.length - j) ≤ 128 ^ 7 := Nat.pow_le_pow_right (by omega) h8
      have h3 : d.toNat % 128 * 128 ^ (l.length - j) ≤ 127 * 128 ^ 7 := Nat.mul_le_mul (by omega) h2
      omega
    · have e : l.length - j = 8 := by omega
      have h4 := h (by omega) (by omega)
      rw [e] at h1 ⊢
      have h5 : d.toNat % 128 * 128 ^ 8 ≤ 1 * 128 ^ 8 := Nat.mul_le_mul_right _ (by omega)
      omega
  · rw [List.drop_eq_nil_of_le (by simp; omega)]
    simp [low]
theorem low_great (l : List UInt8) (d : UInt8) (hl : l.length = 9) (hd : d.toNat < 128) (h : 1 < d.toNat) : 144115188075855871 < low ((l ++ [d]).drop 1) := by
  rw [low_drop l d (by omega), hl]
  have : 2 * 128 ^ 8 ≤ d.toNat % 128 * 128 ^ (9 - 1) := Nat.mul_le_mul_right _ (by omega)
  omega
theorem low_step (l : List UInt8) {j : Nat} (h : j < l.length) : low (l.drop j) = low (l.drop (j + 1)) * 128 + l[j].toNat % 128 := by
  rw [List.drop_eq_getElem_cons h, low, Nat.mul_comm, Nat.add_comm]

/-- the reference's last step -/
theorem good_iff (s : ByteArray) {k n : Nat} (hk : k < s.size) (hn : n < 18446744073709551616) (h : take s.data.toList = (n, k + 1, 0) ∨ take s.data.toList = (0, 0, 2)) :
    (take s.data.toList = (n, k + 1, 0) → put n = s.data.toList.take (k + 1)) ∧ (take s.data.toList = (0, 0, 2) → put n ≠ s.data.toList.take (k + 1)) := by
  refine ⟨fun h1 => (take_back _ _ _ h1).2.2.1, fun h1 h2 => ?_⟩
  have h3 := take_put n (s.data.toList.drop (k + 1)) hn
  rw [h2, List.take_append_drop, h1] at h3
  simp at h3

set_option maxRecDepth 100000 in
set_option maxHeartbeats 2000000 in
theorem reftake_any (s : ByteArray) (w : World) (hs : s.size ≤ 1000) :
    Calls Try.prog 11 #[.string s] w fun e w' => e = .returned (tuple3 (take s.data.toList)) ∧ Below w.heap.size w w' := by
  go_enter Try.func11, Try.ntmps11
  go_wp2_with fail
  go_loop [5] (fun i => ∃ (k : Nat), k ≤ s.size ∧ k ≤ 10 ∧ i = .int .i64 k ∧ take s.data.toList = takeF (10 - k) (s.data.toList.drop k) k (low (s.data.toList.take k))) (fun i => 10 - (intOf i).toNat)
  case atStart => exact ⟨0, by omega, by omega, rfl, rfl⟩
  case round =>
    obtain ⟨k, hk, hk10, rfl, ht⟩ := hrel
    by_cases hks : k = s.size
    · rw [drop_past s (by omega)] at ht
      by_cases hk1 : k = 10
      · subst hk1
        have HT := Lib.hid (show take s.data.toList = (0, 0, 2) from ht)
        have hsz : ¬ (10 : Int) < (s.size : Int) := by omega
        clear ht hks
        go_wp2_with fail
        go_ret3
        exact ⟨ret_tuple3 HT.out rfl rfl rfl, Below.refl _ _⟩
      · rw [show 10 - k = (9 - k) + 1 from by omega, takeF] at ht
        have HT := Lib.hid ht
        have h10 : ((s.size : Int) == 10) = false := by simp; omega
        clear ht
        subst hks
        go_wp2_with fail
        go_ret3
        exact ⟨ret_tuple3 HT.out rfl rfl rfl, Below.refl _ _⟩
    · have hlt2 : k < s.size := by omega
      have hlt3 : (k : Int) < s.size := by omega
      by_cases hk1 : k = 10
      · subst hk1
        have HT := Lib.hid (show take s.data.toList = (0, 0, 2) from ht)
        clear ht hks
        go_wp2_with fail
        go_ret3
        exact ⟨ret_tuple3 HT.out rfl rfl rfl, Below.refl _ _⟩
      · have hlt1 : k < 10 := by omega
        have htake := take_at s hlt2
        rw [drop_at s hlt2] at ht
        obtain ⟨d, hd⟩ : ∃ d, s[k]'hlt2 = d := ⟨_, rfl⟩
        rw [hd] at ht htake
        have hd0 : (d.toNat : Int) ≤ 255 := by have := d.toNat_lt; omega
        by_cases h128 : d.toNat < 128
        · rw [takeF_stop hlt1 h128] at ht
          have hlen := take_len s hk
          obtain ⟨l, hl⟩ : ∃ l, s.data.toList.take (k + 1) = l := ⟨_, rfl⟩
          obtain ⟨l0, hl0⟩ : ∃ l0, s.data.toList.take k = l0 := ⟨_, rfl⟩
          have hget : ∀ j (hj : j < l.length) (hj' : j < s.size), l[j] = s[j] := by
            intro j hj hj'
            subst hl
            rw [List.getElem_take]
            rfl
          rw [hl, hl0] at htake
          rw [hl0] at ht hlen
          have hll : l.length = k + 1 := by rw [htake]; simp [hlen]
          have HL := Lib.hid hl
          have HG := Lib.hid hget
          have HLL := Lib.hid hll
          have HK := Lib.hid htake
          have HN := Lib.hid hlen
          have HT := Lib.hid ht
          have h128' : (d.toNat : Int) < 128 := by omega
          have h128'' : d.toNat < 128 := h128
          have hk9 : ((k : Int) == 10) = false := by simp; omega
          have hks' : ((k : Int) == (s.size : Int)) = false := by simp; omega
          clear htake hl hl0 hlen ht hget hll hks hk1
          go_wp2_with fail
          go_loop [6, 7] (fun x i => ∃ (j : Nat) (N I : Int), j ≤ k + 1 ∧ I = (j : Int) - 1 ∧ N = (low (l.drop j) : Int) ∧ i = .int .i64 I ∧ x = .int .u64 N ∧ (k = 9 → 1 < d.toNat → 1 ≤ j)) (fun _ i => (intOf i + 1).toNat)
          case atStart => exact ⟨k + 1, 0, k, by omega, by omega, by rw [List.drop_eq_nil_of_le (by rw [HLL.out]; omega)]; rfl, rfl, rfl, fun _ _ => by omega⟩
          case round =>
            obtain ⟨j, N, I, hj, hI, hN, rfl, rfl, hbad⟩ := hrel
            cases j with
            | succ j =>
              have hI' : I = (j : Int) := by omega
              subst hI'
              have hjs : j < s.size := by omega
              have hjs' : (j : Int) < s.size := by omega
              have hN0 : 0 ≤ N := by omega
              obtain ⟨b, hb⟩ : ∃ b, s[j]'hjs = b := ⟨_, rfl⟩
              have hb0 : (b.toNat : Int) ≤ 255 := by have := b.toNat_lt; omega
              have hstep := low_step l (j := j) (by rw [HLL.out]; omega)
              rw [HG.out j (by rw [HLL.out]; omega) hjs, hb] at hstep
              by_cases hq : k = 9 ∧ 1 < d.toNat ∧ j = 0
              · obtain ⟨hq1, hq2, hq3⟩ := hq
                have ht := HT.out
                rw [if_pos ⟨hq1, hq2⟩] at ht
                have HT' := Lib.hid ht
                have hg := low_great l0 d (by rw [HN.out, hq1]) h128'' hq2
                rw [← HK.out] at hg
                have hN1 : 144115188075855871 < N := by rw [hN, show j + 1 = 1 from by omega]; omega
                clear ht hg hN hI hbad hstep hq1 hq2 hq3
                go_wp2_with fail
                go_ret3
                exact ⟨ret_tuple3 HT'.out rfl rfl rfl, Below.refl _ _⟩
              · have hsm := low_small l0 d (j := j + 1) (by rw [HN.out]; omega) (by omega) h128'' (fun h1 h9 => by rw [HN.out] at h9; omega)
                rw [← HK.out] at hsm
                have hN1 : N ≤ 144115188075855871 := by rw [hN]; omega
                have HNN := Lib.hid hN
                have HS := Lib.hid hstep
                have HQ := Lib.hid hq
                have HBAD := Lib.hid hbad
                clear hN hstep hq hI hbad hsm
                go_wp2_with fail
                go_round
                case rel =>
                  have h1 := HNN.out
                  have h2 := HS.out
                  have h3 := HQ.out
                  have h4 := HBAD.out
                  exact ⟨j, _, _, by omega, rfl, by rw [h2, h1]; omega, by go_num, rfl, fun h5 h6 => by omega⟩
                case measure => simp [intOf]
            | zero =>
              have hI' : I = -1 := by omega
              subst hI'
              have hnb : ¬ (k = 9 ∧ 1 < d.toNat) := fun h => by have := hbad h.1 h.2; omega
              have ht := HT.out
              rw [if_neg hnb] at ht
              have hNl : N = (low l : Int) := by simpa using hN
              have hlow : low l = low l0 + d.toNat * 128 ^ k := by rw [HK.out, low_snoc, HN.out, Nat.mod_eq_of_lt h128'']
              have hlt64 : low l < 18446744073709551616 := by
                have h1 := low_lt l0
                rw [HN.out] at h1
                by_cases h9 : k = 9
                · subst h9
                  have h2 : d.toNat * 128 ^ 9 ≤ 1 * 128 ^ 9 := Nat.mul_le_mul_right _ (by omega)
                  omega
                · have h2 : 128 ^ k ≤ 128 ^ 8 := Nat.pow_le_pow_right (by omega) (by omega)
                  have h3 : d.toNat * 128 ^ k ≤ 127 * 128 ^ 8 := Nat.mul_le_mul (by omega) h2
                  omega
              rw [← hlow] at ht
              have hgood := good_iff s (k := k) (n := low l) hlt2 hlt64 (by rw [ht]; split <;> simp)
              have hN0 : 0 ≤ N := by omega
              have hN1 : N ≤ 18446744073709551615 := by omega
              have hNn : N.toNat = low l := by omega
              rw [HL.out] at hgood
              have hput : putF 9 N.toNat = put (low l) := by rw [hNn]; rfl
              have hP := Lib.hid hput
              have hNN := Lib.hid hNn
              have hpow := Lib.hid (show N.toNat < 128 ^ (9 + 1) by omega)
              have hsl : (k : Int) + 1 ≤ s.size := by omega
              have hsl2 : ∀ wx, (Instr.slice 9 (.string s) none (some (.int .i64 ((k : Int) + 1))) none).run Try.prog wx = .ok (.string (txt l)) wx := fun wx => by
                rw [run_slice_string_to_if _ _ _ _ _ Try.underlying9, if_pos ⟨by omega, hsl⟩, extract_txt]
                rw [show ((k : Int) + 1).toNat - 0 = k + 1 from by omega, List.drop_zero, HL.out]
              have hwr : IntKind.i64.wrap ((k : Int) + 1) = (k : Int) + 1 := IntWalk.i64_in _ ⟨by omega, by omega⟩
              by_cases hz : d.toNat = 0 ∧ 0 < k
              · rw [if_pos hz] at ht
                have hne := Lib.hid (hgood.2 ht)
                have HT' := Lib.hid ht
                clear hI hN hbad hnb ht hNl hlow hlt64 hgood hput hNn hz
                have hcmp : ((txt (putF 9 N.toNat)).toList == (txt l).toList) = false := by
                  rw [txt_toList, txt_toList, hP.out]; simpa using hne.out
                go_wp2_with fail
                go_region_with (go_at_call 7; refine (refput_any 9 _ _ hN0 hpow.out (by omega) hN1).mono ?_; rintro e w1 ⟨rfl, hb⟩)
                all_goals
                  go_wp2_with fail
                  go_ret3
                  exact ⟨ret_tuple3 HT'.out rfl rfl rfl, ((Below.refl _ _).drew).trans (hb.mono (Nat.le_refl _))⟩
              · rw [if_neg hz] at ht
                have heq := Lib.hid (hgood.1 ht)
                have HT' := Lib.hid ht
                clear hI hN hbad hnb ht hNl hlow hlt64 hgood hput hNn hz
                have hcmp : ((txt (putF 9 N.toNat)).toList == (txt l).toList) = true := by
                  rw [txt_toList, txt_toList, hP.out]; simpa using heq.out
                go_wp2_with fail
                go_region_with (go_at_call 7; refine (refput_any 9 _ _ hN0 hpow.out (by omega) hN1).mono ?_; rintro e w1 ⟨rfl, hb⟩)
                all_goals
                  go_wp2_with fail
                  go_ret3
                  exact ⟨ret_tuple3 HT'.out (by have := hNN.out; omega) rfl rfl, ((Below.refl _ _).drew).trans (hb.mono (Nat.le_refl _))⟩
        · rw [takeF_on hlt1 h128] at ht
          have h128' : 128 ≤ (d.toNat : Int) := by omega
          have HT := Lib.hid (show take s.data.toList = takeF (10 - (k + 1)) (s.data.toList.drop (k + 1)) (k + 1) (low (s.data.toList.take (k + 1))) by
            rw [htake, low_snoc, take_len s hk]; exact ht)
          clear ht htake h128 hks hk1
          go_wp2_with fail
          go_round
          case rel => exact ⟨k + 1, by omega, by omega, by go_num, HT.out⟩
          case measure => simp [intOf]; omega
end Go.Proofs.Yteblfeblkcmppaa
