/-
  The walks of the reference's trail, Rune, Unit and safe. Conditions: the place lies inside the text; the text is no longer than a text can be.
-/
import Derived.Test.YtgdfklgbdfpinaaDoorQuMath
import Derived.Test.YtgdfklgbdfpinaaDoorReads
import Derived.Test.YtgdfklgbdfpinaaDoorProg
namespace Go.Proofs.YtgdfklgbdfpinaaDoor
set_option linter.unusedVariables false
open Go.RowKit Go.Sort Go.Lib

def trl (s : ByteArray) : Nat → Nat → Bool
  | 0, _ => true
  | k + 1, i => decide (128 ≤ byt s i ∧ byt s i ≤ 191) && trl s k (i + 1)

set_option maxRecDepth 100000 in
set_option maxHeartbeats 2000000 in
theorem trail_any (s : ByteArray) (p n : Nat) (w : World) (hp : p ≤ s.size) (hn : n ≤ 3) (hs : s.size ≤ maxLen) :
    Calls Tryd.prog 69 #[.string s, .int .i64 p, .int .i64 n] w fun e w' => e = .returned (.bool (decide (n ≤ s.size - p) && trl s n p)) ∧ w' = w := by
  unfold maxLen at hs
  go_enter Tryd.func69, Tryd.ntmps69
  by_cases hle : n ≤ s.size - p
  · have hle' : ¬ ((s.size : Int) - p < n) := by omega
    have hw : IntKind.i64.wrap ((s.size : Int) - p) = (s.size : Int) - p := IntWalk.i64_in _ (by omega)
    rw [decide_eq_true hle, Bool.true_and]
    go_wp2_with fail
    go_loop [7] (fun c => ∃ k : Nat, k ≤ n ∧ c = .int .i64 ((p + k : Nat) : Int) ∧ Hid (trl s n p = trl s (n - k) (p + k))) (fun c => p + n - (intOf c).toNat)
    case atStart => exact ⟨0, by omega, rfl, Lib.hid rfl⟩
    case round =>
      obtain ⟨k, hk, rfl, ht⟩ := hrel
      by_cases hkn : k < n
      · have hlt : p + k < s.size := by omega
        have hb := byt_at s (p + k) hlt
        obtain ⟨d, hd⟩ : ∃ d, s[p + k]'hlt = d := ⟨_, rfl⟩
        rw [hd] at hb
        have hd0 : (d.toNat : Int) ≤ 255 := by have := d.toNat_lt; omega
        have hst : trl s (n - k) (p + k) = (decide (128 ≤ d.toNat ∧ d.toNat ≤ 191) && trl s (n - (k + 1)) (p + (k + 1))) := by
          rw [show n - k = (n - (k + 1)) + 1 from by omega, trl, hb]
          rfl
        have HST := Lib.hid hst
        have HB := Lib.hid hb
        clear hst hb
        by_cases h1 : d.toNat < 128
        · go_wp2_with fail
          go_ret
          exact ⟨ret_bool (by rw [ht, HST.out, decide_eq_false (by omega), Bool.false_and]), rfl⟩
        · by_cases h2 : 191 < d.toNat
          · go_wp2_with fail
            go_ret
            exact ⟨ret_bool (by rw [ht, HST.out, decide_eq_false (by omega), Bool.false_and]), rfl⟩
          · go_wp2_with fail
            go_round
            case rel => exact ⟨k + 1, by omega, by go_num, Lib.hid (by rw [ht, HST.out, decide_eq_true (by omega), Bool.true_and])⟩
            case measure => simp [intOf]; omega
      · have e : k = n := by omega
        go_wp2_with fail
        go_ret
        exact ⟨ret_bool (by rw [ht, e, Nat.sub_self, trl]), rfl⟩
  · rw [decide_eq_false hle, Bool.false_and]
    have hle' : (s.size : Int) - p < n := by omega
    have hw : IntKind.i64.wrap ((s.size : Int) - p) = (s.size : Int) - p := IntWalk.i64_in _ (by omega)
    go_wp2_with fail
    go_ret
    exact ⟨rfl, rfl⟩

theorem trail_lit (s : ByteArray) (p n : Nat) (q m : Int) (T : Bool) (w : World) (hq : q = p) (hm : m = n) (hp : p ≤ s.size) (hn : n ≤ 3) (hs : s.size ≤ maxLen) (hT : (decide (n ≤ s.size - p) && trl s n p) = T) :
    Calls Tryd.prog 69 #[.string s, .int .i64 q, .int .i64 m] w fun e w' => e = .returned (.bool T) ∧ w' = w := by
  subst hq hm hT
  exact trail_any s p n w hp hn hs

theorem trl_one (s : ByteArray) (p : Nat) : (decide (1 ≤ s.size - (p + 1)) && trl s 1 (p + 1)) = decide (1 < s.size - p ∧ 128 ≤ byt s (p + 1) ∧ byt s (p + 1) ≤ 191) := by
  rw [Bool.eq_iff_iff]
  simp only [trl, Bool.and_true, Bool.and_eq_true, decide_eq_true_eq]
  omega
theorem trl_two (s : ByteArray) (p : Nat) : (decide (2 ≤ s.size - (p + 1)) && trl s 2 (p + 1)) = decide ((1 < s.size - p ∧ 128 ≤ byt s (p + 1) ∧ byt s (p + 1) ≤ 191) ∧ (2 < s.size - p ∧ 128 ≤ byt s (p + 2) ∧ byt s (p + 2) ≤ 191)) := by
  rw [Bool.eq_iff_iff]
  simp only [trl, Bool.and_true, Bool.and_eq_true, decide_eq_true_eq, Nat.add_assoc, Nat.reduceAdd]
  omega
theorem trl_three (s : ByteArray) (p : Nat) : (decide (3 ≤ s.size - (p + 1)) && trl s 3 (p + 1)) = decide ((1 < s.size - p ∧ 128 ≤ byt s (p + 1) ∧ byt s (p + 1) ≤ 191) ∧ (2 < s.size - p ∧ 128 ≤ byt s (p + 2) ∧ byt s (p + 2) ≤ 191) ∧ (3 < s.size - p ∧ 128 ≤ byt s (p + 3) ∧ byt s (p + 3) ≤ 191)) := by
  rw [Bool.eq_iff_iff]
  simp only [trl, Bool.and_true, Bool.and_eq_true, decide_eq_true_eq, Nat.add_assoc, Nat.reduceAdd]
  omega

set_option maxRecDepth 100000 in
set_option maxHeartbeats 8000000 in
theorem refrune_any (s : ByteArray) (p : Nat) (w : World) (hp : p < s.size) (hs : s.size ≤ maxLen) :
    Calls Tryd.prog 52 #[.string s, .int .i64 p] w fun e w' => e = .returned (.int .i64 (rune s p)) ∧ w' = w := by
  have HS := Lib.hid hs
  unfold maxLen at hs
  have e1 := trl_one s p
  have e2 := trl_two s p
  have e3 := trl_three s p
  have hr : rune s p = rn (s.size - p) (byt s p) (byt s (p + 1)) (byt s (p + 2)) (byt s (p + 3)) := rfl
  unfold rn at hr
  have hb := byt_at s p hp
  obtain ⟨d, hd⟩ : ∃ d, s[p]'hp = d := ⟨_, rfl⟩
  rw [hd] at hb
  rw [← hb] at hr
  clear hb
  have hd0 : d.toNat < 256 := d.toNat_lt
  go_enter Tryd.func52, Tryd.ntmps52

  by_cases h128 : d.toNat < 128
  · have HR : Hid (rune s p = 1) := Lib.hid (by rw [hr, if_pos h128])
    have h128' : (d.toNat : Int) < 128 := by omega
    clear hr e1 e2 e3
    go_wp2_with fail
    go_ret
    exact ⟨ret_int (by rw [HR.out]; rfl), rfl⟩
  have h128' : ¬ (d.toNat : Int) < 128 := by omega
  by_cases hn : p + 1 < s.size
  · have hn' : (p : Int) + 1 < s.size := by omega
    have hb := byt_at s (p + 1) hn
    obtain ⟨x, hx⟩ : ∃ x, s[p + 1]'hn = x := ⟨_, rfl⟩
    rw [hx] at hb
    rw [← hb] at hr e1 e2 e3
    clear hb
    have hx0 : x.toNat < 256 := x.toNat_lt
    by_cases cA : d.toNat ≤ 193
    · have b0 : 128 ≤ (d.toNat : Int) := by omega
      have b1 : (d.toNat : Int) ≤ 193 := by omega
      have HR : Hid (rune s p = 0) := Lib.hid (by rw [hr]; rw [if_neg (by omega), if_neg (by omega), if_neg (by omega), if_neg (by omega)])
      clear hr e1 e2 e3
      go_wp2_with (go_at_call 69; first | refine (trail_lit s (p + 1) 1 _ _ _ _ (by omega) (by omega) (by omega) (by omega) HS.out E1.out).mono ?_ | refine (trail_lit s (p + 1) 2 _ _ _ _ (by omega) (by omega) (by omega) (by omega) HS.out E2.out).mono ?_ | refine (trail_lit s (p + 1) 3 _ _ _ _ (by omega) (by omega) (by omega) (by omega) HS.out E3.out).mono ?_; rintro e w' ⟨rfl, rfl⟩)
      go_ret
      exact ⟨ret_int (by rw [HR.out]; rfl), rfl⟩
    by_cases cB : d.toNat ≤ 223
    · have b0 : 194 ≤ (d.toNat : Int) := by omega
      have b1 : (d.toNat : Int) ≤ 223 := by omega
      by_cases t : (1 < s.size - p ∧ 128 ≤ x.toNat ∧ x.toNat ≤ 191)
      · have E1 := Lib.hid (e1.trans (decide_eq_true t))
        have HR : Hid (rune s p = 2) := Lib.hid (by rw [hr]; rw [if_neg (by omega), if_pos (by omega)])
        clear hr e1 e2 e3
        go_wp2_with (go_at_call 69; first | refine (trail_lit s (p + 1) 1 _ _ _ _ (by omega) (by omega) (by omega) (by omega) HS.out E1.out).mono ?_ | refine (trail_lit s (p + 1) 2 _ _ _ _ (by omega) (by omega) (by omega) (by omega) HS.out E2.out).mono ?_ | refine (trail_lit s (p + 1) 3 _ _ _ _ (by omega) (by omega) (by omega) (by omega) HS.out E3.out).mono ?_; rintro e w' ⟨rfl, rfl⟩)
        go_ret
        exact ⟨ret_int (by rw [HR.out]; rfl), rfl⟩
      · have E1 := Lib.hid (e1.trans (decide_eq_false t))
        have HR : Hid (rune s p = 0) := Lib.hid (by rw [hr]; rw [if_neg (by omega), if_neg (by omega), if_neg (by omega), if_neg (by omega)])
        clear hr e1 e2 e3
        go_wp2_with (go_at_call 69; first | refine (trail_lit s (p + 1) 1 _ _ _ _ (by omega) (by omega) (by omega) (by omega) HS.out E1.out).mono ?_ | refine (trail_lit s (p + 1) 2 _ _ _ _ (by omega) (by omega) (by omega) (by omega) HS.out E2.out).mono ?_ | refine (trail_lit s (p + 1) 3 _ _ _ _ (by omega) (by omega) (by omega) (by omega) HS.out E3.out).mono ?_; rintro e w' ⟨rfl, rfl⟩)
        go_ret
        exact ⟨ret_int (by rw [HR.out]; rfl), rfl⟩
    by_cases cC : d.toNat ≤ 224
    · have b0 : 224 ≤ (d.toNat : Int) := by omega
      have b1 : (d.toNat : Int) ≤ 224 := by omega
      have b2 : ((d.toNat : Int) == 224) = true := by simp; omega
      by_cases t : ((1 < s.size - p ∧ 128 ≤ x.toNat ∧ x.toNat ≤ 191) ∧ (2 < s.size - p ∧ 128 ≤ byt s (p + 2) ∧ byt s (p + 2) ≤ 191))
      · have E2 := Lib.hid (e2.trans (decide_eq_true t))
        by_cases y : x.toNat < 160
        · have y' : (x.toNat : Int) < 160 := by omega
          have HR : Hid (rune s p = 0) := Lib.hid (by rw [hr]; rw [if_neg (by omega), if_neg (by omega), if_neg (by omega), if_neg (by omega)])
          clear hr e1 e2 e3
          go_wp2_with (go_at_call 69; first | refine (trail_lit s (p + 1) 1 _ _ _ _ (by omega) (by omega) (by omega) (by omega) HS.out E1.out).mono ?_ | refine (trail_lit s (p + 1) 2 _ _ _ _ (by omega) (by omega) (by omega) (by omega) HS.out E2.out).mono ?_ | refine (trail_lit s (p + 1) 3 _ _ _ _ (by omega) (by omega) (by omega) (by omega) HS.out E3.out).mono ?_; rintro e w' ⟨rfl, rfl⟩)
          go_ret
          exact ⟨ret_int (by rw [HR.out]; rfl), rfl⟩
        · have y' : ¬ (x.toNat : Int) < 160 := by omega
          have HR : Hid (rune s p = 3) := Lib.hid (by rw [hr]; rw [if_neg (by omega), if_neg (by omega), if_pos (by omega)])
          clear hr e1 e2 e3
          go_wp2_with (go_at_call 69; first | refine (trail_lit s (p + 1) 1 _ _ _ _ (by omega) (by omega) (by omega) (by omega) HS.out E1.out).mono ?_ | refine (trail_lit s (p + 1) 2 _ _ _ _ (by omega) (by omega) (by omega) (by omega) HS.out E2.out).mono ?_ | refine (trail_lit s (p + 1) 3 _ _ _ _ (by omega) (by omega) (by omega) (by omega) HS.out E3.out).mono ?_; rintro e w' ⟨rfl, rfl⟩)
          go_ret
          exact ⟨ret_int (by rw [HR.out]; rfl), rfl⟩
      · have E2 := Lib.hid (e2.trans (decide_eq_false t))
        have HR : Hid (rune s p = 0) := Lib.hid (by rw [hr]; rw [if_neg (by omega), if_neg (by omega), if_neg (by omega), if_neg (by omega)])
        clear hr e1 e2 e3
        go_wp2_with (go_at_call 69; first | refine (trail_lit s (p + 1) 1 _ _ _ _ (by omega) (by omega) (by omega) (by omega) HS.out E1.out).mono ?_ | refine (trail_lit s (p + 1) 2 _ _ _ _ (by omega) (by omega) (by omega) (by omega) HS.out E2.out).mono ?_ | refine (trail_lit s (p + 1) 3 _ _ _ _ (by omega) (by omega) (by omega) (by omega) HS.out E3.out).mono ?_; rintro e w' ⟨rfl, rfl⟩)
        go_ret
        exact ⟨ret_int (by rw [HR.out]; rfl), rfl⟩
    by_cases cD : d.toNat ≤ 236
    · have b0 : 225 ≤ (d.toNat : Int) := by omega
      have b1 : (d.toNat : Int) ≤ 236 := by omega
      by_cases t : ((1 < s.size - p ∧ 128 ≤ x.toNat ∧ x.toNat ≤ 191) ∧ (2 < s.size - p ∧ 128 ≤ byt s (p + 2) ∧ byt s (p + 2) ≤ 191))
      · have E2 := Lib.hid (e2.trans (decide_eq_true t))
        have HR : Hid (rune s p = 3) := Lib.hid (by rw [hr]; rw [if_neg (by omega), if_neg (by omega), if_pos (by omega)])
        clear hr e1 e2 e3
        go_wp2_with (go_at_call 69; first | refine (trail_lit s (p + 1) 1 _ _ _ _ (by omega) (by omega) (by omega) (by omega) HS.out E1.out).mono ?_ | refine (trail_lit s (p + 1) 2 _ _ _ _ (by omega) (by omega) (by omega) (by omega) HS.out E2.out).mono ?_ | refine (trail_lit s (p + 1) 3 _ _ _ _ (by omega) (by omega) (by omega) (by omega) HS.out E3.out).mono ?_; rintro e w' ⟨rfl, rfl⟩)
        go_ret
        exact ⟨ret_int (by rw [HR.out]; rfl), rfl⟩
      · have E2 := Lib.hid (e2.trans (decide_eq_false t))
        have HR : Hid (rune s p = 0) := Lib.hid (by rw [hr]; rw [if_neg (by omega), if_neg (by omega), if_neg (by omega), if_neg (by omega)])
        clear hr e1 e2 e3
        go_wp2_with (go_at_call 69; first | refine (trail_lit s (p + 1) 1 _ _ _ _ (by omega) (by omega) (by omega) (by omega) HS.out E1.out).mono ?_ | refine (trail_lit s (p + 1) 2 _ _ _ _ (by omega) (by omega) (by omega) (by omega) HS.out E2.out).mono ?_ | refine (trail_lit s (p + 1) 3 _ _ _ _ (by omega) (by omega) (by omega) (by omega) HS.out E3.out).mono ?_; rintro e w' ⟨rfl, rfl⟩)
        go_ret
        exact ⟨ret_int (by rw [HR.out]; rfl), rfl⟩
    by_cases cE : d.toNat ≤ 237
    · have b0 : 237 ≤ (d.toNat : Int) := by omega
      have b1 : (d.toNat : Int) ≤ 237 := by omega
      have b2 : ((d.toNat : Int) == 237) = true := by simp; omega
      by_cases t : ((1 < s.size - p ∧ 128 ≤ x.toNat ∧ x.toNat ≤ 191) ∧ (2 < s.size - p ∧ 128 ≤ byt s (p + 2) ∧ byt s (p + 2) ≤ 191))
      · have E2 := Lib.hid (e2.trans (decide_eq_true t))
        by_cases y : x.toNat < 160
        · have y' : (x.toNat : Int) < 160 := by omega
          have HR : Hid (rune s p = 3) := Lib.hid (by rw [hr]; rw [if_neg (by omega), if_neg (by omega), if_pos (by omega)])
          clear hr e1 e2 e3
          go_wp2_with (go_at_call 69; first | refine (trail_lit s (p + 1) 1 _ _ _ _ (by omega) (by omega) (by omega) (by omega) HS.out E1.out).mono ?_ | refine (trail_lit s (p + 1) 2 _ _ _ _ (by omega) (by omega) (by omega) (by omega) HS.out E2.out).mono ?_ | refine (trail_lit s (p + 1) 3 _ _ _ _ (by omega) (by omega) (by omega) (by omega) HS.out E3.out).mono ?_; rintro e w' ⟨rfl, rfl⟩)
          go_ret
          exact ⟨ret_int (by rw [HR.out]; rfl), rfl⟩
        · have y' : ¬ (x.toNat : Int) < 160 := by omega
          have HR : Hid (rune s p = 0) := Lib.hid (by rw [hr]; rw [if_neg (by omega), if_neg (by omega), if_neg (by omega), if_neg (by omega)])
          clear hr e1 e2 e3
          go_wp2_with (go_at_call 69; first | refine (trail_lit s (p + 1) 1 _ _ _ _ (by omega) (by omega) (by omega) (by omega) HS.out E1.out).mono ?_ | refine (trail_lit s (p + 1) 2 _ _ _ _ (by omega) (by omega) (by omega) (by omega) HS.out E2.out).mono ?_ | refine (trail_lit s (p + 1) 3 _ _ _ _ (by omega) (by omega) (by omega) (by omega) HS.out E3.out).mono ?_; rintro e w' ⟨rfl, rfl⟩)
          go_ret
          exact ⟨ret_int (by rw [HR.out]; rfl), rfl⟩
      · have E2 := Lib.hid (e2.trans (decide_eq_false t))
        have HR : Hid (rune s p = 0) := Lib.hid (by rw [hr]; rw [if_neg (by omega), if_neg (by omega), if_neg (by omega), if_neg (by omega)])
        clear hr e1 e2 e3
        go_wp2_with (go_at_call 69; first | refine (trail_lit s (p + 1) 1 _ _ _ _ (by omega) (by omega) (by omega) (by omega) HS.out E1.out).mono ?_ | refine (trail_lit s (p + 1) 2 _ _ _ _ (by omega) (by omega) (by omega) (by omega) HS.out E2.out).mono ?_ | refine (trail_lit s (p + 1) 3 _ _ _ _ (by omega) (by omega) (by omega) (by omega) HS.out E3.out).mono ?_; rintro e w' ⟨rfl, rfl⟩)
        go_ret
        exact ⟨ret_int (by rw [HR.out]; rfl), rfl⟩
    by_cases cD2 : d.toNat ≤ 239
    · have b0 : 238 ≤ (d.toNat : Int) := by omega
      have b1 : (d.toNat : Int) ≤ 239 := by omega
      by_cases t : ((1 < s.size - p ∧ 128 ≤ x.toNat ∧ x.toNat ≤ 191) ∧ (2 < s.size - p ∧ 128 ≤ byt s (p + 2) ∧ byt s (p + 2) ≤ 191))
      · have E2 := Lib.hid (e2.trans (decide_eq_true t))
        have HR : Hid (rune s p = 3) := Lib.hid (by rw [hr]; rw [if_neg (by omega), if_neg (by omega), if_pos (by omega)])
        clear hr e1 e2 e3
        go_wp2_with (go_at_call 69; first | refine (trail_lit s (p + 1) 1 _ _ _ _ (by omega) (by omega) (by omega) (by omega) HS.out E1.out).mono ?_ | refine (trail_lit s (p + 1) 2 _ _ _ _ (by omega) (by omega) (by omega) (by omega) HS.out E2.out).mono ?_ | refine (trail_lit s (p + 1) 3 _ _ _ _ (by omega) (by omega) (by omega) (by omega) HS.out E3.out).mono ?_; rintro e w' ⟨rfl, rfl⟩)
        go_ret
        exact ⟨ret_int (by rw [HR.out]; rfl), rfl⟩
      · have E2 := Lib.hid (e2.trans (decide_eq_false t))
        have HR : Hid (rune s p = 0) := Lib.hid (by rw [hr]; rw [if_neg (by omega), if_neg (by omega), if_neg (by omega), if_neg (by omega)])
        clear hr e1 e2 e3
        go_wp2_with (go_at_call 69; first | refine (trail_lit s (p + 1) 1 _ _ _ _ (by omega) (by omega) (by omega) (by omega) HS.out E1.out).mono ?_ | refine (trail_lit s (p + 1) 2 _ _ _ _ (by omega) (by omega) (by omega) (by omega) HS.out E2.out).mono ?_ | refine (trail_lit s (p + 1) 3 _ _ _ _ (by omega) (by omega) (by omega) (by omega) HS.out E3.out).mono ?_; rintro e w' ⟨rfl, rfl⟩)
        go_ret
        exact ⟨ret_int (by rw [HR.out]; rfl), rfl⟩
    by_cases cF : d.toNat ≤ 240
    · have b0 : 240 ≤ (d.toNat : Int) := by omega
      have b1 : (d.toNat : Int) ≤ 240 := by omega
      have b2 : ((d.toNat : Int) == 240) = true := by simp; omega
      by_cases t : ((1 < s.size - p ∧ 128 ≤ x.toNat ∧ x.toNat ≤ 191) ∧ (2 < s.size - p ∧ 128 ≤ byt s (p + 2) ∧ byt s (p + 2) ≤ 191) ∧ (3 < s.size - p ∧ 128 ≤ byt s (p + 3) ∧ byt s (p + 3) ≤ 191))
      · have E3 := Lib.hid (e3.trans (decide_eq_true t))
        by_cases y : x.toNat < 144
        · have y' : (x.toNat : Int) < 144 := by omega
          have HR : Hid (rune s p = 0) := Lib.hid (by rw [hr]; rw [if_neg (by omega), if_neg (by omega), if_neg (by omega), if_neg (by omega)])
          clear hr e1 e2 e3
          go_wp2_with (go_at_call 69; first | refine (trail_lit s (p + 1) 1 _ _ _ _ (by omega) (by omega) (by omega) (by omega) HS.out E1.out).mono ?_ | refine (trail_lit s (p + 1) 2 _ _ _ _ (by omega) (by omega) (by omega) (by omega) HS.out E2.out).mono ?_ | refine (trail_lit s (p + 1) 3 _ _ _ _ (by omega) (by omega) (by omega) (by omega) HS.out E3.out).mono ?_; rintro e w' ⟨rfl, rfl⟩)
          go_ret
          exact ⟨ret_int (by rw [HR.out]; rfl), rfl⟩
        · have y' : ¬ (x.toNat : Int) < 144 := by omega
          have HR : Hid (rune s p = 4) := Lib.hid (by rw [hr]; rw [if_neg (by omega), if_neg (by omega), if_neg (by omega), if_pos (by omega)])
          clear hr e1 e2 e3
          go_wp2_with (go_at_call 69; first | refine (trail_lit s (p + 1) 1 _ _ _ _ (by omega) (by omega) (by omega) (by omega) HS.out E1.out).mono ?_ | refine (trail_lit s (p + 1) 2 _ _ _ _ (by omega) (by omega) (by omega) (by omega) HS.out E2.out).mono ?_ | refine (trail_lit s (p + 1) 3 _ _ _ _ (by omega) (by omega) (by omega) (by omega) HS.out E3.out).mono ?_; rintro e w' ⟨rfl, rfl⟩)
          go_ret
          exact ⟨ret_int (by rw [HR.out]; rfl), rfl⟩
      · have E3 := Lib.hid (e3.trans (decide_eq_false t))
        have HR : Hid (rune s p = 0) := Lib.hid (by rw [hr]; rw [if_neg (by omega), if_neg (by omega), if_neg (by omega), if_neg (by omega)])
        clear hr e1 e2 e3
        go_wp2_with (go_at_call 69; first | refine (trail_lit s (p + 1) 1 _ _ _ _ (by omega) (by omega) (by omega) (by omega) HS.out E1.out).mono ?_ | refine (trail_lit s (p + 1) 2 _ _ _ _ (by omega) (by omega) (by omega) (by omega) HS.out E2.out).mono ?_ | refine (trail_lit s (p + 1) 3 _ _ _ _ (by omega) (by omega) (by omega) (by omega) HS.out E3.out).mono ?_; rintro e w' ⟨rfl, rfl⟩)
        go_ret
        exact ⟨ret_int (by rw [HR.out]; rfl), rfl⟩
    by_cases cG : d.toNat ≤ 243
    · have b0 : 241 ≤ (d.toNat : Int) := by omega
      have b1 : (d.toNat : Int) ≤ 243 := by omega
      by_cases t : ((1 < s.size - p ∧ 128 ≤ x.toNat ∧ x.toNat ≤ 191) ∧ (2 < s.size - p ∧ 128 ≤ byt s (p + 2) ∧ byt s (p + 2) ≤ 191) ∧ (3 < s.size - p ∧ 128 ≤ byt s (p + 3) ∧ byt s (p + 3) ≤ 191))
      · have E3 := Lib.hid (e3.trans (decide_eq_true t))
        have HR : Hid (rune s p = 4) := Lib.hid (by rw [hr]; rw [if_neg (by omega), if_neg (by omega), if_neg (by omega), if_pos (by omega)])
        clear hr e1 e2 e3
        go_wp2_with (go_at_call 69; first | refine (trail_lit s (p + 1) 1 _ _ _ _ (by omega) (by omega) (by omega) (by omega) HS.out E1.out).mono ?_ | refine (trail_lit s (p + 1) 2 _ _ _ _ (by omega) (by omega) (by omega) (by omega) HS.out E2.out).mono ?_ | refine (trail_lit s (p + 1) 3 _ _ _ _ (by omega) (by omega) (by omega) (by omega) HS.out E3.out).mono ?_; rintro e w' ⟨rfl, rfl⟩)
        go_ret
        exact ⟨ret_int (by rw [HR.out]; rfl), rfl⟩
      · have E3 := Lib.hid (e3.trans (decide_eq_false t))
        have HR : Hid (rune s p = 0) := Lib.hid (by rw [hr]; rw [if_neg (by omega), if_neg (by omega), if_neg (by omega), if_neg (by omega)])
        clear hr e1 e2 e3
        go_wp2_with (go_at_call 69; first | refine (trail_lit s (p + 1) 1 _ _ _ _ (by omega) (by omega) (by omega) (by omega) HS.out E1.out).mono ?_ | refine (trail_lit s (p + 1) 2 _ _ _ _ (by omega) (by omega) (by omega) (by omega) HS.out E2.out).mono ?_ | refine (trail_lit s (p + 1) 3 _ _ _ _ (by omega) (by omega) (by omega) (by omega) HS.out E3.out).mono ?_; rintro e w' ⟨rfl, rfl⟩)
        go_ret
        exact ⟨ret_int (by rw [HR.out]; rfl), rfl⟩
    by_cases cH : d.toNat ≤ 244
    · have b0 : 244 ≤ (d.toNat : Int) := by omega
      have b1 : (d.toNat : Int) ≤ 244 := by omega
      have b2 : ((d.toNat : Int) == 244) = true := by simp; omega
      by_cases t : ((1 < s.size - p ∧ 128 ≤ x.toNat ∧ x.toNat ≤ 191) ∧ (2 < s.size - p ∧ 128 ≤ byt s (p + 2) ∧ byt s (p + 2) ≤ 191) ∧ (3 < s.size - p ∧ 128 ≤ byt s (p + 3) ∧ byt s (p + 3) ≤ 191))
      · have E3 := Lib.hid (e3.trans (decide_eq_true t))
        by_cases y : x.toNat < 144
        · have y' : (x.toNat : Int) < 144 := by omega
          have HR : Hid (rune s p = 4) := Lib.hid (by rw [hr]; rw [if_neg (by omega), if_neg (by omega), if_neg (by omega), if_pos (by omega)])
          clear hr e1 e2 e3
          go_wp2_with (go_at_call 69; first | refine (trail_lit s (p + 1) 1 _ _ _ _ (by omega) (by omega) (by omega) (by omega) HS.out E1.out).mono ?_ | refine (trail_lit s (p + 1) 2 _ _ _ _ (by omega) (by omega) (by omega) (by omega) HS.out E2.out).mono ?_ | refine (trail_lit s (p + 1) 3 _ _ _ _ (by omega) (by omega) (by omega) (by omega) HS.out E3.out).mono ?_; rintro e w' ⟨rfl, rfl⟩)
          go_ret
          exact ⟨ret_int (by rw [HR.out]; rfl), rfl⟩
        · have y' : ¬ (x.toNat : Int) < 144 := by omega
          have HR : Hid (rune s p = 0) := Lib.hid (by rw [hr]; rw [if_neg (by omega), if_neg (by omega), if_neg (by omega), if_neg (by omega)])
          clear hr e1 e2 e3
          go_wp2_with (go_at_call 69; first | refine (trail_lit s (p + 1) 1 _ _ _ _ (by omega) (by omega) (by omega) (by omega) HS.out E1.out).mono ?_ | refine (trail_lit s (p + 1) 2 _ _ _ _ (by omega) (by omega) (by omega) (by omega) HS.out E2.out).mono ?_ | refine (trail_lit s (p + 1) 3 _ _ _ _ (by omega) (by omega) (by omega) (by omega) HS.out E3.out).mono ?_; rintro e w' ⟨rfl, rfl⟩)
          go_ret
          exact ⟨ret_int (by rw [HR.out]; rfl), rfl⟩
      · have E3 := Lib.hid (e3.trans (decide_eq_false t))
        have HR : Hid (rune s p = 0) := Lib.hid (by rw [hr]; rw [if_neg (by omega), if_neg (by omega), if_neg (by omega), if_neg (by omega)])
        clear hr e1 e2 e3
        go_wp2_with (go_at_call 69; first | refine (trail_lit s (p + 1) 1 _ _ _ _ (by omega) (by omega) (by omega) (by omega) HS.out E1.out).mono ?_ | refine (trail_lit s (p + 1) 2 _ _ _ _ (by omega) (by omega) (by omega) (by omega) HS.out E2.out).mono ?_ | refine (trail_lit s (p + 1) 3 _ _ _ _ (by omega) (by omega) (by omega) (by omega) HS.out E3.out).mono ?_; rintro e w' ⟨rfl, rfl⟩)
        go_ret
        exact ⟨ret_int (by rw [HR.out]; rfl), rfl⟩
    by_cases cI : d.toNat ≤ 255
    · have b0 : 245 ≤ (d.toNat : Int) := by omega
      have b1 : (d.toNat : Int) ≤ 255 := by omega
      have HR : Hid (rune s p = 0) := Lib.hid (by rw [hr]; rw [if_neg (by omega), if_neg (by omega), if_neg (by omega), if_neg (by omega)])
      clear hr e1 e2 e3
      go_wp2_with (go_at_call 69; first | refine (trail_lit s (p + 1) 1 _ _ _ _ (by omega) (by omega) (by omega) (by omega) HS.out E1.out).mono ?_ | refine (trail_lit s (p + 1) 2 _ _ _ _ (by omega) (by omega) (by omega) (by omega) HS.out E2.out).mono ?_ | refine (trail_lit s (p + 1) 3 _ _ _ _ (by omega) (by omega) (by omega) (by omega) HS.out E3.out).mono ?_; rintro e w' ⟨rfl, rfl⟩)
      go_ret
      exact ⟨ret_int (by rw [HR.out]; rfl), rfl⟩
    omega
  · have hn' : ¬ (p : Int) + 1 < s.size := by omega
    have E1 := Lib.hid (e1.trans (decide_eq_false (by omega)))
    have E2 := Lib.hid (e2.trans (decide_eq_false (by omega)))
    have E3 := Lib.hid (e3.trans (decide_eq_false (by omega)))
    by_cases cA : d.toNat ≤ 193
    · have b0 : 128 ≤ (d.toNat : Int) := by omega
      have b1 : (d.toNat : Int) ≤ 193 := by omega
      have HR : Hid (rune s p = 0) := Lib.hid (by rw [hr]; rw [if_neg (by omega), if_neg (by omega), if_neg (by omega), if_neg (by omega)])
      clear hr e1 e2 e3
      go_wp2_with (go_at_call 69; first | refine (trail_lit s (p + 1) 1 _ _ _ _ (by omega) (by omega) (by omega) (by omega) HS.out E1.out).mono ?_ | refine (trail_lit s (p + 1) 2 _ _ _ _ (by omega) (by omega) (by omega) (by omega) HS.out E2.out).mono ?_ | refine (trail_lit s (p + 1) 3 _ _ _ _ (by omega) (by omega) (by omega) (by omega) HS.out E3.out).mono ?_; rintro e w' ⟨rfl, rfl⟩)
      go_ret
      exact ⟨ret_int (by rw [HR.out]; rfl), rfl⟩
    by_cases cB : d.toNat ≤ 223
    · have b0 : 194 ≤ (d.toNat : Int) := by omega
      have b1 : (d.toNat : Int) ≤ 223 := by omega
      have HR : Hid (rune s p = 0) := Lib.hid (by rw [hr]; rw [if_neg (by omega), if_neg (by omega), if_neg (by omega), if_neg (by omega)])
      clear hr e1 e2 e3
      go_wp2_with (go_at_call 69; first | refine (trail_lit s (p + 1) 1 _ _ _ _ (by omega) (by omega) (by omega) (by omega) HS.out E1.out).mono ?_ | refine (trail_lit s (p + 1) 2 _ _ _ _ (by omega) (by omega) (by omega) (by omega) HS.out E2.out).mono ?_ | refine (trail_lit s (p + 1) 3 _ _ _ _ (by omega) (by omega) (by omega) (by omega) HS.out E3.out).mono ?_; rintro e w' ⟨rfl, rfl⟩)
      go_ret
      exact ⟨ret_int (by rw [HR.out]; rfl), rfl⟩
    by_cases cC : d.toNat ≤ 239
    · have b0 : 224 ≤ (d.toNat : Int) := by omega
      have b1 : (d.toNat : Int) ≤ 239 := by omega
      have HR : Hid (rune s p = 0) := Lib.hid (by rw [hr]; rw [if_neg (by omega), if_neg (by omega), if_neg (by omega), if_neg (by omega)])
      clear hr e1 e2 e3
      go_wp2_with (go_at_call 69; first | refine (trail_lit s (p + 1) 1 _ _ _ _ (by omega) (by omega) (by omega) (by omega) HS.out E1.out).mono ?_ | refine (trail_lit s (p + 1) 2 _ _ _ _ (by omega) (by omega) (by omega) (by omega) HS.out E2.out).mono ?_ | refine (trail_lit s (p + 1) 3 _ _ _ _ (by omega) (by omega) (by omega) (by omega) HS.out E3.out).mono ?_; rintro e w' ⟨rfl, rfl⟩)
      go_ret
      exact ⟨ret_int (by rw [HR.out]; rfl), rfl⟩
    by_cases cF : d.toNat ≤ 244
    · have b0 : 240 ≤ (d.toNat : Int) := by omega
      have b1 : (d.toNat : Int) ≤ 244 := by omega
      have HR : Hid (rune s p = 0) := Lib.hid (by rw [hr]; rw [if_neg (by omega), if_neg (by omega), if_neg (by omega), if_neg (by omega)])
      clear hr e1 e2 e3
      go_wp2_with (go_at_call 69; first | refine (trail_lit s (p + 1) 1 _ _ _ _ (by omega) (by omega) (by omega) (by omega) HS.out E1.out).mono ?_ | refine (trail_lit s (p + 1) 2 _ _ _ _ (by omega) (by omega) (by omega) (by omega) HS.out E2.out).mono ?_ | refine (trail_lit s (p + 1) 3 _ _ _ _ (by omega) (by omega) (by omega) (by omega) HS.out E3.out).mono ?_; rintro e w' ⟨rfl, rfl⟩)
      go_ret
      exact ⟨ret_int (by rw [HR.out]; rfl), rfl⟩
    by_cases cI : d.toNat ≤ 255
    · have b0 : 245 ≤ (d.toNat : Int) := by omega
      have b1 : (d.toNat : Int) ≤ 255 := by omega
      have HR : Hid (rune s p = 0) := Lib.hid (by rw [hr]; rw [if_neg (by omega), if_neg (by omega), if_neg (by omega), if_neg (by omega)])
      clear hr e1 e2 e3
      go_wp2_with (go_at_call 69; first | refine (trail_lit s (p + 1) 1 _ _ _ _ (by omega) (by omega) (by omega) (by omega) HS.out E1.out).mono ?_ | refine (trail_lit s (p + 1) 2 _ _ _ _ (by omega) (by omega) (by omega) (by omega) HS.out E2.out).mono ?_ | refine (trail_lit s (p + 1) 3 _ _ _ _ (by omega) (by omega) (by omega) (by omega) HS.out E3.out).mono ?_; rintro e w' ⟨rfl, rfl⟩)
      go_ret
      exact ⟨ret_int (by rw [HR.out]; rfl), rfl⟩
    omega
end Go.Proofs.YtgdfklgbdfpinaaDoor
