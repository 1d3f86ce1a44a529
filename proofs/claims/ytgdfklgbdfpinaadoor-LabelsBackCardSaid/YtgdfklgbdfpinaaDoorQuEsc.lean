/-
  What an escape stands for: the walks of the package's and of the reference's. Conditions: the text is no longer than a text can be.
-/
import Derived.Test.YtgdfklgbdfpinaaDoorQuRefText
namespace Go.Proofs.YtgdfklgbdfpinaaDoor
set_option linter.unusedVariables false
open Go.RowKit Go.Sort

/-- errno, byte, width -/
def escN (n b1 b2 b3 : Nat) : Nat × Nat × Nat :=
  if n < 2 then (1, 0, 0)
  else if b1 = 34 ∨ b1 = 92 then (0, b1, 2)
  else if b1 ≠ 120 then (2, 0, 0)
  else if n < 3 then (1, 0, 0)
  else match unhex b2 with
    | none => (2, 0, 0)
    | some a => if n < 4 then (1, 0, 0) else match unhex b3 with
      | none => (2, 0, 0)
      | some b => (0, 16 * a + b, 4)
def escR (s : ByteArray) (p : Nat) : Nat × Nat × Nat := escN (s.size - p) (byt s (p + 1)) (byt s (p + 2)) (byt s (p + 3))
theorem escR_tail (s : ByteArray) (p : Nat) : escR (s.extract p s.size) 0 = escR s p := by
  unfold escR
  rw [tail_size, tail_byt, tail_byt, tail_byt, Nat.sub_zero, Nat.zero_add, Nat.zero_add, Nat.zero_add]
theorem unhex_lt {b a : Nat} (h : unhex b = some a) : a < 16 := by
  unfold unhex at h
  split at h
  · injection h with h; omega
  · split at h
    · injection h with h; omega
    · cases h
theorem escN_short {n b1 b2 b3 : Nat} (h : n < 2) : escN n b1 b2 b3 = (1, 0, 0) := by unfold escN; rw [if_pos h]
theorem escN_mark {n b1 b2 b3 : Nat} (h : ¬ n < 2) (h1 : b1 = 34 ∨ b1 = 92) : escN n b1 b2 b3 = (0, b1, 2) := by unfold escN; rw [if_neg h, if_pos h1]
theorem escN_bad {n b1 b2 b3 : Nat} (h : ¬ n < 2) (h1 : ¬ (b1 = 34 ∨ b1 = 92)) (h2 : b1 ≠ 120) : escN n b1 b2 b3 = (2, 0, 0) := by unfold escN; rw [if_neg h, if_neg h1, if_pos h2]
theorem escN_cut {n b2 b3 : Nat} (h : n = 2) : escN n 120 b2 b3 = (1, 0, 0) := by unfold escN; rw [if_neg (by omega), if_neg (by omega), if_neg (by omega), if_pos (by omega)]
theorem escN_no {n b2 b3 : Nat} (h : 2 < n) (h2 : unhex b2 = none) : escN n 120 b2 b3 = (2, 0, 0) := by unfold escN; rw [if_neg (by omega), if_neg (by omega), if_neg (by omega), if_neg (by omega), h2]
theorem escN_cut3 {n b2 b3 a : Nat} (h : n = 3) (h2 : unhex b2 = some a) : escN n 120 b2 b3 = (1, 0, 0) := by
  unfold escN
  rw [if_neg (by omega), if_neg (by omega), if_neg (by omega), if_neg (by omega), h2]
  simp only
  rw [if_pos (by omega)]
theorem escN_no3 {n b2 b3 a : Nat} (h : 3 < n) (h2 : unhex b2 = some a) (h3 : unhex b3 = none) : escN n 120 b2 b3 = (2, 0, 0) := by
  unfold escN
  rw [if_neg (by omega), if_neg (by omega), if_neg (by omega), if_neg (by omega), h2]
  simp only
  rw [if_neg (by omega), h3]
theorem escN_yes {n b2 b3 a b : Nat} (h : 3 < n) (h2 : unhex b2 = some a) (h3 : unhex b3 = some b) : escN n 120 b2 b3 = (0, 16 * a + b, 4) := by
  unfold escN
  rw [if_neg (by omega), if_neg (by omega), if_neg (by omega), if_neg (by omega), h2]
  simp only
  rw [if_neg (by omega), h3]

/-- a digit's number, or -1 -/
def dig (b : Nat) : Int := match unhex b with
  | some a => a
  | none => -1
theorem dig_some {b a : Nat} (h : unhex b = some a) : dig b = a := by unfold dig; rw [h]
theorem dig_none {b : Nat} (h : unhex b = none) : dig b = -1 := by unfold dig; rw [h]
set_option maxRecDepth 100000 in
theorem index_hex : ∀ c : Fin 256, Lib.indexByte hexs.data.toList (UInt8.ofNat c.1) = dig c.1 := by decide

theorem index_any (d : UInt8) (w : World) :
    Calls Tryd.prog 84 #[.string ⟨#[48, 49, 50, 51, 52, 53, 54, 55, 56, 57, 97, 98, 99, 100, 101, 102]⟩, .int .u8 d.toNat] w fun e w' => e = .returned (.int .i64 (dig d.toNat)) ∧ w' = w := by
  have h := index_hex ⟨d.toNat, d.toNat_lt⟩
  rw [← h]
  have e : ((d.toNat : Int).toNat.toUInt8) = UInt8.ofNat d.toNat := rfl
  rw [← e]
  exact strings_IndexByte hexs (d.toNat : Int) w

set_option maxRecDepth 100000 in
set_option maxHeartbeats 2000000 in
theorem digit_any (d : UInt8) (w : World) :
    Calls Tryd.prog 67 #[.int .u8 d.toNat] w fun e w' => e = .returned (.int .i64 (dig d.toNat)) ∧ w' = w := by
  have hd0 : d.toNat < 256 := d.toNat_lt
  have hv : dig d.toNat = if 48 ≤ d.toNat ∧ d.toNat ≤ 57 then (d.toNat : Int) - 48 else if 97 ≤ d.toNat ∧ d.toNat ≤ 102 then (d.toNat : Int) - 87 else -1 := by
    unfold dig unhex
    split <;> rename_i h
    · split at h
      · injection h with h; rw [if_pos (by assumption)]; omega
      · split at h
        · injection h with h; rw [if_neg (by assumption), if_pos (by assumption)]; omega
        · cases h
    · split at h
      · cases h
      · split at h
        · cases h
        · rw [if_neg (by assumption), if_neg (by assumption)]
  go_enter Tryd.func67, Tryd.ntmps67
  by_cases h1 : 48 ≤ d.toNat
  · by_cases h2 : d.toNat ≤ 57
    · have HV := Lib.hid (hv.trans (if_pos ⟨h1, h2⟩))
      clear hv
      go_wp2_with fail
      go_ret
      exact ⟨ret_int (by rw [HV.out]), rfl⟩
    · by_cases h3 : 97 ≤ d.toNat
      · by_cases h4 : d.toNat ≤ 102
        · have HV := Lib.hid (hv.trans ((if_neg (by omega)).trans (if_pos ⟨h3, h4⟩)))
          clear hv
          go_wp2_with fail
          go_ret
          exact ⟨ret_int (by rw [HV.out]), rfl⟩
        · have HV := Lib.hid (hv.trans ((if_neg (by omega)).trans (if_neg (by omega))))
          clear hv
          go_wp2_with fail
          go_ret
          exact ⟨ret_int (by rw [HV.out]), rfl⟩
      · have HV := Lib.hid (hv.trans ((if_neg (by omega)).trans (if_neg (by omega))))
        clear hv
        go_wp2_with fail
        go_ret
        exact ⟨ret_int (by rw [HV.out]), rfl⟩
  · have HV := Lib.hid (hv.trans ((if_neg (by omega)).trans (if_neg (by omega))))
    clear hv
    go_wp2_with fail
    go_ret
    exact ⟨ret_int (by rw [HV.out]), rfl⟩

theorem toNat_lo {n : Nat} (h : n < 256) : (UInt8.ofNat n).toNat = n := by
  rw [UInt8.toNat_ofNat']
  omega
theorem byte_any (n : Int) (w : World) (h0 : 0 ≤ n) (hn : n ≤ 255) :
    Calls Tryd.prog 68 #[.int .i64 n] w fun e w' => e = .returned (.string (txt [UInt8.ofNat n.toNat])) ∧ Below w.heap.size w w' := by
  have hc : ∀ t, (convert 63 9 (.slice (some ⟨w.heap.size, 0, none⟩) 1 1)).run Tryd.prog (w.alloc (.cells #[.int .u8 n] t)) = .ok (.string (txt [UInt8.ofNat n.toNat])) (w.alloc (.cells #[.int .u8 n] t)) := fun t => by
    refine run_convert_bytes_back _ _ _ 5 _ 1 [UInt8.ofNat n.toNat] Tryd.underlying63 Tryd.underlying5 Tryd.underlying9 fun j hj => ?_
    have : j = 0 := by simpa using hj
    subst this
    rw [one_new 0 _ rfl]
    simp only [List.getElem_cons_zero, toNat_lo (show n.toNat < 256 by omega)]
    congr 2; omega
  go_enter Tryd.func68, Tryd.ntmps68
  go_wp2_with fail
  go_ret
  exact ⟨rfl, (Below.refl _ _).alloc (Nat.le_refl _) _⟩

def escV (r : Nat × Nat × Nat) : Value := .tuple #[.int .u8 r.2.1, .int .i64 r.2.2, .int .i64 r.1]
theorem ret_esc {r : Nat × Nat × Nat} {a b c : Nat} (h : r = (a, b, c)) : Ending.returned (.tuple #[.int .u8 b, .int .i64 c, .int .i64 a]) = .returned (escV r) := by rw [h]; rfl

set_option maxRecDepth 100000 in
set_option maxHeartbeats 4000000 in
theorem escape_any (t : ByteArray) (w : World) (hs : t.size ≤ maxLen) :
    Calls Tryd.prog 66 #[.string t] w fun e w' => e = .returned (escV (escR t 0)) ∧ w' = w := by
  unfold maxLen at hs
  have hv : escR t 0 = escN t.size (byt t 1) (byt t 2) (byt t 3) := rfl
  go_enter Tryd.func66, Tryd.ntmps66
  by_cases h2 : t.size < 2
  · have HV := Lib.hid (hv.trans (escN_short h2))
    clear hv
    have h2' : (t.size : Int) < 2 := by omega
    go_wp2_with fail
    go_ret3
    exact ⟨ret_esc HV.out, rfl⟩
  have h2' : ¬ (t.size : Int) < 2 := by omega
  have hp1 : 1 < t.size := by omega
  have hb1 := byt_at t 1 hp1
  obtain ⟨d1, hd1⟩ : ∃ d, t[1]'hp1 = d := ⟨_, rfl⟩
  rw [hd1] at hb1
  rw [← hb1] at hv
  clear hb1
  have hd10 : d1.toNat < 256 := d1.toNat_lt
  by_cases h34 : d1.toNat = 34
  · have HV := Lib.hid (hv.trans (escN_mark h2 (.inl h34)))
    have hb' : ((d1.toNat : Int) == 34) = true := by rw [h34]; rfl
    clear hv h34
    go_wp2_with fail
    go_ret3
    exact ⟨ret_esc HV.out, rfl⟩
  have h34' : ((d1.toNat : Int) == 34) = false := beq_eq_false_iff_ne.2 (by omega)
  by_cases h92 : d1.toNat = 92
  · have HV := Lib.hid (hv.trans (escN_mark h2 (.inr h92)))
    have hb' : ((d1.toNat : Int) == 92) = true := by rw [h92]; rfl
    clear hv h92 h34
    go_wp2_with fail
    go_ret3
    exact ⟨ret_esc HV.out, rfl⟩
  have h92' : ((d1.toNat : Int) == 92) = false := beq_eq_false_iff_ne.2 (by omega)
  by_cases h120 : d1.toNat = 120
  case neg =>
    have HV := Lib.hid (hv.trans (escN_bad h2 (by omega) h120))
    have h120' : ¬ (d1.toNat : Int) = 120 := by omega
    clear hv h92 h34
    go_wp2_with fail
    go_ret3
    exact ⟨ret_esc HV.out, rfl⟩
  have h120' : (d1.toNat : Int) = 120 := by omega
  have h92'' : ¬ (d1.toNat : Int) = 92 := by omega
  have h34'' : ¬ (d1.toNat : Int) = 34 := by omega
  rw [h120] at hv
  have HVV := Lib.hid hv
  clear hv h92 h34 h92' h34'
  go_wp2_with fail
  go_loop [5, 6] (fun n c => ∃ (k N : Nat), c = .int .i64 ((2 + k : Nat) : Int) ∧ n = .int .i64 N ∧ ((k = 0 ∧ N = 0) ∨ (k = 1 ∧ Hid (2 < t.size ∧ unhex (byt t 2) = some N)) ∨ (k = 2 ∧ Hid (escR t 0 = (0, N, 4) ∧ N < 256)))) (fun _ c => 4 - (intOf c).toNat)
  case atStart => exact ⟨0, 0, rfl, rfl, .inl ⟨rfl, rfl⟩⟩
  case round =>
    obtain ⟨k, N, rfl, rfl, hk | hk | hk⟩ := hrel
    · obtain ⟨rfl, rfl⟩ := hk
      by_cases hs2 : 2 < t.size
      · have hs2' : ¬ (t.size : Int) ≤ 2 := by omega
        have hbt := byt_at t 2 hs2
        obtain ⟨d, hd⟩ : ∃ d, t[2]'hs2 = d := ⟨_, rfl⟩
        rw [hd] at hbt
        have HBT := Lib.hid hbt
        clear hbt
        rcases hu : unhex d.toNat with _ | a
        · have HV : Hid (escR t 0 = (2, 0, 0)) := Lib.hid (HVV.out.trans (escN_no hs2 (by rw [← HBT.out]; exact hu)))
          have hD := dig_none hu
          clear hu
          go_wp2_with (go_at_call 84; refine (index_any d _).mono ?_; rintro e w' ⟨rfl, rfl⟩; rw [hD])
          go_ret3
          exact ⟨ret_esc HV.out, rfl⟩
        · have hD := dig_some hu
          have ha := unhex_lt hu
          have HU := Lib.hid hu
          clear hu
          go_wp2_with (go_at_call 84; refine (index_any d _).mono ?_; rintro e w' ⟨rfl, rfl⟩; rw [hD])
          go_round
          case rel => exact ⟨1, a, rfl, by simp, .inr (.inl ⟨rfl, Lib.hid ⟨hs2, by rw [← HBT.out]; exact HU.out⟩⟩)⟩
          case measure => simp [intOf]
      · have hs2' : (t.size : Int) ≤ 2 := by omega
        have HV : Hid (escR t 0 = (1, 0, 0)) := Lib.hid (HVV.out.trans (escN_cut (by omega)))
        go_wp2_with fail
        go_ret3
        exact ⟨ret_esc HV.out, rfl⟩
    · obtain ⟨rfl, hk⟩ := hk
      have hN := unhex_lt hk.out.2
      by_cases hs2 : 3 < t.size
      · have hs2' : ¬ (t.size : Int) ≤ 3 := by omega
        have hbt := byt_at t 3 hs2
        obtain ⟨d, hd⟩ : ∃ d, t[3]'hs2 = d := ⟨_, rfl⟩
        rw [hd] at hbt
        have HBT := Lib.hid hbt
        clear hbt
        rcases hu : unhex d.toNat with _ | a
        · have HV : Hid (escR t 0 = (2, 0, 0)) := Lib.hid (HVV.out.trans (escN_no3 hs2 hk.out.2 (by rw [← HBT.out]; exact hu)))
          have hD := dig_none hu
          clear hu
          go_wp2_with (go_at_call 84; refine (index_any d _).mono ?_; rintro e w' ⟨rfl, rfl⟩; rw [hD])
          go_ret3
          exact ⟨ret_esc HV.out, rfl⟩
        · have hD := dig_some hu
          have ha := unhex_lt hu
          have HV : Hid (escR t 0 = (0, 16 * N + a, 4)) := Lib.hid (HVV.out.trans (escN_yes hs2 hk.out.2 (by rw [← HBT.out]; exact hu)))
          clear hu
          go_wp2_with (go_at_call 84; refine (index_any d _).mono ?_; rintro e w' ⟨rfl, rfl⟩; rw [hD])
          go_round
          case rel => exact ⟨2, 16 * N + a, rfl, by simp, .inr (.inr ⟨rfl, Lib.hid ⟨HV.out, by omega⟩⟩)⟩
          case measure => simp [intOf]
      · have hs2' : (t.size : Int) ≤ 3 := by omega
        have HV : Hid (escR t 0 = (1, 0, 0)) := Lib.hid (HVV.out.trans (escN_cut3 (by have := hk.out.1; omega) hk.out.2))
        go_wp2_with fail
        go_ret3
        exact ⟨ret_esc HV.out, rfl⟩
    · obtain ⟨rfl, hk⟩ := hk
      have hN := hk.out.2
      go_wp2_with fail
      go_ret3
      exact ⟨ret_esc hk.out.1, rfl⟩
end Go.Proofs.YtgdfklgbdfpinaaDoor
