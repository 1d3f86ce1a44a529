/-
  What an escape stands for, by the reference. Conditions: the place lies in the text; the text is no longer than a text can be.
-/
import Derived.Test.YtgdfklgbdfpinaaDoorQuEsc
namespace Go.Proofs.YtgdfklgbdfpinaaDoor
set_option linter.unusedVariables false
open Go.RowKit Go.Sort

def escT (r : Nat × Nat × Nat) : ByteArray := if r.1 = 0 then txt [UInt8.ofNat r.2.1] else ⟨#[]⟩
def escI (r : Nat × Nat × Nat) : Int := if r.1 = 1 then -1 else if r.1 = 2 then 0 else r.2.2
theorem ret_esc2 {r q : Nat × Nat × Nat} {a : ByteArray} {b : Int} (h : r = q) (ha : escT q = a) (hb : escI q = b) : Ending.returned (.tuple #[.string a, .int .i64 b]) = .returned (.tuple #[.string (escT r), .int .i64 (escI r)]) := by rw [h, ha, hb]

set_option maxRecDepth 100000 in
set_option maxHeartbeats 4000000 in
theorem refescape_any (s : ByteArray) (p : Nat) (w : World) (hp : p < s.size) (hs : s.size ≤ maxLen) :
    Calls Tryd.prog 50 #[.string s, .int .i64 p] w fun e w' => e = .returned (.tuple #[.string (escT (escR s p)), .int .i64 (escI (escR s p))]) ∧ Below w.heap.size w w' := by
  unfold maxLen at hs
  have hv : escR s p = escN (s.size - p) (byt s (p + 1)) (byt s (p + 2)) (byt s (p + 3)) := rfl
  have hw : IntKind.i64.wrap ((s.size : Int) - p) = (s.size : Int) - p := IntWalk.i64_in _ (by omega)
  obtain ⟨L, hL⟩ : ∃ L : Nat, s.size - p = L := ⟨_, rfl⟩
  have hLi : (s.size : Int) - p = L := by omega
  rw [hL] at hv
  rw [hLi] at hw
  go_enter Tryd.func50, Tryd.ntmps50
  by_cases h2 : L < 2
  · have HV := Lib.hid (hv.trans (escN_short h2))
    clear hv
    have h2' : (s.size : Int) - p < 2 := by omega
    go_wp2_with fail
    go_ret2
    exact ⟨ret_esc2 HV.out rfl rfl, Below.refl _ _⟩
  have h2' : ¬ (s.size : Int) - p < 2 := by omega
  have hp1 : p + 1 < s.size := by omega
  have hb1 := byt_at s (p + 1) hp1
  have ho1 := one_part s (p + 1) hp1
  obtain ⟨d1, hd1⟩ : ∃ d, s[p + 1]'hp1 = d := ⟨_, rfl⟩
  rw [hd1] at hb1
  rw [get_ofNat, ← hb1] at ho1
  have HO := Lib.hid ho1
  rw [← hb1] at hv
  clear hb1 ho1
  have hd10 : d1.toNat < 256 := d1.toNat_lt
  by_cases h34 : d1.toNat = 34
  · have HV := Lib.hid (hv.trans (escN_mark h2 (.inl h34)))
    have hb' : ((d1.toNat : Int) == 34) = true := by rw [h34]; rfl
    clear hv h34
    go_wp2_with fail
    go_ret2
    exact ⟨ret_esc2 HV.out HO.out.symm rfl, Below.refl _ _⟩
  have h34' : ((d1.toNat : Int) == 34) = false := beq_eq_false_iff_ne.2 (by omega)
  by_cases h92 : d1.toNat = 92
  · have HV := Lib.hid (hv.trans (escN_mark h2 (.inr h92)))
    have hb' : ((d1.toNat : Int) == 92) = true := by rw [h92]; rfl
    clear hv h92 h34
    go_wp2_with fail
    go_ret2
    exact ⟨ret_esc2 HV.out HO.out.symm rfl, Below.refl _ _⟩
  have h92' : ((d1.toNat : Int) == 92) = false := beq_eq_false_iff_ne.2 (by omega)
  by_cases h120 : d1.toNat = 120
  case neg =>
    have HV := Lib.hid (hv.trans (escN_bad h2 (by omega) h120))
    have h120' : ¬ (d1.toNat : Int) = 120 := by omega
    clear hv h92 h34
    go_wp2_with fail
    go_ret2
    exact ⟨ret_esc2 HV.out rfl rfl, Below.refl _ _⟩
  have h120' : (d1.toNat : Int) = 120 := by omega
  have h92'' : ¬ (d1.toNat : Int) = 92 := by omega
  have h34'' : ¬ (d1.toNat : Int) = 34 := by omega
  rw [h120] at hv
  have HVV := Lib.hid hv
  clear hv h92 h34 h92' h34'
  by_cases hs2 : 2 < L
  case neg =>
    have h3' : (s.size : Int) - p < 3 := by omega
    have HV : Hid (escR s p = (1, 0, 0)) := Lib.hid (HVV.out.trans (escN_cut (by omega)))
    go_wp2_with fail
    go_ret2
    exact ⟨ret_esc2 HV.out rfl rfl, Below.refl _ _⟩
  have h3' : ¬ (s.size : Int) - p < 3 := by omega
  have hp2 : p + 2 < s.size := by omega
  have hbt := byt_at s (p + 2) hp2
  obtain ⟨d, hd⟩ : ∃ d, s[p + 2]'hp2 = d := ⟨_, rfl⟩
  rw [hd] at hbt
  have HBT := Lib.hid hbt
  clear hbt
  rcases hu : unhex d.toNat with _ | a
  · have HV : Hid (escR s p = (2, 0, 0)) := Lib.hid (HVV.out.trans (escN_no hs2 (by rw [← HBT.out]; exact hu)))
    have hD := dig_none hu
    clear hu
    go_wp2_with (go_at_call 67; refine (digit_any d _).mono ?_; rintro e w' ⟨rfl, rfl⟩; rw [hD])
    go_ret2
    exact ⟨ret_esc2 HV.out rfl rfl, Below.refl _ _⟩
  have hD := dig_some hu
  have ha := unhex_lt hu
  have HU := Lib.hid hu
  clear hu
  by_cases hs3 : 3 < L
  case neg =>
    have h4' : (s.size : Int) - p < 4 := by omega
    have HV : Hid (escR s p = (1, 0, 0)) := Lib.hid (HVV.out.trans (escN_cut3 (by omega) (by rw [← HBT.out]; exact HU.out)))
    go_wp2_with (go_at_call 67; refine (digit_any d _).mono ?_; rintro e w' ⟨rfl, rfl⟩; rw [hD])
    go_ret2
    exact ⟨ret_esc2 HV.out rfl rfl, Below.refl _ _⟩
  have h4' : ¬ (s.size : Int) - p < 4 := by omega
  have hp3 : p + 3 < s.size := by omega
  have hbt3 := byt_at s (p + 3) hp3
  obtain ⟨c, hc⟩ : ∃ c, s[p + 3]'hp3 = c := ⟨_, rfl⟩
  rw [hc] at hbt3
  have HBT3 := Lib.hid hbt3
  clear hbt3
  rcases hu3 : unhex c.toNat with _ | b
  · have HV : Hid (escR s p = (2, 0, 0)) := Lib.hid (HVV.out.trans (escN_no3 hs3 (by rw [← HBT.out]; exact HU.out) (by rw [← HBT3.out]; exact hu3)))
    have hD3 := dig_none hu3
    clear hu3
    go_wp2_with (go_at_call 67; refine (digit_any d _).mono ?_)
    rintro e w' ⟨rfl, rfl⟩
    rw [hD]
    go_wp2_with (go_at_call 67; refine (digit_any c _).mono ?_)
    rintro e w' ⟨rfl, rfl⟩
    rw [hD3]
    go_wp2_with fail
    go_ret2
    exact ⟨ret_esc2 HV.out rfl rfl, Below.refl _ _⟩
  have hD3 := dig_some hu3
  have hb := unhex_lt hu3
  have HV : Hid (escR s p = (0, 16 * a + b, 4)) := Lib.hid (HVV.out.trans (escN_yes hs3 (by rw [← HBT.out]; exact HU.out) (by rw [← HBT3.out]; exact hu3)))
  clear hu3
  go_wp2_with (go_at_call 67; refine (digit_any d _).mono ?_)
  rintro e w' ⟨rfl, rfl⟩
  rw [hD]
  go_wp2_with (go_at_call 67; refine (digit_any c _).mono ?_)
  rintro e w' ⟨rfl, rfl⟩
  rw [hD3]
  go_wp2_with (go_at_call 68; refine (byte_any _ _ (by omega) (by omega)).mono ?_)
  rintro e w' ⟨rfl, hbw⟩
  go_wp2_with fail
  go_ret2
  refine ⟨ret_esc2 HV.out ?_ rfl, hbw⟩
  unfold escT
  rw [if_pos rfl]
  congr 3
end Go.Proofs.YtgdfklgbdfpinaaDoor
