/-
  The walks of Unit and safe of the reference, and of Unit and plain of the package. Conditions: the tables of unicode/utf8 lie as laid, where the package decodes.
-/
import Derived.Test.YtgdfklgbdfpinaaDoorQuRune
import Derived.Test.YtgdfklgbdfpinaaDoorQuShelf
namespace Go.Proofs.YtgdfklgbdfpinaaDoor
set_option linter.unusedVariables false
open Go.RowKit Go.Sort Go.Lib

theorem byt_getD (s : ByteArray) (i : Nat) : byt s i = (s.data.toList.getD i 0).toNat := by
  by_cases h : i < s.size
  · have h' : i < s.data.toList.length := by rw [Array.length_toList]; exact h
    rw [byt, get_at s i h, List.getD_eq_getElem?_getD, List.getElem?_eq_getElem h']
    rfl
  · have h' : s.data.toList.length ≤ i := by rw [Array.length_toList]; exact Nat.le_of_not_lt h
    rw [byt_past s i h, List.getD_eq_getElem?_getD, List.getElem?_eq_none h']
    rfl
theorem size_list (s : ByteArray) : s.size = s.data.toList.length := by rw [Array.length_toList]; rfl
theorem txt_list (l : List UInt8) : (txt l).data.toList = l := by simp [txt]
theorem tail_list (s : ByteArray) (p : Nat) : (s.extract p s.size).data.toList = s.data.toList.drop p := by
  rw [extract_txt, txt_list, List.take_of_length_le (by rw [List.length_drop, ← size_list]; omega)]
theorem tail_byt (s : ByteArray) (p j : Nat) : byt (s.extract p s.size) j = byt s (p + j) := by
  rw [byt_getD, byt_getD, tail_list, List.getD_eq_getElem?_getD, List.getElem?_drop, ← List.getD_eq_getElem?_getD]
theorem tail_size (s : ByteArray) (p : Nat) : (s.extract p s.size).size = s.size - p := by
  rw [size_list, tail_list, List.length_drop, ← size_list]
theorem decodeGo_tail (s : ByteArray) (p : Nat) (h : p < s.size) : decodeGo (s.extract p s.size) = Utf8.decode s p := by
  unfold decodeGo
  rw [if_neg (by rw [tail_size]; omega), decode_at, decode_at, tail_size]
  have e : ∀ j, (s.extract p s.size).get! j = s.get! (p + j) := fun j => UInt8.toNat_inj.1 (tail_byt s p j)
  rw [e, e, e, e]
  rfl

/-- how many bytes the unit at a place has, whatever the place -/
def unitI (s : ByteArray) (q : Int) : Int := if q < 0 ∨ (s.size : Int) ≤ q then 0 else unit s q.toNat
theorem unitI_nat (s : ByteArray) (p : Nat) (h : p < s.size) : unitI s p = unit s p := by
  unfold unitI
  rw [if_neg (by omega)]
  rfl
theorem unitI_out (s : ByteArray) (q : Int) (h : q < 0 ∨ (s.size : Int) ≤ q) : unitI s q = 0 := by
  unfold unitI
  rw [if_pos h]

set_option maxRecDepth 100000 in
set_option maxHeartbeats 2000000 in
theorem refunit_any (s : ByteArray) (q : Int) (w : World) (hs : s.size ≤ maxLen) :
    Calls Tryd.prog 58 #[.string s, .int .i64 q] w fun e w' => e = .returned (.int .i64 (unitI s q)) ∧ w' = w := by
  have HS := Lib.hid hs
  unfold maxLen at hs
  go_enter Tryd.func58, Tryd.ntmps58
  by_cases h0 : q < 0
  · have HU := Lib.hid (unitI_out s q (.inl h0))
    go_wp2_with fail
    go_ret
    exact ⟨ret_int HU.out.symm, rfl⟩
  · by_cases h1 : (s.size : Int) ≤ q
    · have HU := Lib.hid (unitI_out s q (.inr h1))
      go_wp2_with fail
      go_ret
      exact ⟨ret_int HU.out.symm, rfl⟩
    · obtain ⟨p, rfl⟩ : ∃ p : Nat, q = p := ⟨q.toNat, by omega⟩
      have hp : p < s.size := by omega
      have HU := Lib.hid (unitI_nat s p hp)
      by_cases hr : rune s p = 0
      · have hu : unit s p = 1 := by unfold unit; rw [if_pos hr]
        have HR := Lib.hid hu
        have hr' : (((rune s p : Nat) : Int) == 0) = true := by simp [hr]
        clear hr hu
        go_wp2_with (go_at_call 52; refine (refrune_any s p _ hp HS.out).mono ?_; rintro e w' ⟨rfl, rfl⟩)
        go_ret
        exact ⟨ret_int (by rw [HU.out, HR.out]; rfl), rfl⟩
      · have hu : unit s p = rune s p := by unfold unit; rw [if_neg hr]
        have HR := Lib.hid hu
        have hr' : (((rune s p : Nat) : Int) == 0) = false := by simp [hr]
        clear hr hu
        go_wp2_with (go_at_call 52; refine (refrune_any s p _ hp HS.out).mono ?_; rintro e w' ⟨rfl, rfl⟩)
        go_ret
        exact ⟨ret_int (by rw [HU.out, HR.out]), rfl⟩

set_option maxRecDepth 100000 in
set_option maxHeartbeats 2000000 in
theorem refsafe_any (s : ByteArray) (p : Nat) (w : World) (hp : p < s.size) (hs : s.size ≤ maxLen) :
    Calls Tryd.prog 51 #[.string s, .int .i64 p] w fun e w' => e = .returned (.bool (safeB s p)) ∧ w' = w := by
  have HS := Lib.hid hs
  unfold maxLen at hs
  have hv : safeB s p = decide (0 < rune s p ∧ 32 ≤ byt s p ∧ byt s p ≠ 127) := rfl
  have hb := byt_at s p hp
  obtain ⟨d, hd⟩ : ∃ d, s[p]'hp = d := ⟨_, rfl⟩
  rw [hd] at hb
  rw [← hb] at hv
  clear hb
  go_enter Tryd.func51, Tryd.ntmps51
  by_cases h0 : 0 < rune s p
  · have h0' : 0 < ((rune s p : Nat) : Int) := by omega
    by_cases h1 : 32 ≤ d.toNat
    · have h1' : 32 ≤ (d.toNat : Int) := by omega
      by_cases h2 : d.toNat = 127
      · have h2' : ((d.toNat : Int) == 127) = true := by simp; omega
        have HV := Lib.hid (hv.trans (decide_eq_false (by omega)))
        clear hv
        go_wp2_with (go_at_call 52; refine (refrune_any s p _ hp HS.out).mono ?_; rintro e w' ⟨rfl, rfl⟩)
        go_ret
        exact ⟨ret_bool HV.out.symm, rfl⟩
      · have h2' : ((d.toNat : Int) == 127) = false := by simp; omega
        have HV := Lib.hid (hv.trans (decide_eq_true (by omega)))
        clear hv
        go_wp2_with (go_at_call 52; refine (refrune_any s p _ hp HS.out).mono ?_; rintro e w' ⟨rfl, rfl⟩)
        go_ret
        refine ⟨ret_bool (Eq.trans ?_ HV.out.symm), rfl⟩
        simp
        omega
    · have h1' : ¬ 32 ≤ (d.toNat : Int) := by omega
      have HV := Lib.hid (hv.trans (decide_eq_false (by omega)))
      clear hv
      go_wp2_with (go_at_call 52; refine (refrune_any s p _ hp HS.out).mono ?_; rintro e w' ⟨rfl, rfl⟩)
      go_ret
      exact ⟨ret_bool HV.out.symm, rfl⟩
  · have h0' : ¬ 0 < ((rune s p : Nat) : Int) := by omega
    have HV := Lib.hid (hv.trans (decide_eq_false (by omega)))
    clear hv
    go_wp2_with (go_at_call 52; refine (refrune_any s p _ hp HS.out).mono ?_; rintro e w' ⟨rfl, rfl⟩)
    go_ret
    exact ⟨ret_bool HV.out.symm, rfl⟩

set_option maxRecDepth 100000 in
set_option maxHeartbeats 2000000 in
theorem plain_any (c n : Int) (w : World) :
    Calls Tryd.prog 57 #[.int .i32 c, .int .i64 n] w fun e w' => e = .returned (.bool (decide (32 ≤ c ∧ c ≠ 127 ∧ (c ≠ 65533 ∨ 1 < n)))) ∧ w' = w := by
  obtain ⟨V, hv⟩ : ∃ V, decide (32 ≤ c ∧ c ≠ 127 ∧ (c ≠ 65533 ∨ 1 < n)) = V := ⟨_, rfl⟩
  rw [hv]
  go_enter Tryd.func57, Tryd.ntmps57
  by_cases h1 : 32 ≤ c
  · by_cases h2 : c = 127
    · subst h2
      have HV := Lib.hid (hv.symm.trans (decide_eq_false (by omega)))
      clear hv
      go_wp2_with fail
      go_ret
      refine ⟨ret_bool (Eq.trans ?_ HV.out.symm), rfl⟩
      rfl
    · by_cases h3 : c = 65533
      · subst h3
        by_cases h4 : 1 < n
        · have HV := Lib.hid (hv.symm.trans (decide_eq_true (by omega)))
          clear hv h2
          go_wp2_with fail
          go_ret
          refine ⟨ret_bool (Eq.trans ?_ HV.out.symm), rfl⟩
          rfl
        · have HV := Lib.hid (hv.symm.trans (decide_eq_false (by omega)))
          clear hv h2
          go_wp2_with fail
          go_ret
          refine ⟨ret_bool (Eq.trans ?_ HV.out.symm), rfl⟩
          rfl
      · have HV := Lib.hid (hv.symm.trans (decide_eq_true (by omega)))
        clear hv
        go_wp2_with fail
        go_ret
        refine ⟨ret_bool (Eq.trans ?_ HV.out.symm), rfl⟩
        simp
        omega
  · have HV := Lib.hid (hv.symm.trans (decide_eq_false (by omega)))
    clear hv
    go_wp2_with fail
    go_ret
    exact ⟨ret_bool HV.out.symm, rfl⟩

set_option maxRecDepth 100000 in
set_option maxHeartbeats 2000000 in
theorem unit_any (s : ByteArray) (q : Int) (w : World) (hs : s.size ≤ maxLen) (hT : Utf8Tabs 0 1 w) :
    Calls Tryd.prog 55 #[.string s, .int .i64 q] w fun e w' => e = .returned (.int .i64 (unitI s q)) ∧ Below w.heap.size w w' := by
  have HT := Lib.hid hT
  clear hT
  unfold maxLen at hs
  go_enter Tryd.func55, Tryd.ntmps55
  by_cases h0 : q < 0
  · have HU := Lib.hid (unitI_out s q (.inl h0))
    go_wp2_with fail
    go_ret
    exact ⟨ret_int HU.out.symm, Below.refl _ _⟩
  · by_cases h1 : (s.size : Int) ≤ q
    · have HU := Lib.hid (unitI_out s q (.inr h1))
      go_wp2_with fail
      go_ret
      exact ⟨ret_int HU.out.symm, Below.refl _ _⟩
    · obtain ⟨p, rfl⟩ : ∃ p : Nat, q = p := ⟨q.toNat, by omega⟩
      have hp : p < s.size := by omega
      have hple : p ≤ s.size := by omega
      have HU := Lib.hid (unitI_nat s p hp)
      have HD := Lib.hid (decodeGo_tail s p hp)
      have HN := Lib.hid (unit_dec s p hp)
      go_wp2_with (go_at_call 65; refine (utf8_DecodeRuneInString (s.extract p s.size) _ HT.out).mono ?_; rintro e w' ⟨rfl, hbw⟩)
      go_ret
      exact ⟨ret_int (by rw [HU.out, HD.out, HN.out]), hbw⟩
end Go.Proofs.YtgdfklgbdfpinaaDoor
