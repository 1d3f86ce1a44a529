/-
  The walk of the reference's Text: it writes 'qtext'. Conditions: the text is short.
-/
import Derived.Test.YtgdfklgbdfpinaaDoorQuText
import Derived.Test.YtgdfklgbdfpinaaDoorAlloc2
namespace Go.Proofs.YtgdfklgbdfpinaaDoor
set_option linter.unusedVariables false
open Go.RowKit Go.Sort

theorem hexs_part16 : ∀ k : Fin 16, hexs.extract k.1 (k.1 + 1) = txt [hexd k.1] := by decide
theorem hexs_part (k : Nat) (h : k < 16) : hexs.extract k (k + 1) = txt [hexd k] := hexs_part16 ⟨k, h⟩

set_option maxHeartbeats 4000000 in
set_option maxRecDepth 1000000 in
theorem hex_one (b : UInt8) (w : World) :
    Calls Tryd.prog 59 #[.string (txt [b])] w fun e w' => e = .returned (.string (txt [hexd (b.toNat / 16), hexd (b.toNat % 16)])) ∧ Below w.heap.size w w' := by
  have hsz : (txt [b]).size = 1 := rfl
  have h0 : (txt [b])[0]'(by rw [hsz]; omega) = b := rfl
  have hb : b.toNat < 256 := b.toNat_lt
  go_enter Tryd.func59, Tryd.ntmps59
  go_wp2_with fail
  go_loopw [4, 5] (fun o c wr => ∃ k : Nat, k ≤ 1 ∧ c = .int .i64 k ∧ o = .string (if k = 0 then ⟨#[]⟩ else txt [hexd (b.toNat / 16), hexd (b.toNat % 16)]) ∧ Below w.heap.size w wr) (fun _ c _ => 1 - (intOf c).toNat)
  case atStart => exact ⟨0, by omega, rfl, rfl, Below.refl _ _⟩
  case round =>
    obtain ⟨k, hk, rfl, rfl, hbw⟩ := hrel
    by_cases hk0 : k = 0
    · subst hk0
      rw [if_pos rfl]
      go_wp2_with fail
      refine wp_region_quiet_below (by kernel_rfl) (by kernel_rfl) ?_
      repeat (go_big_quiet_step (fail))
      refine wpQuiet_nil ?_
      intro _ hw'
      obtain ⟨⟨dq, osq⟩, hw''⟩ := hw'
      subst hw''
      have bb : Below wr.heap.size wr (Sort.grow (redrawn wr dq) osq) := below_regrown wr dq osq
      have hB2 : Below w.heap.size w (Sort.grow (redrawn wr dq) osq) := hbw.trans (bb.mono hbw.size)
      generalize Sort.grow (redrawn wr dq) osq = w2 at *
      go_wp2_with fail
      obtain ⟨h, eh⟩ : ∃ h : Nat, (b.toNat : Int) / 16 = h := ⟨b.toNat / 16, by omega⟩
      obtain ⟨l, el⟩ : ∃ l : Nat, (b.toNat : Int) % 16 = l := ⟨b.toNat % 16, by omega⟩
      have hh : h < 16 := by omega
      have hl : l < 16 := by omega
      rw [eh, el]
      obtain rfl : h = b.toNat / 16 := by omega
      obtain rfl : l = b.toNat % 16 := by omega
      clear eh el
      have X1 := Lib.hid (hexs_part _ hh)
      have X2 := Lib.hid (hexs_part _ hl)
      obtain ⟨h, eh⟩ : ∃ h, b.toNat / 16 = h := ⟨_, rfl⟩
      obtain ⟨l, el⟩ : ∃ l, b.toNat % 16 = l := ⟨_, rfl⟩
      have EH := Lib.hid eh
      have EL := Lib.hid el
      rw [eh] at X1 hh
      rw [el] at X2 hl
      rw [eh, el]
      clear eh el
      refine wp_region_quiet_below (by kernel_rfl) (by kernel_rfl) ?_
      repeat (go_big_quiet_step (fail))
      refine wpQuiet_nil ?_
      intro _ hw'
      obtain ⟨⟨dq, osq⟩, hw''⟩ := hw'
      subst hw''
      have bb : Below w2.heap.size w2 (Sort.grow (redrawn w2 dq) osq) := below_regrown w2 dq osq
      have hB3 : Below w.heap.size w (Sort.grow (redrawn w2 dq) osq) := hB2.trans (bb.mono hB2.size)
      generalize Sort.grow (redrawn w2 dq) osq = w3 at *
      go_wp2_with fail
      go_roundw
      case rel =>
        refine ⟨1, by omega, rfl, ?_, hB3⟩
        rw [if_neg (by omega), EH.out, EL.out]
        change Value.string ((⟨#[]⟩ ++ hexs.extract h (h + 1)) ++ hexs.extract l (l + 1)) = _
        rw [X1.out, X2.out]
        change Value.string ((txt [] ++ txt [hexd h]) ++ txt [hexd l]) = _
        rw [txt_append, txt_append]
        rfl
      case measure => simp [intOf]
    · obtain rfl : k = 1 := by omega
      rw [if_neg (by omega)]
      go_wp2_with fail
      go_ret
      exact ⟨rfl, hbw⟩

theorem part_txt (s : ByteArray) (a b : Nat) (h : a ≤ s.size) : s.extract a b = txt ((s.data.toList.drop a).take (b - a)) := extract_txt s a b
theorem one_part (s : ByteArray) (p : Nat) (h : p < s.size) : s.extract p (p + 1) = txt [s.get! p] := by
  rw [extract_txt, Nat.add_sub_cancel_left]
  have h' : p < s.data.toList.length := by rw [← size_list]; exact h
  rw [List.drop_eq_getElem_cons h', List.take_succ_cons, List.take_zero, get_at s p h]
  rfl
theorem refunit_nat (s : ByteArray) (p : Nat) (w : World) (hp : p < s.size) (hs : s.size ≤ maxLen) :
    Calls Tryd.prog 58 #[.string s, .int .i64 p] w fun e w' => e = .returned (.int .i64 ((unit s p : Nat) : Int)) ∧ w' = w := by
  rw [← unitI_nat s p hp]
  exact refunit_any s p w hs
theorem refsafe_lit (s : ByteArray) (p : Nat) (T : Bool) (w : World) (hp : p < s.size) (hs : s.size ≤ maxLen) (hT : safeB s p = T) :
    Calls Tryd.prog 51 #[.string s, .int .i64 p] w fun e w' => e = .returned (.bool T) ∧ w' = w := by
  subst hT
  exact refsafe_any s p w hp hs
theorem lead_txt (acc l : List UInt8) : (txt acc ++ ⟨l.toArray⟩ : ByteArray) = txt (acc ++ l) := txt_append acc l

set_option maxHeartbeats 4000000 in
set_option maxRecDepth 1000000 in
theorem reftext_any (s : ByteArray) (w : World) (hs : s.size ≤ 1000000) :
    Calls Tryd.prog 40 #[.string s] w fun e w' => e = .returned (.string (txt (qtext s))) ∧ Below w.heap.size w w' := by
  have hmax : s.size ≤ maxLen := by unfold maxLen; omega
  go_enter Tryd.func40, Tryd.ntmps40
  go_wp2_with fail
  go_loopw [3, 4] (fun o c wr => ∃ (pos fuel : Nat) (acc : List UInt8), c = .int .i64 pos ∧ o = .string (txt acc) ∧ Below w.heap.size w wr ∧ Hid (acc ++ (body s fuel pos ++ [34]) = qtext s) ∧ s.size ≤ pos + fuel ∧ pos ≤ s.size ∧ acc.length ≤ 4 * pos + 1) (fun _ c _ => s.size - (intOf c).toNat)
  case atStart => exact ⟨0, s.size, [34], rfl, rfl, Below.refl _ _, Lib.hid (by simp [qtext]), by omega, by omega, by simp⟩
  case round =>
    obtain ⟨pos, fuel, acc, rfl, rfl, hbw, hacc, hfu, hpl, hal⟩ := hrel
    have hta : (txt acc).size ≤ 4000001 := by rw [txt_size]; omega
    by_cases hp : pos < s.size
    · have hu1 := unit_pos s pos
      have hu2 := unit_le s pos hp
      have HUI := Lib.hid (unitI_nat s pos hp)
      obtain ⟨f, rfl⟩ : ∃ f, fuel = f + 1 := ⟨fuel - 1, by omega⟩
      have HB := Lib.hid (body_step s pos f hp)
      have HL := Lib.hid (unitText_len s pos hp)
      have HO := Lib.hid (one_part s pos hp)
      have hbt := byt_at s pos hp
      obtain ⟨d, hd⟩ : ∃ d, s[pos]'hp = d := ⟨_, rfl⟩
      rw [hd] at hbt
      have HBT := Lib.hid hbt
      have hd0 : d.toNat < 256 := d.toNat_lt
      by_cases h34 : byt s pos = 34
      · have hut : unitText s pos = [92, UInt8.ofNat (byt s pos)] := by unfold unitText; rw [if_pos (.inl h34), get_ofNat]
        have hb' : ((d.toNat : Int) == 34) = true := by rw [hbt, h34]; rfl
        have HU := Lib.hid hut
        clear hut hbt
        go_wp2_with (go_at_call 58; refine (refunit_nat s pos _ hp hmax).mono ?_; rintro e w' ⟨rfl, rfl⟩)
        refine ⟨⟨pos + unit s pos, f, acc ++ unitText s pos, by go_num, ?_, hbw, Lib.hid (by rw [← hacc, HB.out]; simp [List.append_assoc]), by omega, by omega, by have := HL.out; rw [List.length_append]; omega⟩, by simp [intOf]; omega⟩
        rw [HU.out]
        rw [HO.out, get_ofNat]
        congr 1
        change (txt acc ++ txt [92]) ++ txt [_] = _
        rw [txt_append, txt_append]
        simp
      by_cases h92 : byt s pos = 92
      · have hut : unitText s pos = [92, UInt8.ofNat (byt s pos)] := by unfold unitText; rw [if_pos (.inr h92), get_ofNat]
        have hb' : ((d.toNat : Int) == 34) = false := by rw [hbt, h92]; rfl
        have hb'' : ((d.toNat : Int) == 92) = true := by rw [hbt, h92]; rfl
        have HU := Lib.hid hut
        clear hut hbt
        go_wp2_with (go_at_call 58; refine (refunit_nat s pos _ hp hmax).mono ?_; rintro e w' ⟨rfl, rfl⟩)
        refine ⟨⟨pos + unit s pos, f, acc ++ unitText s pos, by go_num, ?_, hbw, Lib.hid (by rw [← hacc, HB.out]; simp [List.append_assoc]), by omega, by omega, by have := HL.out; rw [List.length_append]; omega⟩, by simp [intOf]; omega⟩
        rw [HU.out]
        rw [HO.out, get_ofNat]
        congr 1
        change (txt acc ++ txt [92]) ++ txt [_] = _
        rw [txt_append, txt_append]
        simp
      have hb' : ((d.toNat : Int) == 34) = false := beq_eq_false_iff_ne.2 (by omega)
      have hb'' : ((d.toNat : Int) == 92) = false := beq_eq_false_iff_ne.2 (by omega)
      by_cases hsf : safeB s pos = true
      · have hut : unitText s pos = (s.data.toList.drop pos).take (pos + unit s pos - pos) := by unfold unitText; rw [if_neg (by omega), if_pos hsf, Nat.add_sub_cancel_left]
        have HU := Lib.hid hut
        have HSF := Lib.hid hsf
        clear hut hsf h34 h92 hbt
        go_wp2_with (first | (go_at_call 58; refine (refunit_nat s pos _ hp hmax).mono ?_; rintro e w' ⟨rfl, rfl⟩) | (go_at_call 51; refine (refsafe_lit s pos true _ hp hmax HSF.out).mono ?_; rintro e w' ⟨rfl, rfl⟩))
        refine ⟨⟨pos + unit s pos, f, acc ++ unitText s pos, by go_num, ?_, hbw, Lib.hid (by rw [← hacc, HB.out]; simp [List.append_assoc]), by omega, by omega, by have := HL.out; rw [List.length_append]; omega⟩, by simp [intOf]; omega⟩
        rw [HU.out]
        rw [extract_txt, txt_append]
      · have hut : unitText s pos = [92, 120, hexd (byt s pos / 16), hexd (byt s pos % 16)] := by unfold unitText; rw [if_neg (by omega), if_neg hsf]
        have HU := Lib.hid hut
        have HSF := Lib.hid (Bool.not_eq_true _ ▸ hsf)
        have HX : Hid (s.extract pos (pos + 1) = txt [d]) := Lib.hid (by rw [HO.out, get_at s pos hp, hd])
        clear hut hsf h34 h92 hbt
        go_wp2_with (first | (go_at_call 58; refine (refunit_nat s pos _ hp hmax).mono ?_; rintro e w' ⟨rfl, rfl⟩) | (go_at_call 51; refine (refsafe_lit s pos false _ hp hmax HSF.out).mono ?_; rintro e w' ⟨rfl, rfl⟩) | (go_at_call 59; rw [HX.out]; refine (hex_one d _).mono ?_))
        rintro e W2 ⟨rfl, b2⟩
        have hbw2 := hbw.trans (b2.mono hbw.size)
        have hx2 : (txt [hexd (d.toNat / 16), hexd (d.toNat % 16)]).size = 2 := rfl
        go_wp2_with fail
        refine ⟨⟨pos + unit s pos, f, acc ++ unitText s pos, by go_num, ?_, hbw2, Lib.hid (by rw [← hacc, HB.out]; simp [List.append_assoc]), by omega, by omega, by have := HL.out; rw [List.length_append]; omega⟩, by simp [intOf]; omega⟩
        rw [HU.out]
        rw [← HBT.out]
        congr 1
        change (txt acc ++ txt [92, 120]) ++ txt _ = _
        rw [txt_append, txt_append]
        simp
    · have e0 := body_end s fuel pos hp
      have HQ := Lib.hid hacc
      clear hacc
      go_wp2_with fail
      go_ret
      refine ⟨ret_str ?_, hbw⟩
      rw [← HQ.out, e0]
      exact lead_txt acc [34]
end Go.Proofs.YtgdfklgbdfpinaaDoor
