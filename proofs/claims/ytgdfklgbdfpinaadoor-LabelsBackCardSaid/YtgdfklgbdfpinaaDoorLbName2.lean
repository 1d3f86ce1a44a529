/-
  The walks of name.Label and the reference's Label: both tell labelB. Conditions: the text is no longer than a text can be.
-/
import Derived.Test.YtgdfklgbdfpinaaDoorLbName
namespace Go.Proofs.YtgdfklgbdfpinaaDoor
set_option linter.unusedVariables false
set_option linter.unusedSimpArgs false
open Go.RowKit Go.Sort

theorem iterPos_of {w : World} {k : Nat} {s : ByteArray} {p : Nat} (h : w.heap[k]? = some (.stringIter s p)) : w.iterPos k = p := by simp [World.iterPos, h]
theorem toList_data (s : ByteArray) : s.toList = s.data.toList := by
  have h := txt_toList s.data.toList
  rwa [txt_data] at h
theorem nil_of_zero {s : ByteArray} (h : s.size = 0) : s.toList = [] := by
  rw [toList_data]
  exact Array.toList_eq_nil_iff.2 (Array.eq_empty_of_size_eq_zero (by simpa using h))
theorem some_of_pos {s : ByteArray} (h : 0 < s.size) : s.toList.isEmpty = false := by
  rw [toList_data, List.isEmpty_eq_false_iff]
  intro e
  have : s.size = 0 := by
    have h1 : s.data.toList.length = 0 := by rw [e]; rfl
    simpa using h1
  omega
theorem labelB_end (s : ByteArray) (h1 : 1 ≤ s.size) (h2 : s.size ≤ 32) (b : Bool) (hs : decide (signs s 0 = s.size) = b) : labelB s = b := by
  rw [labelB, decide_eq_true h1, decide_eq_true h2, hs]
  rfl
theorem labelB_of {s : ByteArray} (h : labelB s = true) : 1 ≤ s.size ∧ s.size ≤ 32 ∧ signs s 0 = s.size := by
  simpa [labelB] using h
theorem labelB_not {s : ByteArray} (h : ¬ (1 ≤ s.size ∧ s.size ≤ 32 ∧ signs s 0 = s.size)) : labelB s = false := by
  cases hb : labelB s with
  | false => rfl
  | true => exact absurd (labelB_of hb) h

set_option maxRecDepth 100000 in
set_option maxHeartbeats 2000000 in
theorem label_any (s : ByteArray) (w : World) (hs : s.size ≤ maxLen) :
    Calls Tryd.prog 41 #[.string s] w fun e w' => e = .returned (.bool (labelB s)) ∧ Below w.heap.size w w' := by
  unfold maxLen at hs
  by_cases h0 : s.size = 0
  · have hd := nil_of_zero h0
    have hd' : s.toList.isEmpty = true := by rw [hd]; rfl
    have HB := Lib.hid (labelB_not (s := s) (by omega))
    go_enter Tryd.func41, Tryd.ntmps41
    go_wp2_with fail
    go_ret
    exact ⟨ret_bool HB.out.symm, Below.refl _ _⟩
  have hd' := some_of_pos (s := s) (by omega)
  have hd : ¬ s.toList = [] := by intro e; rw [e] at hd'; cases hd'
  by_cases h1 : 32 < s.size
  · have h1' : decide (32 < (s.size : Int)) = true := decide_eq_true (by omega)
    have HB := Lib.hid (labelB_not (s := s) (by omega))
    go_enter Tryd.func41, Tryd.ntmps41
    go_wp2_with fail
    go_ret
    exact ⟨ret_bool HB.out.symm, Below.refl _ _⟩
  have h1' : decide (32 < (s.size : Int)) = false := decide_eq_false (by omega)
  go_enter Tryd.func41, Tryd.ntmps41
  go_wp2_with fail
  go_loopw [3, 4] (fun _ _ wr => ∃ i : Nat, i ≤ s.size ∧ wr.heap[w.heap.size]? = some (.stringIter s i) ∧ Below w.heap.size w wr ∧ Hid (signs s 0 = i + nrun s (s.size - i) i (decide (i = 0)))) (fun _ _ wr => s.size - wr.iterPos w.heap.size)
  case atStart => exact ⟨0, by omega, World.iter_heap w s 0, (Below.refl _ _).alloc (Nat.le_refl _) _, Lib.hid (by simp [signs])⟩
  case round =>
    obtain ⟨i, hi, hit, hbw, HS⟩ := hrel
    have hpos0 := iterPos_of hit
    by_cases hp : i < s.size
    · have hnx : ∀ ty, (Instr.next (.pointer (some ⟨w.heap.size, 0, none⟩)) true ty).run Tryd.prog wr = _ := fun ty => Lib.run_next_any_at wr w.heap.size s i ty hit hp
      have hit2 := Lib.iterAt_heap wr w.heap.size s i (i + (Utf8.decode s i).2) hit
      have hbw2 := Lib.below_iterAt hbw (k := w.heap.size) (Nat.le_refl _) s (i + (Utf8.decode s i).2)
      obtain ⟨c, d, hr, hdd, hsg, hd1⟩ := rune_sign s i hp
      rw [hdd] at hit2 hbw2
      simp only [hr, hdd] at hnx
      obtain ⟨W1, hW1⟩ : ∃ W1, wr.iterAt w.heap.size s (i + d) = W1 := ⟨_, rfl⟩
      rw [hW1] at hnx hit2 hbw2
      have HST := Lib.hid (And.intro hsg hd1)
      have HP := Lib.hid hpos0
      clear hsg hd1 hW1 hr hdd hit hbw hpos0
      cases hl : lett c with
      | true =>
        have hlt : ∀ w, _ := fun w => letter_lit c w true hl
        have HL := Lib.hid hl
        clear hl
        go_wp2_with (go_at_call 60; refine (hlt _).mono ?_; rintro e w' ⟨rfl, rfl⟩)
        obtain ⟨e1, e2⟩ := HST.out
        obtain rfl := e2 (.inl HL.out)
        go_roundw
        case rel => exact ⟨i + 1, by omega, hit2, hbw2, Lib.hid (by rw [HS.out, nrun_yes s i _ hp (by rw [e1, HL.out]; rfl), decide_eq_false (by omega : ¬ i + 1 = 0)]; omega)⟩
        case measure => rw [iterPos_of hit2, HP.out]; omega
      | false =>
        have hlt : ∀ w, _ := fun w => letter_lit c w false hl
        have HL := Lib.hid hl
        clear hl
        by_cases i0 : i = 0
        · subst i0
          go_wp2_with (go_at_call 60; refine (hlt _).mono ?_; rintro e w' ⟨rfl, rfl⟩)
          go_ret
          refine ⟨ret_bool ?_, hbw2⟩
          obtain ⟨e1, e2⟩ := HST.out
          rw [labelB_end s (by omega) (by omega) false (decide_eq_false ?_)]
          rw [HS.out, nrun_no s 0 _ hp (by rw [e1, HL.out]; rfl)]
          omega
        · have i0' : ((i : Int) == 0) = false := by simp [i0]
          cases hg : ndig c with
          | true =>
            have hdg : ∀ w, _ := fun w => digit_lit c w true hg
            have HG := Lib.hid hg
            clear hg
            go_wp2_with (first | (go_at_call 60; refine (hlt _).mono ?_; rintro e w' ⟨rfl, rfl⟩) | (go_at_call 61; refine (hdg _).mono ?_; rintro e w' ⟨rfl, rfl⟩))
            obtain ⟨e1, e2⟩ := HST.out
            obtain rfl := e2 (.inr HG.out)
            go_roundw
            case rel => exact ⟨i + 1, by omega, hit2, hbw2, Lib.hid (by rw [HS.out, nrun_yes s i _ hp (by rw [e1, HL.out, HG.out, decide_eq_false i0]; rfl), decide_eq_false (by omega : ¬ i + 1 = 0)]; omega)⟩
            case measure => rw [iterPos_of hit2, HP.out]; omega
          | false =>
            have hdg : ∀ w, _ := fun w => digit_lit c w false hg
            have HG := Lib.hid hg
            clear hg
            go_wp2_with (first | (go_at_call 60; refine (hlt _).mono ?_; rintro e w' ⟨rfl, rfl⟩) | (go_at_call 61; refine (hdg _).mono ?_; rintro e w' ⟨rfl, rfl⟩))
            go_ret
            refine ⟨ret_bool ?_, hbw2⟩
            obtain ⟨e1, e2⟩ := HST.out
            rw [labelB_end s (by omega) (by omega) false (decide_eq_false ?_)]
            rw [HS.out, nrun_no s i _ hp (by rw [e1, HL.out, HG.out, decide_eq_false i0]; rfl)]
            omega
    · have hnx : ∀ ty, (Instr.next (.pointer (some ⟨w.heap.size, 0, none⟩)) true ty).run Tryd.prog wr = _ := fun ty => Lib.run_next_end_at wr w.heap.size s i ty hit hp
      go_wp2_with fail
      go_ret
      refine ⟨ret_bool ?_, hbw⟩
      rw [labelB_end s (by omega) (by omega) true (decide_eq_true ?_)]
      rw [HS.out, show s.size - i = 0 by omega, nrun]
      omega
theorem label_lit (s : ByteArray) (w : World) (b : Bool) (hs : s.size ≤ maxLen) (h : labelB s = b) :
    Calls Tryd.prog 41 #[.string s] w fun e w' => e = .returned (.bool b) ∧ Below w.heap.size w w' := by rw [← h]; exact label_any s w hs

theorem refsign_lit (c : Int) (f : Bool) (w : World) (b : Bool) (h : nsign c f = b) : Calls Tryd.prog 45 #[.int .u8 c, .bool f] w fun e w' => e = .returned (.bool b) ∧ w' = w := by
  rw [← h]; exact refsign_any c f w

set_option maxRecDepth 100000 in
set_option maxHeartbeats 2000000 in
theorem reflabel_any (s : ByteArray) (w : World) (hs : s.size ≤ maxLen) :
    Calls Tryd.prog 25 #[.string s] w fun e w' => e = .returned (.bool (labelB s)) ∧ w' = w := by
  unfold maxLen at hs
  by_cases h0 : s.size = 0
  · have h0' : decide ((s.size : Int) < 1) = true := decide_eq_true (by omega)
    have HB := Lib.hid (labelB_not (s := s) (by omega))
    go_enter Tryd.func25, Tryd.ntmps25
    go_wp2_with fail
    go_ret
    exact ⟨ret_bool HB.out.symm, rfl⟩
  have h0' : decide ((s.size : Int) < 1) = false := decide_eq_false (by omega)
  by_cases h1 : 32 < s.size
  · have h1' : decide (32 < (s.size : Int)) = true := decide_eq_true (by omega)
    have HB := Lib.hid (labelB_not (s := s) (by omega))
    go_enter Tryd.func25, Tryd.ntmps25
    go_wp2_with fail
    go_ret
    exact ⟨ret_bool HB.out.symm, rfl⟩
  have h1' : decide (32 < (s.size : Int)) = false := decide_eq_false (by omega)
  go_enter Tryd.func25, Tryd.ntmps25
  go_wp2_with fail
  go_loop [3] (fun c => ∃ i : Nat, i ≤ s.size ∧ c = .int .i64 i ∧ Hid (signs s 0 = i + nrun s (s.size - i) i (decide (i = 0)))) (fun c => s.size - (intOf c).toNat)
  case atStart => exact ⟨0, by omega, rfl, Lib.hid (by simp [signs])⟩
  case round =>
    obtain ⟨i, hi, rfl, HS⟩ := hrel
    by_cases hp : i < s.size
    · have hb := byt_at s i hp
      obtain ⟨d, hd⟩ : ∃ d, s[i]'hp = d := ⟨_, rfl⟩
      rw [hd] at hb
      obtain ⟨c, hc⟩ : ∃ c : Int, (d.toNat : Int) = c := ⟨_, rfl⟩
      have hcb : (byt s i : Int) = c := by rw [← hb, hc]
      have HCB := Lib.hid hcb
      clear hcb hb
      have i0c : i = 0 ∨ (i ≠ 0 ∧ ((i : Int) == 0) = false) := by
        by_cases h : i = 0
        · exact .inl h
        · exact .inr ⟨h, by simp [h]⟩
      cases hl : nsign c (decide (i = 0)) with
      | true =>
        rcases i0c with rfl | ⟨i0, i0'⟩
        · have hsg : ∀ w, _ := fun w => refsign_lit c true w true (by simpa using hl)
          have HL := Lib.hid hl
          clear hl
          go_wp2_with (go_at_call 45; refine (hsg _).mono ?_; rintro e w' ⟨rfl, rfl⟩)
          go_round
          case rel => exact ⟨1, by omega, rfl, Lib.hid (by rw [HS.out, nrun_yes s 0 _ hp (by rw [HCB.out, HL.out])]; simp)⟩
          case measure => simp [intOf]; omega
        · have hsg : ∀ w, _ := fun w => refsign_lit c false w true (by rw [decide_eq_false i0] at hl; exact hl)
          have HL := Lib.hid hl
          clear hl
          go_wp2_with (go_at_call 45; refine (hsg _).mono ?_; rintro e w' ⟨rfl, rfl⟩)
          go_round
          case rel => exact ⟨i + 1, by omega, by go_num, Lib.hid (by rw [HS.out, nrun_yes s i _ hp (by rw [HCB.out, HL.out]), decide_eq_false (by omega : ¬ i + 1 = 0)]; omega)⟩
          case measure => simp [intOf]; omega
      | false =>
        rcases i0c with rfl | ⟨i0, i0'⟩
        · have hsg : ∀ w, _ := fun w => refsign_lit c true w false (by simpa using hl)
          have HL := Lib.hid hl
          clear hl
          go_wp2_with (go_at_call 45; refine (hsg _).mono ?_; rintro e w' ⟨rfl, rfl⟩)
          go_ret
          refine ⟨ret_bool ?_, rfl⟩
          rw [labelB_end s (by omega) (by omega) false (decide_eq_false ?_)]
          rw [HS.out, nrun_no s 0 _ hp (by rw [HCB.out, HL.out])]
          omega
        · have hsg : ∀ w, _ := fun w => refsign_lit c false w false (by rw [decide_eq_false i0] at hl; exact hl)
          have HL := Lib.hid hl
          clear hl
          go_wp2_with (go_at_call 45; refine (hsg _).mono ?_; rintro e w' ⟨rfl, rfl⟩)
          go_ret
          refine ⟨ret_bool ?_, rfl⟩
          rw [labelB_end s (by omega) (by omega) false (decide_eq_false ?_)]
          rw [HS.out, nrun_no s i _ hp (by rw [HCB.out, HL.out])]
          omega
    · go_wp2_with fail
      go_ret
      refine ⟨ret_bool ?_, rfl⟩
      rw [labelB_end s (by omega) (by omega) true (decide_eq_true ?_)]
      rw [HS.out, show s.size - i = 0 by omega, nrun]
      omega
theorem reflabel_lit (s : ByteArray) (w : World) (b : Bool) (hs : s.size ≤ maxLen) (h : labelB s = b) :
    Calls Tryd.prog 25 #[.string s] w fun e w' => e = .returned (.bool b) ∧ w' = w := by rw [← h]; exact reflabel_any s w hs
end Go.Proofs.YtgdfklgbdfpinaaDoor
