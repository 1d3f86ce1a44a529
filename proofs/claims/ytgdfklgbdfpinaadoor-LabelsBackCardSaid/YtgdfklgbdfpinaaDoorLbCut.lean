/-
  The walks of the reference's Signs and of name.Cut. Conditions: the text is no longer than a text can be; the place is in it.
-/
import Derived.Test.YtgdfklgbdfpinaaDoorLbName2
namespace Go.Proofs.YtgdfklgbdfpinaaDoor
set_option linter.unusedVariables false
set_option linter.unusedSimpArgs false
open Go.RowKit Go.Sort

set_option maxRecDepth 100000 in
set_option maxHeartbeats 2000000 in
theorem signs_any (s : ByteArray) (p : Nat) (w : World) (hs : s.size ≤ maxLen) (hp0 : p ≤ s.size) :
    Calls Tryd.prog 35 #[.string s, .int .i64 p] w fun e w' => e = .returned (.int .i64 (signs s p)) ∧ w' = w := by
  unfold maxLen at hs
  go_enter Tryd.func35, Tryd.ntmps35
  go_wp2_with fail
  go_loop [5] (fun c => ∃ i : Nat, p + i ≤ s.size ∧ c = .int .i64 i ∧ Hid (signs s p = i + nrun s (s.size - (p + i)) (p + i) (decide (i = 0)))) (fun c => s.size - (intOf c).toNat)
  case atStart => exact ⟨0, by omega, rfl, Lib.hid (by simp [signs])⟩
  case round =>
    obtain ⟨i, hi, rfl, HS⟩ := hrel
    have wpi : IntKind.i64.wrap ((p : Int) + (i : Int)) = ((p + i : Nat) : Int) := by rw [IntWalk.i64_in _ (by omega)]; omega
    by_cases hp : p + i < s.size
    · have hb := byt_at s (p + i) hp
      obtain ⟨d, hd⟩ : ∃ d, s[p + i]'hp = d := ⟨_, rfl⟩
      rw [hd] at hb
      obtain ⟨c, hc⟩ : ∃ c : Int, (d.toNat : Int) = c := ⟨_, rfl⟩
      have hcb : (byt s (p + i) : Int) = c := by rw [← hb, hc]
      have HCB := Lib.hid hcb
      clear hcb hb
      have i0c : (Hid (i = 0) ∧ ((i : Int) == 0) = true) ∨ (i ≠ 0 ∧ ((i : Int) == 0) = false) := by
        by_cases h : i = 0
        · exact .inl ⟨Lib.hid h, by simp [h]⟩
        · exact .inr ⟨h, by simp [h]⟩
      cases hl : nsign c (decide (i = 0)) with
      | true =>
        rcases i0c with ⟨I0, i0'⟩ | ⟨i0, i0'⟩
        · have hsg : ∀ w, _ := fun w => refsign_lit c true w true (by rw [decide_eq_true I0.out] at hl; exact hl)
          have HL := Lib.hid hl
          clear hl
          go_wp2_with (go_at_call 45; refine (hsg _).mono ?_; rintro e w' ⟨rfl, rfl⟩)
          go_round
          case rel => exact ⟨i + 1, by omega, by go_num, Lib.hid (by rw [HS.out, nrun_yes s (p + i) _ hp (by rw [HCB.out, HL.out]), decide_eq_false (by omega : ¬ i + 1 = 0), Nat.add_assoc p i 1]; omega)⟩
          case measure => simp [intOf]; omega
        · have hsg : ∀ w, _ := fun w => refsign_lit c false w true (by rw [decide_eq_false i0] at hl; exact hl)
          have HL := Lib.hid hl
          clear hl
          go_wp2_with (go_at_call 45; refine (hsg _).mono ?_; rintro e w' ⟨rfl, rfl⟩)
          go_round
          case rel => exact ⟨i + 1, by omega, by go_num, Lib.hid (by rw [HS.out, nrun_yes s (p + i) _ hp (by rw [HCB.out, HL.out]), decide_eq_false (by omega : ¬ i + 1 = 0), Nat.add_assoc p i 1]; omega)⟩
          case measure => simp [intOf]; omega
      | false =>
        rcases i0c with ⟨I0, i0'⟩ | ⟨i0, i0'⟩
        · have hsg : ∀ w, _ := fun w => refsign_lit c true w false (by rw [decide_eq_true I0.out] at hl; exact hl)
          have HL := Lib.hid hl
          clear hl
          go_wp2_with (go_at_call 45; refine (hsg _).mono ?_; rintro e w' ⟨rfl, rfl⟩)
          go_ret
          refine ⟨?_, rfl⟩
          rw [HS.out, nrun_no s (p + i) _ hp (by rw [HCB.out, HL.out])]
          rfl
        · have hsg : ∀ w, _ := fun w => refsign_lit c false w false (by rw [decide_eq_false i0] at hl; exact hl)
          have HL := Lib.hid hl
          clear hl
          go_wp2_with (go_at_call 45; refine (hsg _).mono ?_; rintro e w' ⟨rfl, rfl⟩)
          go_ret
          refine ⟨?_, rfl⟩
          rw [HS.out, nrun_no s (p + i) _ hp (by rw [HCB.out, HL.out])]
          rfl
    · go_wp2_with fail
      go_ret
      refine ⟨?_, rfl⟩
      rw [HS.out, show s.size - (p + i) = 0 by omega, nrun]
      rfl

theorem ext_size (s : ByteArray) (a b : Nat) (hb : b ≤ s.size) : (s.extract a b).size = b - a := by
  rw [ByteArray.size_extract]
  omega
theorem ext_byt (s : ByteArray) (a b i : Nat) (hb : b ≤ s.size) (hi : i < b - a) : byt (s.extract a b) i = byt s (a + i) := by
  have h1 : i < (s.extract a b).size := by rw [ext_size s a b hb]; exact hi
  rw [← byt_at (s.extract a b) i h1, ← byt_at s (a + i) (by omega)]
  congr 1
  have := ByteArray.getElem_extract (b := s) (start := a) (stop := b) (i := i) h1
  exact this
theorem ext_ext (s : ByteArray) (p n : Nat) (h : p + n ≤ s.size) : (s.extract p s.size).extract 0 n = s.extract p (p + n) := by
  rw [ByteArray.extract_extract]
  congr 1
  omega
theorem nrun_ext (s : ByteArray) (p : Nat) : ∀ (k i : Nat) (f : Bool), i + k ≤ s.size - p → nrun (s.extract p s.size) k i f = nrun s k (p + i) f
  | 0, _, _, _ => rfl
  | k + 1, i, f, h => by
    rw [nrun, nrun, ext_byt s p s.size i (Nat.le_refl _) (by omega), nrun_ext s p k (i + 1) false (by omega), Nat.add_assoc]
theorem signs_ext (s : ByteArray) (p : Nat) : signs (s.extract p s.size) 0 = signs s p := by
  unfold signs
  rw [ext_size s p s.size (Nat.le_refl _), nrun_ext s p _ _ _ (by omega)]
  rfl

set_option maxRecDepth 100000 in
set_option maxHeartbeats 2000000 in
theorem cut_any (s : ByteArray) (p : Nat) (w : World) (hs : s.size ≤ maxLen) (hp0 : p ≤ s.size) :
    Calls Tryd.prog 48 #[.string s, .int .i64 p] w fun e w' => e = .returned (.tuple #[.string (s.extract p (p + signs s p)), .int .i64 ((p + signs s p : Nat) : Int)]) ∧ Below w.heap.size w w' := by
  unfold maxLen at hs
  have h1 : decide ((p : Int) < 0) = false := decide_eq_false (by omega)
  have h2 : decide (s.size < p) = false := decide_eq_false (by omega)
  have HR := Lib.hid (signs_ext s p)
  have HE := Lib.hid (ext_ext s p)
  have hrs := ext_size s p s.size (Nat.le_refl _)
  go_enter Tryd.func48, Tryd.ntmps48
  go_wp2_with fail
  have HX : Hid (∃ r, s.extract p s.size = r) := Lib.hid ⟨_, rfl⟩
  generalize hr : s.extract p s.size = r at *
  have HRR := Lib.hid hr
  clear hr HX
  go_loopw [4, 5, 7, 8] (fun _ _ _ _ wr => ∃ i : Nat, i ≤ r.size ∧ wr.heap[w.heap.size]? = some (.stringIter r i) ∧ Below w.heap.size w wr ∧ Hid (signs r 0 = i + nrun r (r.size - i) i (decide (i = 0)))) (fun _ _ _ _ wr => r.size - wr.iterPos w.heap.size)
  case atStart => exact ⟨0, by omega, World.iter_heap w r 0, (Below.refl _ _).alloc (Nat.le_refl _) _, Lib.hid (by simp [signs])⟩
  case round =>
    obtain ⟨i, hi, hit, hbw, HS⟩ := hrel
    have hpos0 := iterPos_of hit
    have wpi : IntKind.i64.wrap ((p : Int) + (i : Int)) = ((p + i : Nat) : Int) := by rw [IntWalk.i64_in _ (by omega)]; omega
    by_cases hp : i < r.size
    · have hnx : ∀ ty, (Instr.next (.pointer (some ⟨w.heap.size, 0, none⟩)) true ty).run Tryd.prog wr = _ := fun ty => Lib.run_next_any_at wr w.heap.size r i ty hit hp
      have hit2 := Lib.iterAt_heap wr w.heap.size r i (i + (Utf8.decode r i).2) hit
      have hbw2 := Lib.below_iterAt hbw (k := w.heap.size) (Nat.le_refl _) r (i + (Utf8.decode r i).2)
      obtain ⟨c, d, hr, hdd, hsg, hd1⟩ := rune_sign r i hp
      rw [hdd] at hit2 hbw2
      simp only [hr, hdd] at hnx
      obtain ⟨W1, hW1⟩ : ∃ W1, wr.iterAt w.heap.size r (i + d) = W1 := ⟨_, rfl⟩
      rw [hW1] at hnx hit2 hbw2
      have HST := Lib.hid (And.intro hsg hd1)
      have HP := Lib.hid hpos0
      clear hsg hd1 hW1 hr hdd hit hbw hpos0
      cases hl : lett c with
      | true =>
        have hlt : ∀ w, _ := fun w => letter_lit c w true hl
        have HL := Lib.hid hl
        clear hl
        go_wp2_with (go_at_call 60; refine (hlt _).mono ?_; rintro e w' ⟨rfl, rfl⟩)
        obtain ⟨e1, e2⟩ := HST.out
        obtain rfl := e2 (.inl HL.out)
        go_roundw
        case rel => exact ⟨i + 1, by omega, hit2, hbw2, Lib.hid (by rw [HS.out, nrun_yes r i _ hp (by rw [e1, HL.out]; rfl), decide_eq_false (by omega : ¬ i + 1 = 0)]; omega)⟩
        case measure => rw [iterPos_of hit2, HP.out]; omega
      | false =>
        have hlt : ∀ w, _ := fun w => letter_lit c w false hl
        have HL := Lib.hid hl
        clear hl
        have i0c : (Hid (i = 0) ∧ ((i : Int) == 0) = true) ∨ (i ≠ 0 ∧ ((i : Int) == 0) = false) := by
          by_cases h : i = 0
          · exact .inl ⟨Lib.hid h, by simp [h]⟩
          · exact .inr ⟨h, by simp [h]⟩
        rcases i0c with ⟨I0, i0'⟩ | ⟨i0, i0'⟩
        · go_wp2_with (go_at_call 60; refine (hlt _).mono ?_; rintro e w' ⟨rfl, rfl⟩)
          obtain ⟨e1, e2⟩ := HST.out
          have e3 : signs s p = i := by rw [← HR.out, HS.out, nrun_no r i _ hp (by rw [e1, HL.out, decide_eq_true I0.out]; rfl)]; rfl
          refine bodyPost_ret (by simp [results, Tryd.results48, go_sem]; try rfl) rfl ?_
          refine ⟨?_, hbw2⟩
          rw [e3, HE.out i (by omega)]
          rfl
        · cases hg : ndig c with
          | true =>
            have hdg : ∀ w, _ := fun w => digit_lit c w true hg
            have HG := Lib.hid hg
            clear hg
            go_wp2_with (first | (go_at_call 60; refine (hlt _).mono ?_; rintro e w' ⟨rfl, rfl⟩) | (go_at_call 61; refine (hdg _).mono ?_; rintro e w' ⟨rfl, rfl⟩))
            obtain ⟨e1, e2⟩ := HST.out
            obtain rfl := e2 (.inr HG.out)
            go_roundw
            case rel => exact ⟨i + 1, by omega, hit2, hbw2, Lib.hid (by rw [HS.out, nrun_yes r i _ hp (by rw [e1, HL.out, HG.out, decide_eq_false i0]; rfl), decide_eq_false (by omega : ¬ i + 1 = 0)]; omega)⟩
            case measure => rw [iterPos_of hit2, HP.out]; omega
          | false =>
            have hdg : ∀ w, _ := fun w => digit_lit c w false hg
            have HG := Lib.hid hg
            clear hg
            go_wp2_with (first | (go_at_call 60; refine (hlt _).mono ?_; rintro e w' ⟨rfl, rfl⟩) | (go_at_call 61; refine (hdg _).mono ?_; rintro e w' ⟨rfl, rfl⟩))
            obtain ⟨e1, e2⟩ := HST.out
            have e3 : signs s p = i := by rw [← HR.out, HS.out, nrun_no r i _ hp (by rw [e1, HL.out, HG.out, decide_eq_false i0]; rfl)]; rfl
            refine bodyPost_ret (by simp [results, Tryd.results48, go_sem]; try rfl) rfl ?_
            refine ⟨?_, hbw2⟩
            rw [e3, HE.out i (by omega)]
            rfl
    · have hnx : ∀ ty, (Instr.next (.pointer (some ⟨w.heap.size, 0, none⟩)) true ty).run Tryd.prog wr = _ := fun ty => Lib.run_next_end_at wr w.heap.size r i ty hit hp
      go_wp2_with fail
      have e3 : p + signs s p = s.size := by rw [← HR.out, HS.out, show r.size - i = 0 by omega, nrun]; omega
      refine bodyPost_ret (by simp [results, Tryd.results48, go_sem]; try rfl) rfl ?_
      refine ⟨?_, hbw⟩
      rw [e3, HRR.out]
end Go.Proofs.YtgdfklgbdfpinaaDoor
