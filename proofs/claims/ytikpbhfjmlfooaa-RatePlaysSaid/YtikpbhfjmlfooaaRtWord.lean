/-
  The walks of name.Word and of the reference's Word: both tell wordB. Conditions: the text is no longer than a text can be.
-/
import Derived.Test.YtikpbhfjmlfooaaKit2
import Derived.Test.YtikpbhfjmlfooaaProg
import Derived.Laws.RangeAny
import Derived.Lib.OthersKept
namespace Go.Proofs.Ytikpbhfjmlfooaa
set_option linter.unusedVariables false
set_option linter.unusedSimpArgs false
open Go.RowKit Go.Sort

/-- a sign that may stand in a word (first: at its beginning) -/
def wsign (c : Int) (first : Bool) : Bool := (decide (97 ≤ c) && decide (c ≤ 122)) || (!first && (c == 45 || (decide (48 ≤ c) && decide (c ≤ 57))))
def byt (s : ByteArray) (i : Nat) : Nat := (s.data[i]?.getD 0).toNat
theorem byt_at (s : ByteArray) (i : Nat) (h : i < s.size) : (s[i]'h).toNat = byt s i := by
  unfold byt
  rw [Array.getElem?_eq_getElem (by simpa using h)]
  rfl
def wordFrom (s : ByteArray) : Nat → Nat → Bool
  | 0, _ => true
  | k + 1, i => wsign (byt s i) (decide (i = 0)) && wordFrom s k (i + 1)
def wordB (s : ByteArray) : Bool := decide (1 ≤ s.size) && (decide (s.size ≤ 32) && wordFrom s s.size 0)

theorem wordFrom_step (s : ByteArray) (i : Nat) (h : i < s.size) : wordFrom s (s.size - i) i = (wsign (byt s i) (decide (i = 0)) && wordFrom s (s.size - (i + 1)) (i + 1)) := by
  rw [show s.size - i = (s.size - (i + 1)) + 1 from by omega, wordFrom]
theorem wsign_yes {c : Int} {b : Bool} (h : (97 ≤ c ∧ c ≤ 122) ∨ (b = false ∧ (c = 45 ∨ (48 ≤ c ∧ c ≤ 57)))) : wsign c b = true := by
  unfold wsign
  rcases h with ⟨h1, h2⟩ | ⟨rfl, h | ⟨h1, h2⟩⟩
  · simp [h1, h2]
  · simp [h]
  · simp [h1, h2]
theorem wsign_no {c : Int} {b : Bool} (h1 : ¬ (97 ≤ c ∧ c ≤ 122)) (h2 : b = true ∨ (¬ c = 45 ∧ ¬ (48 ≤ c ∧ c ≤ 57))) : wsign c b = false := by
  unfold wsign
  rcases h2 with rfl | ⟨h3, h4⟩
  · simp; omega
  · cases b <;> simp [h3] <;> omega

theorem digit_any (c : Int) (w : World) : Calls Try.prog 46 #[.int .i32 c] w fun e w' => e = .returned (.bool (decide (48 ≤ c) && decide (c ≤ 57))) ∧ w' = w := by
  by_cases h : 48 ≤ c
  · have h' : decide (48 ≤ c) = true := decide_eq_true h
    go_enter Try.func46, Try.ntmps46
    go_wp2_with fail
    go_ret
    exact ⟨by simp [h'], rfl⟩
  · have h' : decide (48 ≤ c) = false := decide_eq_false h
    go_enter Try.func46, Try.ntmps46
    go_wp2_with fail
    go_ret
    exact ⟨by simp [h'], rfl⟩
theorem digit_lit (c : Int) (w : World) (b : Bool) (h : (decide (48 ≤ c) && decide (c ≤ 57)) = b) : Calls Try.prog 46 #[.int .i32 c] w fun e w' => e = .returned (.bool b) ∧ w' = w := by
  rw [← h]; exact digit_any c w

/-- the iterator's world -/
theorem iterPos_of {w : World} {k : Nat} {s : ByteArray} {p : Nat} (h : w.heap[k]? = some (.stringIter s p)) : w.iterPos k = p := by simp [World.iterPos, h]
theorem below_iterAt {B : Nat} {w0 w : World} (h : Below B w0 w) {k : Nat} (hk : B ≤ k) (s : ByteArray) (p : Nat) : Below B w0 (w.iterAt k s p) := Lib.below_iterAt h hk s p

/-- the sign at a place: its rune, and where the next one stands -/
theorem rune_at (s : ByteArray) (i : Nat) (h : i < s.size) : ∃ r d : Nat, (Utf8.decode s i).1 = r ∧ (Utf8.decode s i).2 = d ∧ ((byt s i < 128 ∧ r = byt s i ∧ d = 1) ∨ (128 ≤ byt s i ∧ 128 ≤ r)) ∧ byt s i ≤ 255 ∧ r ≤ 2147483647 := by
  have hb := byt_at s i h
  have hlt : (s[i]'h).toNat < 256 := (s[i]'h).toNat_lt
  refine ⟨_, _, rfl, rfl, ?_, by omega, decode_le s i⟩
  by_cases h1 : (s[i]'h).toNat < 128
  · have hd := decode_ascii s i h h1
    left
    rw [hd]
    exact ⟨by omega, by omega, rfl⟩
  · right
    exact ⟨by omega, (decode_high s i h (by omega)).1⟩

theorem toList_data (s : ByteArray) : s.toList = s.data.toList := by
  have h := txt_toList s.data.toList
  rwa [txt_data] at h
theorem nil_of_zero {s : ByteArray} (h : s.size = 0) : s.toList = [] := by
  rw [toList_data]
  exact Array.toList_eq_nil_iff.2 (Array.eq_empty_of_size_eq_zero (by simpa using h))
theorem some_of_pos {s : ByteArray} (h : 0 < s.size) : s.toList.isEmpty = false := by
  rw [toList_data, List.isEmpty_eq_false_iff]
  intro e
  have : s.size = 0 := by
    have h1 : s.data.toList.length = 0 := by rw [e]; rfl
    simpa using h1
  omega
theorem wordB_end (s : ByteArray) (h1 : 1 ≤ s.size) (h2 : s.size ≤ 32) (i : Nat) (b : Bool) (hs : wordFrom s s.size 0 = b) : wordB s = b := by
  rw [wordB, decide_eq_true h1, decide_eq_true h2, hs]
  rfl

set_option maxRecDepth 100000 in
set_option maxHeartbeats 2000000 in
theorem word_any (s : ByteArray) (w : World) (hs : s.size ≤ maxLen) :
    Calls Try.prog 43 #[.string s] w fun e w' => e = .returned (.bool (wordB s)) ∧ Below w.heap.size w w' := by
  unfold maxLen at hs
  by_cases h0 : s.size = 0
  · have hd := nil_of_zero h0
    have hd' : s.toList.isEmpty = true := by rw [hd]; rfl
    have hb : wordB s = false := by simp [wordB, h0]
    have HB := Lib.hid hb
    clear hb
    go_enter Try.func43, Try.ntmps43
    go_wp2_with fail
    go_ret
    exact ⟨ret_bool HB.out.symm, Below.refl _ _⟩
  have hd' := some_of_pos (s := s) (by omega)
  have hd : ¬ s.toList = [] := by intro e; rw [e] at hd'; cases hd'
  by_cases h1 : 32 < s.size
  · have h1' : decide (32 < (s.size : Int)) = true := decide_eq_true (by omega)
    have hb : wordB s = false := by rw [wordB, decide_eq_false (show ¬ s.size ≤ 32 by omega)]; simp
    have HB := Lib.hid hb
    clear hb
    go_enter Try.func43, Try.ntmps43
    go_wp2_with fail
    go_ret
    exact ⟨ret_bool HB.out.symm, Below.refl _ _⟩
  have h1' : decide (32 < (s.size : Int)) = false := decide_eq_false (by omega)
  go_enter Try.func43, Try.ntmps43
  go_wp2_with fail
  go_loopw [5] (fun _ wr => ∃ i : Nat, i ≤ s.size ∧ wr.heap[w.heap.size]? = some (.stringIter s i) ∧ Below w.heap.size w wr ∧ Hid (wordFrom s s.size 0 = wordFrom s (s.size - i) i)) (fun _ wr => s.size - wr.iterPos w.heap.size)
  case atStart => exact ⟨0, by omega, World.iter_heap w s 0, (Below.refl _ _).alloc (Nat.le_refl _) _, Lib.hid rfl⟩
  case round =>
    obtain ⟨i, hi, hit, hbw, HS⟩ := hrel
    have hpos0 := iterPos_of hit
    by_cases hp : i < s.size
    · have hnx : ∀ ty, (Instr.next (.pointer (some ⟨w.heap.size, 0, none⟩)) true ty).run Try.prog wr = _ := fun ty => Lib.run_next_any_at wr w.heap.size s i ty hit hp
      have hit2 := Lib.iterAt_heap wr w.heap.size s i (i + (Utf8.decode s i).2) hit
      have hbw2 := Lib.below_iterAt hbw (k := w.heap.size) (Nat.le_refl _) s (i + (Utf8.decode s i).2)
      have hst := wordFrom_step s i hp
      obtain ⟨r, d, hr, hdd, hcase, hb255, hr31⟩ := rune_at s i hp
      rw [hdd] at hit2 hbw2
      simp only [hr, hdd] at hnx
      obtain ⟨c, hc⟩ : ∃ c : Int, (r : Int) = c := ⟨_, rfl⟩
      simp only [hc] at hnx
      obtain ⟨W1, hW1⟩ : ∃ W1, wr.iterAt w.heap.size s (i + d) = W1 := ⟨_, rfl⟩
      rw [hW1] at hnx hit2 hbw2
      have HST := Lib.hid (And.intro hst (And.intro hcase (And.intro hb255 hc)))
      have HP := Lib.hid hpos0
      clear hst hcase hb255 hc hW1 hr hdd hit hbw hpos0 hr31
      by_cases k1 : 97 ≤ c ∧ c ≤ 122
      · have q1 : decide (97 ≤ c) = true := decide_eq_true k1.1
        have q2 : decide (c ≤ 122) = true := decide_eq_true k1.2
        go_wp2_with fail
        obtain ⟨e1, e2, e3, e4⟩ := HST.out
        have e5 : d = 1 ∧ (byt s i : Int) = c := by omega
        obtain ⟨rfl, e6⟩ := e5
        go_roundw
        case rel => exact ⟨i + 1, by omega, hit2, hbw2, Lib.hid (by rw [HS.out, e1, e6, wsign_yes (.inl k1), Bool.true_and])⟩
        case measure => rw [iterPos_of hit2, HP.out]; omega
      · have hk : ¬ (97 ≤ c) ∨ (97 ≤ c ∧ ¬ c ≤ 122) := by omega
        have q : (decide (97 ≤ c) = false) ∨ (decide (97 ≤ c) = true ∧ decide (c ≤ 122) = false) := hk.imp decide_eq_false (fun h => ⟨decide_eq_true h.1, decide_eq_false h.2⟩)
        clear hk
        rcases q with q1 | ⟨q1, q2⟩
        all_goals
          by_cases i0 : i = 0
          · subst i0
            go_wp2_with fail
            go_ret
            refine ⟨ret_bool ?_, hbw2⟩
            obtain ⟨e1, e2, e3, e4⟩ := HST.out
            rw [wordB_end s (by omega) (by omega) 0 false]
            rw [HS.out, e1, show (decide True) = true from rfl, wsign_no (by omega) (.inl rfl), Bool.false_and]
          · have i0' : ((i : Int) == 0) = false := by simp [i0]
            by_cases k2 : 48 ≤ c ∧ c ≤ 57
            · have hdg : ∀ w, _ := fun w => digit_lit c w true (by simp [k2.1, k2.2])
              go_wp2_with (go_at_call 46; refine (hdg _).mono ?_; rintro e w' ⟨rfl, rfl⟩)
              obtain ⟨e1, e2, e3, e4⟩ := HST.out
              have e5 : d = 1 ∧ (byt s i : Int) = c := by omega
              obtain ⟨rfl, e6⟩ := e5
              go_roundw
              case rel => exact ⟨i + 1, by omega, hit2, hbw2, Lib.hid (by rw [HS.out, e1, e6, wsign_yes (.inr ⟨decide_eq_false i0, .inr k2⟩), Bool.true_and])⟩
              case measure => rw [iterPos_of hit2, HP.out]; omega
            · have hdg : ∀ w, _ := fun w => digit_lit c w false (by simp; omega)
              by_cases k3 : c = 45
              · have k3' : (c == 45) = true := by simp [k3]
                have k3'' : (c != 45) = false := by simp [k3]
                have K3 := Lib.hid k3
                clear k3
                go_wp2_with (go_at_call 46; refine (hdg _).mono ?_; rintro e w' ⟨rfl, rfl⟩)
                obtain ⟨e1, e2, e3, e4⟩ := HST.out
                have e7 := K3.out
                have e5 : d = 1 ∧ (byt s i : Int) = c := by omega
                obtain ⟨rfl, e6⟩ := e5
                go_roundw
                case rel => exact ⟨i + 1, by omega, hit2, hbw2, Lib.hid (by rw [HS.out, e1, e6, wsign_yes (.inr ⟨decide_eq_false i0, .inl K3.out⟩), Bool.true_and])⟩
                case measure => rw [iterPos_of hit2, HP.out]; omega
              · have k3' : (c == 45) = false := by simp [k3]
                have k3'' : (c != 45) = true := by simp [k3]
                go_wp2_with (go_at_call 46; refine (hdg _).mono ?_; rintro e w' ⟨rfl, rfl⟩)
                go_ret
                refine ⟨ret_bool ?_, hbw2⟩
                obtain ⟨e1, e2, e3, e4⟩ := HST.out
                rw [wordB_end s (by omega) (by omega) 0 false]
                rw [HS.out, e1, wsign_no (by omega) (.inr ⟨by omega, by omega⟩), Bool.false_and]
    · have hnx : ∀ ty, (Instr.next (.pointer (some ⟨w.heap.size, 0, none⟩)) true ty).run Try.prog wr = _ := fun ty => Lib.run_next_end_at wr w.heap.size s i ty hit hp
      go_wp2_with fail
      go_ret
      refine ⟨ret_bool ?_, hbw⟩
      rw [wordB_end s (by omega) (by omega) 0 true]
      rw [HS.out, show s.size - i = 0 by omega, wordFrom]
theorem word_lit (s : ByteArray) (w : World) (b : Bool) (hs : s.size ≤ maxLen) (h : wordB s = b) :
    Calls Try.prog 43 #[.string s] w fun e w' => e = .returned (.bool b) ∧ Below w.heap.size w w' := by rw [← h]; exact word_any s w hs

set_option maxRecDepth 100000 in
set_option maxHeartbeats 2000000 in
theorem refword_any (s : ByteArray) (w : World) (hs : s.size ≤ maxLen) :
    Calls Try.prog 44 #[.string s] w fun e w' => e = .returned (.bool (wordB s)) ∧ w' = w := by
  unfold maxLen at hs
  by_cases h0 : s.size = 0
  · have hb : wordB s = false := by simp [wordB, h0]
    have h0' : decide ((s.size : Int) < 1) = true := decide_eq_true (by omega)
    have HB := Lib.hid hb
    clear hb
    go_enter Try.func44, Try.ntmps44
    go_wp2_with fail
    go_ret
    exact ⟨ret_bool HB.out.symm, rfl⟩
  have h0' : decide ((s.size : Int) < 1) = false := decide_eq_false (by omega)
  by_cases h1 : 32 < s.size
  · have h1' : decide (32 < (s.size : Int)) = true := decide_eq_true (by omega)
    have hb : wordB s = false := by rw [wordB, decide_eq_false (show ¬ s.size ≤ 32 by omega)]; simp
    have HB := Lib.hid hb
    clear hb
    go_enter Try.func44, Try.ntmps44
    go_wp2_with fail
    go_ret
    exact ⟨ret_bool HB.out.symm, rfl⟩
  have h1' : decide (32 < (s.size : Int)) = false := decide_eq_false (by omega)
  go_enter Try.func44, Try.ntmps44
  go_wp2_with fail
  go_loop [3] (fun c => ∃ i : Nat, i ≤ s.size ∧ c = .int .i64 i ∧ Hid (wordFrom s s.size 0 = wordFrom s (s.size - i) i)) (fun c => s.size - (intOf c).toNat)
  case atStart => exact ⟨0, by omega, rfl, Lib.hid rfl⟩
  case round =>
    obtain ⟨i, hi, rfl, HS⟩ := hrel
    by_cases hp : i < s.size
    · have hst := wordFrom_step s i hp
      have hb := byt_at s i hp
      obtain ⟨d, hd⟩ : ∃ d, s[i]'hp = d := ⟨_, rfl⟩
      rw [hd] at hb
      have hd0 : d.toNat ≤ 255 := by have := d.toNat_lt; omega
      have HST := Lib.hid (And.intro hst hb)
      clear hst hb
      obtain ⟨c, hc⟩ : ∃ c : Int, (d.toNat : Int) = c := ⟨_, rfl⟩
      have hcb : (byt s i : Int) = c := by rw [← HST.out.2, hc]
      have HCB := Lib.hid hcb
      clear hcb
      have i0c : i = 0 ∨ (i ≠ 0 ∧ ((i : Int) == 0) = false) := by
        by_cases h : i = 0
        · exact .inl h
        · exact .inr ⟨h, by simp [h]⟩
      have hreg : (97 ≤ c ∧ c ≤ 122) ∨ (c = 45 ∨ (48 ≤ c ∧ c ≤ 57)) ∨ (c < 45 ∨ (45 < c ∧ c < 48) ∨ (57 < c ∧ c < 97) ∨ 122 < c) := by omega
      rcases hreg with h | h | h
      · have hs1 : wsign c (decide (i = 0)) = true := wsign_yes (.inl h)
        have HSG := Lib.hid hs1
        clear hs1
        first | have q1 : decide (97 ≤ c) = true := decide_eq_true (by omega) | have q1 : decide (97 ≤ c) = false := decide_eq_false (by omega)
        first | have q2 : decide (c ≤ 122) = true := decide_eq_true (by omega) | have q2 : decide (c ≤ 122) = false := decide_eq_false (by omega)
        first | have q3 : (c == 45) = true := beq_iff_eq.2 (by omega) | have q3 : (c == 45) = false := beq_eq_false_iff_ne.2 (by omega)
        first | have q4 : decide (48 ≤ c) = true := decide_eq_true (by omega) | have q4 : decide (48 ≤ c) = false := decide_eq_false (by omega)
        first | have q5 : decide (c ≤ 57) = true := decide_eq_true (by omega) | have q5 : decide (c ≤ 57) = false := decide_eq_false (by omega)
        rcases i0c with rfl | ⟨i0, i0'⟩
        · go_wp2_with fail
          go_round
          case rel => exact ⟨1, by omega, rfl, Lib.hid (by rw [HS.out, HST.out.1, HCB.out, HSG.out, Bool.true_and])⟩
          case measure => simp [intOf]; omega
        · go_wp2_with fail
          go_round
          case rel => exact ⟨i + 1, by omega, by go_num, Lib.hid (by rw [HS.out, HST.out.1, HCB.out, HSG.out, Bool.true_and])⟩
          case measure => simp [intOf]; omega
      · rcases i0c with rfl | ⟨i0, i0'⟩
        · have hs1 : wsign c (decide ((0 : Nat) = 0)) = false := wsign_no (by omega) (.inl rfl)
          have HSG := Lib.hid hs1
          clear hs1
          rcases h with h | h
          all_goals
            first | have q1 : decide (97 ≤ c) = true := decide_eq_true (by omega) | have q1 : decide (97 ≤ c) = false := decide_eq_false (by omega)
            first | have q2 : decide (c ≤ 122) = true := decide_eq_true (by omega) | have q2 : decide (c ≤ 122) = false := decide_eq_false (by omega)
            first | have q3 : (c == 45) = true := beq_iff_eq.2 (by omega) | have q3 : (c == 45) = false := beq_eq_false_iff_ne.2 (by omega)
            first | have q4 : decide (48 ≤ c) = true := decide_eq_true (by omega) | have q4 : decide (48 ≤ c) = false := decide_eq_false (by omega)
            first | have q5 : decide (c ≤ 57) = true := decide_eq_true (by omega) | have q5 : decide (c ≤ 57) = false := decide_eq_false (by omega)
            have HH := Lib.hid h
            clear h
            go_wp2_with fail
            go_ret
            refine ⟨ret_bool ?_, rfl⟩
            rw [wordB_end s (by omega) (by omega) 0 false]
            rw [HS.out, HST.out.1, HCB.out, HSG.out, Bool.false_and]
        · have hs1 : wsign c (decide (i = 0)) = true := wsign_yes (.inr ⟨decide_eq_false i0, h⟩)
          have HSG := Lib.hid hs1
          clear hs1
          rcases h with h | h
          all_goals
            first | have q1 : decide (97 ≤ c) = true := decide_eq_true (by omega) | have q1 : decide (97 ≤ c) = false := decide_eq_false (by omega)
            first | have q2 : decide (c ≤ 122) = true := decide_eq_true (by omega) | have q2 : decide (c ≤ 122) = false := decide_eq_false (by omega)
            first | have q3 : (c == 45) = true := beq_iff_eq.2 (by omega) | have q3 : (c == 45) = false := beq_eq_false_iff_ne.2 (by omega)
            first | have q4 : decide (48 ≤ c) = true := decide_eq_true (by omega) | have q4 : decide (48 ≤ c) = false := decide_eq_false (by omega)
            first | have q5 : decide (c ≤ 57) = true := decide_eq_true (by omega) | have q5 : decide (c ≤ 57) = false := decide_eq_false (by omega)
            have HH := Lib.hid h
            clear h
            go_wp2_with fail
            go_round
            case rel => exact ⟨i + 1, by omega, by go_num, Lib.hid (by rw [HS.out, HST.out.1, HCB.out, HSG.out, Bool.true_and])⟩
            case measure => simp [intOf]; omega
      · have hs1 : wsign c (decide (i = 0)) = false := wsign_no (by omega) (.inr (by omega))
        have HSG := Lib.hid hs1
        clear hs1
        rcases h with h | h | h | h
        all_goals
          first | have q1 : decide (97 ≤ c) = true := decide_eq_true (by omega) | have q1 : decide (97 ≤ c) = false := decide_eq_false (by omega)
          first | have q2 : decide (c ≤ 122) = true := decide_eq_true (by omega) | have q2 : decide (c ≤ 122) = false := decide_eq_false (by omega)
          first | have q3 : (c == 45) = true := beq_iff_eq.2 (by omega) | have q3 : (c == 45) = false := beq_eq_false_iff_ne.2 (by omega)
          first | have q4 : decide (48 ≤ c) = true := decide_eq_true (by omega) | have q4 : decide (48 ≤ c) = false := decide_eq_false (by omega)
          first | have q5 : decide (c ≤ 57) = true := decide_eq_true (by omega) | have q5 : decide (c ≤ 57) = false := decide_eq_false (by omega)
          have HH := Lib.hid h
          clear h
          rcases i0c with rfl | ⟨i0, i0'⟩
          all_goals
            go_wp2_with fail
            go_ret
            refine ⟨ret_bool ?_, rfl⟩
            rw [wordB_end s (by omega) (by omega) 0 false]
            rw [HS.out, HST.out.1, HCB.out, HSG.out, Bool.false_and]
    · go_wp2_with fail
      go_ret
      refine ⟨ret_bool ?_, rfl⟩
      rw [wordB_end s (by omega) (by omega) 0 true]
      rw [HS.out, show s.size - i = 0 by omega, wordFrom]
theorem refword_lit (s : ByteArray) (w : World) (b : Bool) (hs : s.size ≤ maxLen) (h : wordB s = b) :
    Calls Try.prog 44 #[.string s] w fun e w' => e = .returned (.bool b) ∧ w' = w := by rw [← h]; exact refword_any s w hs
end Go.Proofs.Ytikpbhfjmlfooaa
