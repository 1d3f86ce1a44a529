/-
  The walks of name.Label, of the reference's Label, of Signs and of name.Cut: what they tell is signs, how many signs of a name stand at a place. Conditions: the text is no longer than a text can be.
-/
import Derived.Test.YtgdfklgbdfpinaaDoorKit2
import Derived.Test.YtgdfklgbdfpinaaDoorQuMath
import Derived.Test.YtgdfklgbdfpinaaDoorProg
import Derived.Laws.RangeAny
import Derived.Lib.OthersKept
namespace Go.Proofs.YtgdfklgbdfpinaaDoor
set_option linter.unusedVariables false
set_option linter.unusedSimpArgs false
open Go.RowKit Go.Sort

def lett (c : Int) : Bool := decide (c = 95) || (decide (97 ≤ c) && decide (c ≤ 122)) || (decide (65 ≤ c) && decide (c ≤ 90))
def ndig (c : Int) : Bool := decide (48 ≤ c) && decide (c ≤ 57)
def nsign (c : Int) (first : Bool) : Bool := lett c || (!first && ndig c)
def nrun (s : ByteArray) : Nat → Nat → Bool → Nat
  | 0, _, _ => 0
  | k + 1, p, first => if nsign (byt s p) first then 1 + nrun s k (p + 1) false else 0
/-- how many signs of a name stand at a place -/
def signs (s : ByteArray) (p : Nat) : Nat := nrun s (s.size - p) p true
def labelB (s : ByteArray) : Bool := decide (1 ≤ s.size) && (decide (s.size ≤ 32) && decide (signs s 0 = s.size))

theorem nrun_yes (s : ByteArray) (i : Nat) (f : Bool) (h : i < s.size) (hs : nsign (byt s i) f = true) : nrun s (s.size - i) i f = 1 + nrun s (s.size - (i + 1)) (i + 1) false := by
  rw [show s.size - i = (s.size - (i + 1)) + 1 from by omega, nrun, if_pos hs]
theorem nrun_no (s : ByteArray) (i : Nat) (f : Bool) (h : i < s.size) (hs : nsign (byt s i) f = false) : nrun s (s.size - i) i f = 0 := by
  rw [show s.size - i = (s.size - (i + 1)) + 1 from by omega, nrun, hs, if_neg (by simp)]
theorem nrun_le (s : ByteArray) (k p : Nat) (f : Bool) : nrun s k p f ≤ k := by
  induction k generalizing p f with
  | zero => exact Nat.le_refl _
  | succ k ih =>
    rw [nrun]
    have := ih (p + 1) false
    split <;> omega
theorem signs_le (s : ByteArray) (p : Nat) : signs s p ≤ s.size - p := nrun_le s _ p true

theorem rune_sign (s : ByteArray) (i : Nat) (h : i < s.size) : ∃ c : Int, ∃ d : Nat, ((Utf8.decode s i).1 : Int) = c ∧ (Utf8.decode s i).2 = d ∧ (∀ f, nsign (byt s i) f = (lett c || (!f && ndig c))) ∧ (lett c = true ∨ ndig c = true → d = 1) := by
  refine ⟨_, _, rfl, rfl, ?_, ?_⟩
  · intro f
    rcases rune_dec s i h with ⟨h1, h2, h3⟩ | ⟨h1, h2, h3⟩ | ⟨h1, _, _, h2, h3, _, h4⟩
    · have e1 : nsign (byt s i) f = false := by simp [nsign, lett, ndig]; omega
      rw [e1, h2]
      simp [lett, ndig]
    · rw [h2]; rfl
    · have e1 : nsign (byt s i) f = false := by simp [nsign, lett, ndig]; omega
      rw [e1]
      generalize (Utf8.decode s i).1 = r at *
      symm
      simp [lett, ndig]
      omega
  · intro hc
    rcases rune_dec s i h with ⟨h1, h2, h3⟩ | ⟨h1, h2, h3⟩ | ⟨h1, _, _, h2, h3, _, h4⟩
    · rw [h2]
    · rw [h2]
    · exfalso
      generalize (Utf8.decode s i).1 = r at *
      simp [lett, ndig] at hc
      omega

set_option maxHeartbeats 1000000 in
theorem letter_any (c : Int) (w : World) : Calls Tryd.prog 60 #[.int .i32 c] w fun e w' => e = .returned (.bool (lett c)) ∧ w' = w := by
  have hreg : c < 65 ∨ (65 ≤ c ∧ c ≤ 90) ∨ (90 < c ∧ c < 95) ∨ c = 95 ∨ c = 96 ∨ (97 ≤ c ∧ c ≤ 122) ∨ 122 < c := by omega
  rcases hreg with h | h | h | h | h | h | h
  all_goals
    first | have q0 : decide (c = 95) = true := decide_eq_true (by omega) | have q0 : decide (c = 95) = false := decide_eq_false (by omega)
    first | have q0' : (c == 95) = true := beq_iff_eq.2 (by omega) | have q0' : (c == 95) = false := beq_eq_false_iff_ne.2 (by omega)
    first | have q1 : decide (97 ≤ c) = true := decide_eq_true (by omega) | have q1 : decide (97 ≤ c) = false := decide_eq_false (by omega)
    first | have q2 : decide (c ≤ 122) = true := decide_eq_true (by omega) | have q2 : decide (c ≤ 122) = false := decide_eq_false (by omega)
    first | have q3 : decide (65 ≤ c) = true := decide_eq_true (by omega) | have q3 : decide (65 ≤ c) = false := decide_eq_false (by omega)
    first | have q4 : decide (c ≤ 90) = true := decide_eq_true (by omega) | have q4 : decide (c ≤ 90) = false := decide_eq_false (by omega)
    have HR : Hid (∃ b, lett c = b ∧ b = (decide (c = 95) || (decide (97 ≤ c) && decide (c ≤ 122)) || (decide (65 ≤ c) && decide (c ≤ 90)))) := Lib.hid ⟨_, rfl, rfl⟩
    have HQ := Lib.hid (And.intro q0 (And.intro q1 (And.intro q2 (And.intro q3 q4))))
    clear h q0
    go_enter Tryd.func60, Tryd.ntmps60
    go_wp2_with fail
    go_ret
    refine ⟨?_, rfl⟩
    have e : lett c = (decide (c = 95) || (decide (97 ≤ c) && decide (c ≤ 122)) || (decide (65 ≤ c) && decide (c ≤ 90))) := rfl
    rw [e, HQ.out.1, HQ.out.2.1, HQ.out.2.2.1, HQ.out.2.2.2.1, HQ.out.2.2.2.2]
    rfl
theorem letter_lit (c : Int) (w : World) (b : Bool) (h : lett c = b) : Calls Tryd.prog 60 #[.int .i32 c] w fun e w' => e = .returned (.bool b) ∧ w' = w := by
  rw [← h]; exact letter_any c w
theorem ndigit_any (c : Int) (w : World) : Calls Tryd.prog 61 #[.int .i32 c] w fun e w' => e = .returned (.bool (ndig c)) ∧ w' = w := by
  by_cases h : 48 ≤ c
  · have h' : decide (48 ≤ c) = true := decide_eq_true h
    go_enter Tryd.func61, Tryd.ntmps61
    go_wp2_with fail
    go_ret
    exact ⟨by simp [h', ndig], rfl⟩
  · have h' : decide (48 ≤ c) = false := decide_eq_false h
    go_enter Tryd.func61, Tryd.ntmps61
    go_wp2_with fail
    go_ret
    exact ⟨by simp [h', ndig], rfl⟩
theorem digit_lit (c : Int) (w : World) (b : Bool) (h : ndig c = b) : Calls Tryd.prog 61 #[.int .i32 c] w fun e w' => e = .returned (.bool b) ∧ w' = w := by
  rw [← h]; exact ndigit_any c w
set_option maxHeartbeats 1000000 in
theorem refsign_any (c : Int) (f : Bool) (w : World) : Calls Tryd.prog 45 #[.int .u8 c, .bool f] w fun e w' => e = .returned (.bool (nsign c f)) ∧ w' = w := by
  have hreg : c < 48 ∨ (48 ≤ c ∧ c ≤ 57) ∨ (57 < c ∧ c < 65) ∨ (65 ≤ c ∧ c ≤ 90) ∨ (90 < c ∧ c < 95) ∨ c = 95 ∨ c = 96 ∨ (97 ≤ c ∧ c ≤ 122) ∨ 122 < c := by omega
  rcases hreg with h | h | h | h | h | h | h | h | h
  all_goals
    first | have q0 : decide (c = 95) = true := decide_eq_true (by omega) | have q0 : decide (c = 95) = false := decide_eq_false (by omega)
    first | have q0' : (c == 95) = true := beq_iff_eq.2 (by omega) | have q0' : (c == 95) = false := beq_eq_false_iff_ne.2 (by omega)
    first | have q1 : decide (97 ≤ c) = true := decide_eq_true (by omega) | have q1 : decide (97 ≤ c) = false := decide_eq_false (by omega)
    first | have q2 : decide (c ≤ 122) = true := decide_eq_true (by omega) | have q2 : decide (c ≤ 122) = false := decide_eq_false (by omega)
    first | have q3 : decide (65 ≤ c) = true := decide_eq_true (by omega) | have q3 : decide (65 ≤ c) = false := decide_eq_false (by omega)
    first | have q4 : decide (c ≤ 90) = true := decide_eq_true (by omega) | have q4 : decide (c ≤ 90) = false := decide_eq_false (by omega)
    first | have q5 : decide (48 ≤ c) = true := decide_eq_true (by omega) | have q5 : decide (48 ≤ c) = false := decide_eq_false (by omega)
    first | have q6 : decide (c ≤ 57) = true := decide_eq_true (by omega) | have q6 : decide (c ≤ 57) = false := decide_eq_false (by omega)
    have HQ := Lib.hid (And.intro q0 (And.intro q1 (And.intro q2 (And.intro q3 (And.intro q4 (And.intro q5 q6))))))
    clear h q0
    cases f
    all_goals
      go_enter Tryd.func45, Tryd.ntmps45
      go_wp2_with fail
      go_ret
      refine ⟨?_, rfl⟩
      have e : ∀ f, nsign c f = ((decide (c = 95) || (decide (97 ≤ c) && decide (c ≤ 122)) || (decide (65 ≤ c) && decide (c ≤ 90))) || (!f && (decide (48 ≤ c) && decide (c ≤ 57)))) := fun _ => rfl
      rw [e, HQ.out.1, HQ.out.2.1, HQ.out.2.2.1, HQ.out.2.2.2.1, HQ.out.2.2.2.2.1, HQ.out.2.2.2.2.2.1, HQ.out.2.2.2.2.2.2]
      rfl
end Go.Proofs.YtgdfklgbdfpinaaDoor
