/-
  The plain mathematics of sets of bytes as four words. No conditions; no Go in sight.
-/
import Derived.Test.YtifokkclkmdclaaDoorKit
namespace Go.Proofs.YtifokkclkmdclaaDoor
set_option linter.unusedVariables false

namespace Cs
/-- the words fit 64 bits -/
def SetIn (s : Nat → Int) : Prop := ∀ i, 0 ≤ s i ∧ s i < 18446744073709551616
/-- has it the byte? -/
def hasS (s : Nat → Int) (b : Nat) : Bool := decide (s (b / 64) / 2 ^ (b % 64) % 2 = 1)

theorem bit_nat (n k : Nat) : decide ((n : Int) / 2 ^ k % 2 = 1) = n.testBit k := by
  have e : ((n : Int) / 2 ^ k % 2) = ((n / 2 ^ k % 2 : Nat) : Int) := by push_cast; rfl
  rw [e, Nat.testBit_eq_decide_div_mod_eq]
  congr 1
  apply propext
  omega
theorem has_bit (s : Nat → Int) (b : Nat) (hs : SetIn s) : hasS s b = (s (b / 64)).toNat.testBit (b % 64) := by
  obtain ⟨n, hn⟩ := Int.eq_ofNat_of_zero_le (hs (b / 64)).1
  unfold hasS
  rw [hn, Int.toNat_natCast]
  exact bit_nat n _

/-- a set is known by its bytes -/
theorem ext (s t : Nat → Int) (hs : SetIn s) (ht : SetIn t) (h : ∀ b, b < 256 → hasS s b = hasS t b) (i : Nat) (hi : i < 4) : s i = t i := by
  have e : (s i).toNat = (t i).toNat := by
    apply Nat.eq_of_testBit_eq
    intro k
    by_cases hk : k < 64
    · have := h (i * 64 + k) (by omega)
      rw [has_bit s _ hs, has_bit t _ ht] at this
      have e1 : (i * 64 + k) / 64 = i := by omega
      have e2 : (i * 64 + k) % 64 = k := by omega
      rw [e1, e2] at this
      exact this
    · have b1 : (s i).toNat < 2 ^ k := Nat.lt_of_lt_of_le (by have := hs i; omega) (Nat.pow_le_pow_right (by omega) (show 64 ≤ k by omega))
      have b2 : (t i).toNat < 2 ^ k := Nat.lt_of_lt_of_le (by have := ht i; omega) (Nat.pow_le_pow_right (by omega) (show 64 ≤ k by omega))
      rw [Nat.testBit_lt_two_pow b1, Nat.testBit_lt_two_pow b2]
  have := hs i; have := ht i; omega

def orS (s t : Nat → Int) (i : Nat) : Int := (((s i).toNat ||| (t i).toNat : Nat) : Int)
def andS (s t : Nat → Int) (i : Nat) : Int := (((s i).toNat &&& (t i).toNat : Nat) : Int)
def notS (s : Nat → Int) (i : Nat) : Int := 18446744073709551615 - s i
def lessS (s t : Nat → Int) : Nat → Int := andS s (notS t)
def addS (s : Nat → Int) (b : Nat) (i : Nat) : Int := if i = b / 64 then (((s i).toNat ||| 2 ^ (b % 64) : Nat) : Int) else s i
def noneS (i : Nat) : Int := 0

theorem orIn {s t : Nat → Int} (hs : SetIn s) (ht : SetIn t) : SetIn (orS s t) := fun i => by
  have := @Nat.or_lt_two_pow (s i).toNat (t i).toNat 64 (by have := hs i; omega) (by have := ht i; omega)
  unfold orS; omega
theorem andIn {s t : Nat → Int} (hs : SetIn s) : SetIn (andS s t) := fun i => by
  have := @Nat.and_le_left (s i).toNat (t i).toNat
  have := hs i
  unfold andS; omega
theorem notIn {s : Nat → Int} (hs : SetIn s) : SetIn (notS s) := fun i => by
  have := hs i
  unfold notS; omega
theorem lessIn {s t : Nat → Int} (hs : SetIn s) : SetIn (lessS s t) := andIn hs
theorem pow64 (k : Nat) (h : k < 64) : 2 ^ k < 2 ^ 64 := Nat.pow_lt_pow_right (by omega) h
theorem addIn {s : Nat → Int} (hs : SetIn s) (b : Nat) : SetIn (addS s b) := fun i => by
  unfold addS
  split
  · have := @Nat.or_lt_two_pow (s i).toNat (2 ^ (b % 64)) 64 (by have := hs i; omega) (pow64 _ (by omega))
    omega
  · exact hs i
theorem noneIn : SetIn noneS := fun i => by unfold noneS; omega

theorem has_or (s t : Nat → Int) (b : Nat) (hs : SetIn s) (ht : SetIn t) : hasS (orS s t) b = (hasS s b || hasS t b) := by
  rw [has_bit _ _ (orIn hs ht), has_bit _ _ hs, has_bit _ _ ht]
  simp [orS, Nat.testBit_or]
theorem has_and (s t : Nat → Int) (b : Nat) (hs : SetIn s) (ht : SetIn t) : hasS (andS s t) b = (hasS s b && hasS t b) := by
  rw [has_bit _ _ (andIn hs), has_bit _ _ hs, has_bit _ _ ht]
  simp [andS, Nat.testBit_and]
theorem has_not (s : Nat → Int) (b : Nat) (hs : SetIn s) : hasS (notS s) b = !hasS s b := by
  rw [has_bit _ _ (notIn hs), has_bit _ _ hs]
  have e : (notS s (b / 64)).toNat = 2 ^ 64 - ((s (b / 64)).toNat + 1) := by have := hs (b / 64); unfold notS; omega
  rw [e, Nat.testBit_two_pow_sub_succ (by have := hs (b / 64); omega)]
  have : b % 64 < 64 := by omega
  simp [this]
theorem has_less (s t : Nat → Int) (b : Nat) (hs : SetIn s) (ht : SetIn t) : hasS (lessS s t) b = (hasS s b && !hasS t b) := by
  unfold lessS
  rw [has_and _ _ _ hs (notIn ht), has_not _ _ ht]
theorem has_none (b : Nat) : hasS noneS b = false := by
  rw [has_bit _ _ noneIn]
  simp [noneS]
theorem has_add (s : Nat → Int) (b c : Nat) (hs : SetIn s) : hasS (addS s b) c = (hasS s c || decide (c = b)) := by
  rw [has_bit _ _ (addIn hs b), has_bit _ _ hs]
  unfold addS
  by_cases h : c / 64 = b / 64
  · rw [if_pos h, Int.toNat_natCast, Nat.testBit_or, Nat.testBit_two_pow]
    congr 2
    apply propext
    omega
  · rw [if_neg h]
    have : ¬ c = b := fun e => h (by rw [e])
    simp [this]

/-- the bytes from lo, n of them -/
def spanS (lo : Nat) : Nat → Nat → Int
  | 0 => noneS
  | n + 1 => addS (spanS lo n) (lo + n)
theorem spanIn (lo n : Nat) : SetIn (spanS lo n) := by
  induction n with
  | zero => exact noneIn
  | succ n ih => exact addIn ih _
theorem has_span (lo n b : Nat) : hasS (spanS lo n) b = decide (lo ≤ b ∧ b < lo + n) := by
  induction n with
  | zero => rw [show spanS lo 0 = noneS from rfl, has_none]; simp
  | succ n ih =>
    rw [show spanS lo (n + 1) = addS (spanS lo n) (lo + n) from rfl, has_add _ _ _ (spanIn lo n), ih]
    rw [Bool.eq_iff_iff]
    simp
    omega
/-- the bytes from lo to hi -/
def ofS (lo hi : Nat) : Nat → Int := spanS lo (hi + 1 - lo)
theorem has_of (lo hi b : Nat) : hasS (ofS lo hi) b = decide (lo ≤ b ∧ b ≤ hi) := by
  unfold ofS
  rw [has_span, decide_eq_decide]
  omega

/-- how many bytes below n -/
def cnt (s : Nat → Int) : Nat → Nat
  | 0 => 0
  | n + 1 => cnt s n + if hasS s n = true then 1 else 0
theorem cnt_succ (s : Nat → Int) (n : Nat) : cnt s (n + 1) = cnt s n + if hasS s n = true then 1 else 0 := rfl
theorem cnt_le (s : Nat → Int) (n : Nat) : cnt s n ≤ n := by
  induction n with
  | zero => exact Nat.le_refl _
  | succ n ih => rw [cnt_succ]; split <;> omega
theorem cnt_add (s t u : Nat → Int) (n : Nat) (h : ∀ b, b < n → (if hasS s b = true then 1 else 0) + (if hasS t b = true then 1 else 0) = (if hasS u b = true then 1 else 0 : Nat)) : cnt s n + cnt t n = cnt u n := by
  induction n with
  | zero => rfl
  | succ n ih =>
    have h1 := ih fun b hb => h b (by omega)
    have h2 := h n (by omega)
    rw [cnt_succ, cnt_succ, cnt_succ]
    omega

/-- the bytes from k on, below n -/
def bytesFrom (s : Nat → Int) (k n : Nat) : List Nat := (List.range n).filter fun b => decide (k ≤ b) && hasS s b

/-- how many bits a word has below n -/
def ones (x : Nat) : Nat → Nat
  | 0 => 0
  | n + 1 => ones x n + if x.testBit n = true then 1 else 0
theorem ones_succ (x n : Nat) : ones x (n + 1) = ones x n + if x.testBit n = true then 1 else 0 := rfl
theorem cnt_word (s : Nat → Int) (hs : SetIn s) (i n : Nat) (hn : n ≤ 64) : cnt s (i * 64 + n) = cnt s (i * 64) + ones (s i).toNat n := by
  induction n with
  | zero => rfl
  | succ n ih =>
    rw [show i * 64 + (n + 1) = (i * 64 + n) + 1 by omega, cnt_succ, ih (by omega), ones_succ, has_bit _ _ hs]
    have e1 : (i * 64 + n) / 64 = i := by omega
    have e2 : (i * 64 + n) % 64 = n := by omega
    rw [e1, e2]
    omega
theorem cnt_words (s : Nat → Int) (hs : SetIn s) : cnt s 256 = ones (s 0).toNat 64 + ones (s 1).toNat 64 + ones (s 2).toNat 64 + ones (s 3).toNat 64 := by
  have h0 := cnt_word s hs 0 64 (by omega)
  have h1 := cnt_word s hs 1 64 (by omega)
  have h2 := cnt_word s hs 2 64 (by omega)
  have h3 := cnt_word s hs 3 64 (by omega)
  have : cnt s 0 = 0 := rfl
  simp only [Nat.reduceMul, Nat.reduceAdd] at h0 h1 h2 h3
  omega
end Cs
end Go.Proofs.YtifokkclkmdclaaDoor
