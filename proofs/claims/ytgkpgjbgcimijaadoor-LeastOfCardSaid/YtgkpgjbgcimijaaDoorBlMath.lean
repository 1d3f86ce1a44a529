/-
  The plain mathematics of blocks: the number of a key by the order in which keys come. No conditions; no Go in sight.
-/
import Derived.Test.YtgkpgjbgcimijaaDoorKit
namespace Go.Proofs.YtgkpgjbgcimijaaDoor
set_option linter.unusedVariables false

namespace Bl
variable {α β : Type} [DecidableEq α] [DecidableEq β]

/-- the least k < n with f k = x, else n -/
def least (f : Nat → α) (x : α) : Nat → Nat
  | 0 => 0
  | n + 1 => if least f x n < n then least f x n else if f n = x then n else n + 1

theorem least_le (f : Nat → α) (x : α) (n : Nat) : least f x n ≤ n := by
  induction n with
  | zero => exact Nat.le_refl _
  | succ n ih => unfold least; split <;> (try split) <;> omega

theorem least_hit (f : Nat → α) (x : α) (n : Nat) (h : least f x n < n) : f (least f x n) = x := by
  induction n with
  | zero => omega
  | succ n ih =>
    unfold least at h ⊢
    by_cases h1 : least f x n < n
    · rw [if_pos h1]; exact ih h1
    · rw [if_neg h1] at h ⊢
      by_cases h2 : f n = x
      · rw [if_pos h2]; exact h2
      · rw [if_neg h2] at h; omega

theorem least_miss (f : Nat → α) (x : α) (n k : Nat) (h : k < least f x n) : f k ≠ x := by
  induction n with
  | zero => simp [least] at h
  | succ n ih =>
    unfold least at h
    have hl := least_le f x n
    by_cases h1 : least f x n < n
    · rw [if_pos h1] at h; exact ih h
    · rw [if_neg h1] at h
      by_cases h3 : k < least f x n
      · exact ih h3
      · by_cases h2 : f n = x
        · rw [if_pos h2] at h; omega
        · rw [if_neg h2] at h
          have : k = n := by omega
          subst this; exact h2

theorem least_of (f : Nat → α) (x : α) (n k : Nat) (hk : k < n) (hf : f k = x) : least f x n ≤ k := by
  rcases Nat.lt_or_ge k (least f x n) with h | h
  · exact absurd hf (least_miss f x n k h)
  · exact h

/-- the first place with b's key -/
def rep (f : Nat → α) (b : Nat) : Nat := least f (f b) b
theorem rep_le (f : Nat → α) (b : Nat) : rep f b ≤ b := least_le _ _ _
theorem rep_key (f : Nat → α) (b : Nat) : f (rep f b) = f b := by
  rcases Nat.lt_or_ge (rep f b) b with h | h
  · exact least_hit _ _ _ h
  · have : rep f b = b := Nat.le_antisymm (rep_le f b) h
    rw [this]
theorem rep_first (f : Nat → α) (b k : Nat) (h : f k = f b) : rep f b ≤ k := by
  rcases Nat.lt_or_ge k b with h1 | h1
  · exact least_of _ _ _ _ h1 h
  · exact Nat.le_trans (rep_le f b) h1
theorem rep_eq (f : Nat → α) (a b : Nat) (h : f a = f b) : rep f a = rep f b := by
  apply Nat.le_antisymm
  · exact rep_first f a _ ((rep_key f b).trans h.symm)
  · exact rep_first f b _ ((rep_key f a).trans h)
theorem rep_rep (f : Nat → α) (b : Nat) : rep f (rep f b) = rep f b := rep_eq f _ _ (rep_key f b)

/-- how many keys there are ahead of n -/
def many (f : Nat → α) : Nat → Nat
  | 0 => 0
  | n + 1 => many f n + if rep f n = n then 1 else 0
theorem many_succ (f : Nat → α) (n : Nat) : many f (n + 1) = many f n + if rep f n = n then 1 else 0 := rfl
theorem many_le (f : Nat → α) (n : Nat) : many f n ≤ n := by
  induction n with
  | zero => exact Nat.le_refl _
  | succ n ih => rw [many_succ]; split <;> omega
theorem many_mono (f : Nat → α) {a b : Nat} (h : a ≤ b) : many f a ≤ many f b := by
  induction h with
  | refl => exact Nat.le_refl _
  | step _ ih => rw [many_succ]; split <;> omega
theorem many_lt (f : Nat → α) {a b : Nat} (h : a < b) (ha : rep f a = a) : many f a < many f b := by
  have h1 : many f (a + 1) = many f a + 1 := by rw [many_succ, if_pos ha]
  have := many_mono f (show a + 1 ≤ b from h)
  omega

/-- the number of b's key -/
def num (f : Nat → α) (b : Nat) : Nat := many f (rep f b)
theorem num_key (f : Nat → α) (a b : Nat) (h : f a = f b) : num f a = num f b := by unfold num; rw [rep_eq f a b h]
theorem key_num (f : Nat → α) (a b : Nat) (h : num f a = num f b) : f a = f b := by
  unfold num at h
  have hr : rep f a = rep f b := by
    rcases Nat.lt_trichotomy (rep f a) (rep f b) with h1 | h1 | h1
    · have := many_lt f h1 (rep_rep f a); omega
    · exact h1
    · have := many_lt f h1 (rep_rep f b); omega
  rw [← rep_key f a, ← rep_key f b, hr]
theorem num_iff (f : Nat → α) (a b : Nat) : num f a = num f b ↔ f a = f b := ⟨key_num f a b, num_key f a b⟩
theorem num_le (f : Nat → α) (b : Nat) : num f b ≤ many f b := many_mono f (rep_le f b)
theorem num_new (f : Nat → α) (b : Nat) (h : ∀ k, k < b → f k ≠ f b) : num f b = many f b := by
  have : rep f b = b := by
    rcases Nat.lt_or_ge (rep f b) b with h1 | h1
    · exact absurd (rep_key f b) (h _ h1)
    · exact Nat.le_antisymm (rep_le f b) h1
  unfold num; rw [this]
theorem rep_new (f : Nat → α) (b : Nat) (h : ∀ k, k < b → f k ≠ f b) : rep f b = b := by
  rcases Nat.lt_or_ge (rep f b) b with h1 | h1
  · exact absurd (rep_key f b) (h _ h1)
  · exact Nat.le_antisymm (rep_le f b) h1
theorem rep_old (f : Nat → α) (b k : Nat) (hk : k < b) (h : f k = f b) : rep f b ≠ b := by
  have := rep_first f b k h; omega
theorem many_new (f : Nat → α) (b : Nat) (h : ∀ k, k < b → f k ≠ f b) : many f (b + 1) = many f b + 1 := by
  rw [many_succ, if_pos (rep_new f b h)]
theorem many_old (f : Nat → α) (b k : Nat) (hk : k < b) (h : f k = f b) : many f (b + 1) = many f b := by
  rw [many_succ, if_neg (rep_old f b k hk h)]
  rfl
theorem num_lt_256 (f : Nat → α) (b : Nat) (hb : b < 256) : num f b < 256 := by
  have := num_le f b; have := many_le f b; omega

/-- the number hangs on which keys are alike, alone -/
theorem least_congr (f : Nat → α) (g : Nat → β) (x : α) (y : β) (n : Nat) (h : ∀ k, k < n → (f k = x ↔ g k = y)) : least f x n = least g y n := by
  induction n with
  | zero => rfl
  | succ n ih =>
    have e := ih fun k hk => h k (by omega)
    unfold least
    rw [e]
    have h1 := h n (by omega)
    by_cases h2 : f n = x
    · rw [if_pos h2, if_pos (h1.1 h2)]
    · rw [if_neg h2, if_neg (fun h3 => h2 (h1.2 h3))]
theorem rep_congr (f : Nat → α) (g : Nat → β) (n : Nat) (h : ∀ a b, a < n → b < n → (f a = f b ↔ g a = g b)) (b : Nat) (hb : b < n) : rep f b = rep g b :=
  least_congr f g _ _ b fun k hk => h k b (by omega) hb
theorem many_congr (f : Nat → α) (g : Nat → β) (n : Nat) (h : ∀ a b, a < n → b < n → (f a = f b ↔ g a = g b)) (m : Nat) (hm : m ≤ n) : many f m = many g m := by
  induction m with
  | zero => rfl
  | succ m ih =>
    rw [many_succ, many_succ, ih (by omega), rep_congr f g n h m (by omega)]
theorem num_congr (f : Nat → α) (g : Nat → β) (n : Nat) (h : ∀ a b, a < n → b < n → (f a = f b ↔ g a = g b)) (b : Nat) (hb : b < n) : num f b = num g b := by
  unfold num
  rw [rep_congr f g n h b hb, many_congr f g n h _ (by have := rep_le g b; omega)]

/-! ### right blocks -/
/-- how many blocks there are behind n numbers, if they are right so far -/
def top (z : Nat → Int) : Nat → Int
  | 0 => 0
  | n + 1 => if z n = top z n then top z n + 1 else top z n
/-- are n numbers right so far? -/
def okTo (z : Nat → Int) : Nat → Bool
  | 0 => true
  | n + 1 => okTo z n && (decide (0 ≤ z n) && decide (z n ≤ top z n))
def right (z : Nat → Int) (len : Nat) : Bool := decide (len = 256) && okTo z len

theorem top_succ (z : Nat → Int) (n : Nat) : top z (n + 1) = if z n = top z n then top z n + 1 else top z n := rfl
theorem okTo_succ (z : Nat → Int) (n : Nat) : okTo z (n + 1) = (okTo z n && (decide (0 ≤ z n) && decide (z n ≤ top z n))) := rfl
theorem top_nonneg (z : Nat → Int) (n : Nat) : 0 ≤ top z n ∧ top z n ≤ n := by
  induction n with
  | zero => exact ⟨Int.le_refl _, Int.le_refl _⟩
  | succ n ih => rw [top_succ]; split <;> omega
theorem okTo_of_le (z : Nat → Int) {a b : Nat} (h : a ≤ b) (hb : okTo z b = true) : okTo z a = true := by
  induction h with
  | refl => exact hb
  | step _ ih => rw [okTo_succ] at hb; simp at hb; exact ih hb.1
theorem okTo_false (z : Nat → Int) {a b : Nat} (h : a ≤ b) (hb : okTo z a = false) : okTo z b = false := by
  cases hx : okTo z b with
  | false => rfl
  | true => rw [okTo_of_le z h hx] at hb; cases hb
theorem okTo_congr (z y : Nat → Int) (n : Nat) (h : ∀ k, k < n → z k = y k) : okTo z n = okTo y n ∧ top z n = top y n := by
  induction n with
  | zero => exact ⟨rfl, rfl⟩
  | succ n ih =>
    obtain ⟨h1, h2⟩ := ih fun k hk => h k (by omega)
    rw [okTo_succ, okTo_succ, top_succ, top_succ, h1, h2, h n (by omega)]
    exact ⟨rfl, rfl⟩
/-- the greatest of n numbers, and -1 -/
def most (z : Nat → Int) : Nat → Int
  | 0 => 0
  | n + 1 => max (most z n) (z n + 1)
theorem most_succ (z : Nat → Int) (n : Nat) : most z (n + 1) = max (most z n) (z n + 1) := rfl
theorem most_top (z : Nat → Int) (n : Nat) (h : okTo z n = true) : most z n = top z n := by
  induction n with
  | zero => rfl
  | succ n ih =>
    rw [okTo_succ] at h
    simp at h
    rw [most_succ, top_succ, ih h.1]
    split <;> omega

/-- numbers by keys are right -/
theorem num_right (f : Nat → α) (n : Nat) : okTo (fun k => (num f k : Int)) n = true ∧ top (fun k => (num f k : Int)) n = many f n := by
  induction n with
  | zero => exact ⟨rfl, rfl⟩
  | succ n ih =>
    obtain ⟨h1, h2⟩ := ih
    rw [okTo_succ, top_succ, h1, h2]
    have h3 := num_le f n
    constructor
    · simp; omega
    · by_cases hr : rep f n = n
      · have : num f n = many f n := by unfold num; rw [hr]
        rw [if_pos (by rw [this])]
        rw [many_succ, if_pos hr]
        push_cast
        rfl
      · have : num f n ≠ many f n := by
          have h4 : rep f n < n := Nat.lt_of_le_of_ne (rep_le f n) hr
          have := many_lt f h4 (rep_rep f n)
          unfold num
          omega
        rw [if_neg (by omega)]
        rw [many_succ, if_neg hr]
        rfl
end Bl
end Go.Proofs.YtgkpgjbgcimijaaDoor
