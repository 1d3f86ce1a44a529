/-
  Labels read from a text, in plain words: both programs tell takeR. Conditions: none.
-/
import Derived.Test.YtgdfklgbdfpinaaDoorLbAt
namespace Go.Proofs.YtgdfklgbdfpinaaDoor
set_option linter.unusedVariables false
set_option linter.unusedSimpArgs false
open Go.RowKit Go.Sort

theorem nrun_cut (s : ByteArray) (b : Nat) (hb : b ≤ s.size) : ∀ (k i : Nat) (f : Bool), i + nrun s k i f ≤ b → ∀ m p, i = p + m → nrun (s.extract p b) (min k (b - i)) m f = nrun s k i f
  | 0, i, f, h, m, p, e => by simp [nrun]
  | k + 1, i, f, h, m, p, e => by
    rw [nrun] at h ⊢
    by_cases hs : nsign (byt s i) f = true
    · rw [if_pos hs] at h ⊢
      have ih := nrun_cut s b hb k (i + 1) false (by omega) (m + 1) p (by omega)
      rw [show min (k + 1) (b - i) = min k (b - (i + 1)) + 1 by omega, nrun, ext_byt s p b m hb (by omega), ← e, if_pos hs, ih]
    · rw [if_neg hs]
      by_cases hbi : i < b
      · rw [show min (k + 1) (b - i) = min k (b - (i + 1)) + 1 by omega, nrun, ext_byt s p b m hb (by omega), ← e, if_neg hs]
      · rw [show min (k + 1) (b - i) = 0 by omega, nrun]
theorem signs_cut (s : ByteArray) (p : Nat) (hp : p ≤ s.size) : signs (s.extract p (p + signs s p)) 0 = signs s p := by
  have hle := signs_le s p
  have hsz := ext_size s p (p + signs s p) (by omega)
  have h := nrun_cut s (p + signs s p) (by omega) (s.size - p) p true (Nat.le_refl _) 0 p (by omega)
  show nrun _ ((s.extract p (p + signs s p)).size - 0) 0 true = _
  rw [hsz, Nat.sub_zero, show p + signs s p - p = min (s.size - p) (p + signs s p - p) by omega]
  exact h
theorem labelB_cut (s : ByteArray) (p : Nat) (hp : p ≤ s.size) : labelB (s.extract p (p + signs s p)) = (decide (1 ≤ signs s p) && decide (signs s p ≤ 32)) := by
  have hle := signs_le s p
  rw [labelB, signs_cut s p hp, ext_size s p (p + signs s p) (by omega), Nat.add_sub_cancel_left]
  simp

/-! labels at a place: what was read, where it ends, what is wrong, where -/
abbrev TR := List Lab × Nat × Nat × Nat
def atN (s : ByteArray) (i : Nat) : Nat × Nat := if s.size ≤ i then (1, s.size) else (2, i)
theorem atN_atE (s : ByteArray) (i : Nat) : atE s i = (((atN s i).1 : Int), ((atN s i).2 : Int)) := by
  unfold atE atN
  by_cases h : s.size ≤ i
  · rw [if_pos h, if_pos (by omega)]; rfl
  · rw [if_neg h, if_neg (by omega)]; rfl
/-- the label that was read -/
def labAt (s : ByteArray) (i : Nat) : Lab := (s.extract i (i + signs s i), txt (readAt s ((i + signs s i + 1 : Nat) : Int)).1)
def takeF (s : ByteArray) : Nat → Nat → List Lab → TR
  | 0, _, _ => ([], 0, 1, s.size)
  | k + 1, i, out =>
    if s.size ≤ i then ([], 0, 1, s.size)
    else if out.length = 32 then ([], 0, 3, i)
    else if ¬ (1 ≤ signs s i ∧ signs s i ≤ 32) then ([], 0, 4, i)
    else if isB s (i + signs s i) 61 = false then ([], 0, atN s (i + signs s i))
    else if (readAt s ((i + signs s i + 1 : Nat) : Int)).2.2.1 ≠ 0 then ([], 0, (readAt s ((i + signs s i + 1 : Nat) : Int)).2.2)
    else if isB s (readAt s ((i + signs s i + 1 : Nat) : Int)).2.1 125 = true then (out ++ [labAt s i], (readAt s ((i + signs s i + 1 : Nat) : Int)).2.1 + 1, 0, 0)
    else if isB s (readAt s ((i + signs s i + 1 : Nat) : Int)).2.1 44 = false then ([], 0, atN s (readAt s ((i + signs s i + 1 : Nat) : Int)).2.1)
    else if isB s ((readAt s ((i + signs s i + 1 : Nat) : Int)).2.1 + 1) 32 = false then ([], 0, atN s ((readAt s ((i + signs s i + 1 : Nat) : Int)).2.1 + 1))
    else takeF s k ((readAt s ((i + signs s i + 1 : Nat) : Int)).2.1 + 2) (out ++ [labAt s i])
def takeR (s : ByteArray) (q : Int) : TR :=
  if q < 0 ∨ (s.size : Int) < q then ([], 0, 7, 0)
  else if isB s q.toNat 123 = false then ([], 0, atN s q.toNat)
  else if isB s (q.toNat + 1) 125 = true then ([], q.toNat + 2, 0, 0)
  else takeF s s.size (q.toNat + 1) []
def parseR (s : ByteArray) : List Lab × Nat × Nat :=
  if (takeR s 0).2.2.1 = 0 ∧ (takeR s 0).2.1 < s.size then ([], 2, (takeR s 0).2.1) else ((takeR s 0).1, (takeR s 0).2.2)
theorem readF_in (s : ByteArray) : ∀ (f i : Nat) (acc : List UInt8), (readF s f i acc).2.2.1 = 0 → i + 1 ≤ (readF s f i acc).2.1 ∧ (readF s f i acc).2.1 ≤ s.size ∧ (readF s f i acc).2.2.2 = 0
  | 0, i, acc, h => by simp [readF] at h
  | f + 1, i, acc, h => by
    rw [readF] at h ⊢
    by_cases h1 : ¬ i < s.size
    · rw [if_pos h1] at h; cases h
    rw [if_neg h1] at h ⊢
    by_cases h2 : byt s i = 34
    · rw [if_pos h2]
      exact ⟨Nat.le_refl _, by show i + 1 ≤ _; omega, rfl⟩
    rw [if_neg h2] at h ⊢
    by_cases h3 : byt s i = 92
    · rw [if_pos h3] at h ⊢
      by_cases h4 : (escR s i).1 = 1
      · rw [if_pos h4] at h; cases h
      rw [if_neg h4] at h ⊢
      by_cases h5 : (escR s i).1 = 2
      · rw [if_pos h5] at h; cases h
      rw [if_neg h5] at h ⊢
      have ih := readF_in s f _ _ h
      exact ⟨by omega, ih.2⟩
    rw [if_neg h3] at h ⊢
    by_cases h4 : safeB s i = true
    · rw [if_pos h4] at h ⊢
      have ih := readF_in s f _ _ h
      exact ⟨by omega, ih.2⟩
    · rw [if_neg h4] at h; cases h
theorem readAt_in (s : ByteArray) (p : Nat) (h : (readAt s (p : Int)).2.2.1 = 0) : p + 2 ≤ (readAt s (p : Int)).2.1 ∧ (readAt s (p : Int)).2.1 ≤ s.size ∧ (readAt s (p : Int)).2.2.2 = 0 := by
  unfold readAt at h ⊢
  by_cases h1 : (p : Int) < 0 ∨ (s.size : Int) < p
  · rw [if_pos h1] at h; cases h
  rw [if_neg h1] at h ⊢
  by_cases h2 : (p : Int) = s.size
  · rw [if_pos h2] at h; cases h
  rw [if_neg h2] at h ⊢
  by_cases h3 : byt s (p : Int).toNat ≠ 34
  · rw [if_pos h3] at h; cases h
  rw [if_neg h3] at h ⊢
  have := readF_in s _ _ _ h
  simpa using this
end Go.Proofs.YtgdfklgbdfpinaaDoor
