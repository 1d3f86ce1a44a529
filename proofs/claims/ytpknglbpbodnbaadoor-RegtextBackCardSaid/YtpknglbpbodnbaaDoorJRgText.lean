/-
  A pattern's own text. Plain words; no Go in sight. Conditions: each lemma says its own.
-/
import Derived.Test.YtpknglbpbodnbaaDoorJRgTree
namespace Go.Proofs.YtpknglbpbodnbaaDoor
set_option linter.unusedVariables false
set_option linter.unusedSimpArgs false
namespace Rg
open Cs

/-- a digit's byte -/
def hexT (n : Nat) : Nat := if n < 10 then 48 + n else 87 + n
/-- a byte, with a backslash if it is one of some -/
def signT (b : Nat) (some : List Nat) : List Nat := if b ∈ some then [92, b] else if 32 ≤ b ∧ b ≤ 126 then [b] else [92, 120, hexT (b / 16), hexT (b % 16)]
/-- the signs of a pattern: \.[](){}|*+? -/
def signsP : List Nat := [92, 46, 91, 93, 40, 41, 123, 125, 124, 42, 43, 63]
/-- the signs within brackets: \[]-^ -/
def signsC : List Nat := [92, 91, 93, 45, 94]
def byteT (b : Nat) : List Nat := signT b signsP
def withinT (b : Nat) : List Nat := signT b signsC
/-- the end of a run: n bytes at most -/
def endF (s : Nat → Int) : Nat → Nat → Nat
  | 0, lo => lo
  | n + 1, lo => if hasS s lo = true then endF s n (lo + 1) else lo
/-- a run from lo, hi its end -/
def runT (lo hi : Nat) : List Nat := withinT lo ++ (if lo + 2 < hi then [45] else []) ++ (if lo + 1 < hi then withinT (hi - 1) else [])
/-- the runs from a byte -/
def runsF (s : Nat → Int) : Nat → Nat → List Nat
  | 0, _ => []
  | n + 1, lo => if 256 ≤ lo then [] else if hasS s lo = true then runT lo (endF s (256 - lo) lo) ++ runsF s n (endF s (256 - lo) lo) else runsF s n (lo + 1)
/-- the least byte; 256: none -/
def leastF (s : Nat → Int) : Nat → Nat → Nat
  | 0, lo => lo
  | n + 1, lo => if hasS s lo = true then lo else leastF s n (lo + 1)
/-- a set's text -/
def setT (s : S4) : List Nat :=
  if s = none4 then [91, 94, 92, 120, 48, 48, 45, 92, 120, 102, 102, 93]
  else if s = all4 then [46]
  else if s = digit4 then [92, 100]
  else if s = word4 then [92, 119]
  else if cnt s.f 256 = 1 then byteT (leastF s.f 256 0)
  else 91 :: (runsF s.f 256 0 ++ [93])
/-- a number up to 99 -/
def numT (n : Int) : List Nat := if n < 10 then [(48 + n).toNat] else [(48 + n / 10).toNat, (48 + n % 10).toNat]
/-- how often -/
def oftenT (lo hi : Int) : List Nat :=
  if lo = 0 ∧ hi = -1 then [42] else if lo = 1 ∧ hi = -1 then [43] else if lo = 0 ∧ hi = 1 then [63]
  else if hi = lo then 123 :: (numT lo ++ [125])
  else if hi = -1 then 123 :: (numT lo ++ [44, 125])
  else 123 :: (numT lo ++ 44 :: (numT hi ++ [125]))
/-- must a part stand in round brackets? -/
def wrapB (k : Int) (n : Nd) : Bool := (decide (k = 2) && decide (n.kind = 3)) || (decide (k = 4) && decide (n.kind ≠ 1))
def wrapT (b : Bool) (t : List Nat) : List Nat := if b = true then 40 :: (t ++ [41]) else t
def barT (k : Int) (first : Bool) : List Nat := if first = false ∧ k = 3 then [124] else []
mutual
/-- a tree's text -/
def tellN : Nd → List Nat
  | .mk k s l x y => if k = 1 then setT s else tellL k true l ++ (if k = 4 then oftenT x y else [])
def tellL (k : Int) (first : Bool) : List Nd → List Nat
  | [] => []
  | n :: l => barT k first ++ wrapT (wrapB k n) (tellN n) ++ tellL k false l
end
mutual
/-- how many round brackets are open at once -/
def nestN : Nd → Nat
  | .mk k _ l _ _ => if k = 1 then 0 else nestL k l
def nestL (k : Int) : List Nd → Nat
  | [] => 0
  | n :: l => max (nestN n + if wrapB k n = true then 1 else 0) (nestL k l)
end
/-- a tree's own text -/
def textN (n : Nd) : Option (List Nat) := if rightN n = true ∧ (tellN n).length ≤ 256 ∧ nestN n ≤ 16 then some (tellN n) else none

def BytesL (l : List Nat) : Prop := ∀ b ∈ l, b < 256
theorem BytesL.app {a b : List Nat} : BytesL (a ++ b) ↔ BytesL a ∧ BytesL b := by
  unfold BytesL
  simp only [List.mem_append]
  exact ⟨fun h => ⟨fun x hx => h x (.inl hx), fun x hx => h x (.inr hx)⟩, fun h x hx => hx.elim (h.1 x) (h.2 x)⟩
theorem BytesL.cons {a : Nat} {b : List Nat} : BytesL (a :: b) ↔ a < 256 ∧ BytesL b := by
  unfold BytesL
  simp
theorem BytesL.nil : BytesL [] := fun b hb => by cases hb
theorem hexT_lt {n : Nat} (h : n < 16) : hexT n < 256 := by unfold hexT; split <;> omega
theorem signT_bytes {b : Nat} (hb : b < 256) (some : List Nat) : BytesL (signT b some) := by
  unfold signT
  split
  · simp [BytesL]; exact hb
  · split
    · simp [BytesL]; exact hb
    · have h1 := hexT_lt (n := b / 16) (by omega)
      have h2 := hexT_lt (n := b % 16) (by omega)
      simp [BytesL]
      omega
theorem endF_le (s : Nat → Int) (n lo : Nat) : lo ≤ endF s n lo ∧ endF s n lo ≤ lo + n := by
  induction n generalizing lo with
  | zero => exact ⟨Nat.le_refl _, Nat.le_refl _⟩
  | succ n ih =>
    unfold endF
    split
    · have := ih (lo + 1); omega
    · omega
theorem endF_has (s : Nat → Int) (n lo : Nat) : ∀ b, lo ≤ b → b < endF s n lo → hasS s b = true := by
  induction n generalizing lo with
  | zero => intro b h1 h2; unfold endF at h2; omega
  | succ n ih =>
    intro b h1 h2
    unfold endF at h2
    split at h2
    · rename_i h
      by_cases e : b = lo
      · rw [e]; exact h
      · exact ih (lo + 1) b (by omega) h2
    · omega
theorem endF_stop (s : Nat → Int) (n lo : Nat) : endF s n lo = lo + n ∨ hasS s (endF s n lo) = false := by
  induction n generalizing lo with
  | zero => exact .inl rfl
  | succ n ih =>
    unfold endF
    split
    · rcases ih (lo + 1) with h | h
      · left; omega
      · exact .inr h
    · rename_i h
      right
      simpa using h
theorem endF_pos {s : Nat → Int} {n lo : Nat} (hn : 0 < n) (h : hasS s lo = true) : lo < endF s n lo := by
  cases n with
  | zero => omega
  | succ n =>
    unfold endF
    rw [if_pos h]
    have := endF_le s n (lo + 1)
    omega
theorem leastF_le (s : Nat → Int) (n lo : Nat) : lo ≤ leastF s n lo ∧ leastF s n lo ≤ lo + n := by
  induction n generalizing lo with
  | zero => exact ⟨Nat.le_refl _, Nat.le_refl _⟩
  | succ n ih =>
    unfold leastF
    split
    · omega
    · have := ih (lo + 1); omega
theorem leastF_no (s : Nat → Int) (n lo : Nat) : ∀ b, lo ≤ b → b < leastF s n lo → hasS s b = false := by
  induction n generalizing lo with
  | zero => intro b h1 h2; unfold leastF at h2; omega
  | succ n ih =>
    intro b h1 h2
    unfold leastF at h2
    split at h2
    · omega
    · rename_i h
      by_cases e : b = lo
      · rw [e]; simpa using h
      · exact ih (lo + 1) b (by omega) h2
theorem leastF_has (s : Nat → Int) (n lo : Nat) : leastF s n lo = lo + n ∨ hasS s (leastF s n lo) = true := by
  induction n generalizing lo with
  | zero => exact .inl rfl
  | succ n ih =>
    unfold leastF
    split
    · rename_i h; exact .inr h
    · rcases ih (lo + 1) with h | h
      · left; omega
      · exact .inr h
theorem cnt_none {s : Nat → Int} {n : Nat} (h : ∀ b, b < n → hasS s b = false) : cnt s n = 0 := by
  induction n with
  | zero => rfl
  | succ n ih => rw [cnt_succ, ih fun b hb => h b (by omega), h n (by omega)]; rfl
theorem cnt_pos {s : Nat → Int} {n b : Nat} (hb : b < n) (h : hasS s b = true) : 1 ≤ cnt s n := by
  induction n with
  | zero => omega
  | succ n ih =>
    rw [cnt_succ]
    by_cases e : b = n
    · rw [← e, if_pos h]; omega
    · have := ih (by omega); omega
theorem cnt_mono (s : Nat → Int) {m n : Nat} (h : m ≤ n) : cnt s m ≤ cnt s n := by
  induction n with
  | zero => have : m = 0 := by omega
            rw [this]; exact Nat.le_refl _
  | succ n ih =>
    by_cases e : m = n + 1
    · rw [e]; exact Nat.le_refl _
    · have := ih (by omega)
      rw [cnt_succ]
      omega
theorem cnt_two {s : Nat → Int} {n a b : Nat} (hab : a < b) (hb : b < n) (h1 : hasS s a = true) (h2 : hasS s b = true) : 2 ≤ cnt s n := by
  have h3 := cnt_mono s (show b + 1 ≤ n by omega)
  rw [cnt_succ, if_pos h2] at h3
  have h4 := cnt_pos hab h1
  omega
/-- one byte alone -/
theorem single {s : S4} (hs : SetIn s.f) (h : cnt s.f 256 = 1) : leastF s.f 256 0 < 256 ∧ s = one4 (leastF s.f 256 0) := by
  have hle := leastF_le s.f 256 0
  rcases leastF_has s.f 256 0 with h1 | h1
  · have := cnt_none (s := s.f) (n := 256) fun b hb => leastF_no s.f 256 0 b (by omega) (by omega)
    omega
  have hlt : leastF s.f 256 0 < 256 := by
    by_cases hl : leastF s.f 256 0 < 256
    · exact hl
    · have := cnt_none (s := s.f) (n := 256) fun b hb => leastF_no s.f 256 0 b (by omega) (by omega)
      omega
  refine ⟨hlt, S4.ext_has hs (one4_in _) fun b hb => ?_⟩
  rw [one4_has _ hb]
  generalize leastF s.f 256 0 = m at *
  by_cases e : b = m
  · rw [e, h1]; simp
  · rw [decide_eq_false e]
    cases hx : hasS s.f b with
    | false => rfl
    | true =>
      rcases Nat.lt_or_gt_of_ne e with h2 | h2
      · have := cnt_two h2 hlt hx h1; omega
      · have := cnt_two h2 hb h1 hx; omega
end Rg
end Go.Proofs.YtpknglbpbodnbaaDoor
