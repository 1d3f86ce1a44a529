/-
  The reader of patterns, over what is left to read. Plain words; no Go in sight. Conditions: each lemma says its own.
-/
import Derived.Test.YtpknglbpbodnbaaDoorJRgText
namespace Go.Proofs.YtpknglbpbodnbaaDoor
set_option linter.unusedVariables false
set_option linter.unusedSimpArgs false
namespace Rg
open Cs

/-- an escape: a byte, or several -/
inductive Esc where
  | one (b : Nat)
  | many (s : S4)
def Esc.set : Esc → S4
  | .one b => one4 b
  | .many s => s
def Esc.several : Esc → Bool
  | .one _ => false
  | .many _ => true
def signsE : List Nat := [92, 46, 91, 93, 40, 41, 123, 125, 124, 42, 43, 63, 45, 94]
def hexV (b : Nat) : Option Nat := if 48 ≤ b ∧ b ≤ 57 then some (b - 48) else if 97 ≤ b ∧ b ≤ 102 then some (b - 87) else none
def hexP : List Nat → Option (Esc × List Nat)
  | h :: g :: l => match hexV h, hexV g with
    | some x, some y => some (.one (16 * x + y), l)
    | _, _ => none
  | _ => none
/-- behind a backslash -/
def escP : List Nat → Option (Esc × List Nat)
  | [] => none
  | b :: l => if b = 100 then some (.many digit4, l) else if b = 119 then some (.many word4, l) else if b = 120 then hexP l else if b ∈ signsE then some (.one b, l) else none
/-- within brackets -/
def signP : List Nat → Option (Esc × List Nat)
  | [] => none
  | b :: l => if b = 92 then escP l else if b = 91 ∨ b = 93 ∨ b = 45 ∨ b = 94 then none else some (.one b, l)
def rangeP : Esc → Esc → List Nat → Option (S4 × List Nat)
  | .one a, .one b, l => if b < a then none else some (span4 a b, l)
  | _, _, _ => none
def itemP (l : List Nat) : Option (S4 × List Nat) := match signP l with
  | none => none
  | some (e, l1) => if e.several = true ∨ l1.head? ≠ some 45 then some (e.set, l1) else match signP l1.tail with
    | none => none
    | some (g, l2) => rangeP e g l2
def classL : Nat → S4 → List Nat → Option (S4 × List Nat)
  | 0, _, _ => none
  | n + 1, s, l => match itemP l with
    | none => none
    | some (x, l1) => if l1.head? = some 93 then some (or4 s x, l1.tail) else classL n (or4 s x) l1
def classP (l : List Nat) : Option (S4 × List Nat) :=
  if l.head? = some 94 then (classL (l.length + 1) none4 l.tail).map fun x => (not4 x.1, x.2) else classL (l.length + 1) none4 l
def digsF (n : Nat) : List Nat → Nat × List Nat
  | [] => (n, [])
  | b :: l => if 48 ≤ b ∧ b ≤ 57 then digsF (min (10 * n + (b - 48)) 1000) l else (n, b :: l)
def numP (l : List Nat) : Option (Nat × List Nat) :=
  if (digsF 0 l).2.length = l.length then none else if l.head? = some 48 ∧ (digsF 0 l).2.length + 1 < l.length then none else if 16 < (digsF 0 l).1 then none else some (digsF 0 l)
def bracesP (l : List Nat) : Option (Int × Int × List Nat) := match numP l with
  | none => none
  | some (x, l1) => if l1.head? = some 44 then (if l1.tail.head? = some 125 then some (x, -1, l1.tail) else match numP l1.tail with
      | none => none
      | some (y, l2) => if y = 0 ∨ y < x then none else some (x, y, l2))
    else if x = 0 then none else some (x, x, l1)
def flatN (k : Int) (ps : List Nd) : List Nd := ps.flatMap fun p => if p.kind = k then p.kids else [p]
def oneOf (k : Int) : List Nd → Nd
  | [n] => n
  | l => .mk k none4 l 0 0
def joinN (k : Int) (ps : List Nd) : Nd := oneOf k (flatN k ps)
def oneN (s : S4) : Nd := .mk 1 s [] 0 0
def repN (n : Nd) (x y : Int) : Nd := .mk 4 none4 [n] x y
/-- how often it comes -/
def quantP (n : Nd) : List Nat → Option (Nd × List Nat)
  | [] => some (n, [])
  | b :: l => if b = 42 then some (repN n 0 (-1), l) else if b = 43 then some (repN n 1 (-1), l) else if b = 63 then some (repN n 0 1, l)
    else if b = 123 then (match bracesP l with
      | none => none
      | some (x, y, l1) => if l1.head? = some 125 then some (repN n x y, l1.tail) else none)
    else some (n, b :: l)
def signsA : List Nat := [41, 93, 123, 125, 124, 42, 43, 63]
def endB (l : List Nat) : Bool := decide (l = []) || decide (l.head? = some 124) || decide (l.head? = some 41)
mutual
def altP : Nat → Nat → List Nat → Option (Nd × List Nat)
  | 0, _, _ => none
  | f + 1, o, l => match catP f o [] l with
    | none => none
    | some (n, l1) => barP f o [n] l1
def barP : Nat → Nat → List Nd → List Nat → Option (Nd × List Nat)
  | 0, _, _, _ => none
  | f + 1, o, ps, l => if l.head? = some 124 then (match catP f o [] l.tail with
      | none => none
      | some (n, l1) => barP f o (ps ++ [n]) l1)
    else some (if ps.length = 1 then ps.headD zeroN else joinN 3 ps, l)
def catP : Nat → Nat → List Nd → List Nat → Option (Nd × List Nat)
  | 0, _, _, _ => none
  | f + 1, o, ps, l => if endB l = true then some (joinN 2 ps, l) else match pieceP f o l with
    | none => none
    | some (n, l1) => catP f o (ps ++ [n]) l1
def pieceP : Nat → Nat → List Nat → Option (Nd × List Nat)
  | 0, _, _ => none
  | f + 1, o, l => match atomP f o l with
    | none => none
    | some (n, l1) => quantP n l1
def atomP : Nat → Nat → List Nat → Option (Nd × List Nat)
  | 0, _, _ => none
  | f + 1, o, l => match l with
    | [] => none
    | b :: l1 => if b ∈ signsA then none
      else if b = 40 then (if 16 ≤ o then none else match altP f (o + 1) l1 with
        | none => none
        | some (n, l2) => if l2.head? = some 41 then some (n, l2.tail) else none)
      else if b = 46 then some (oneN all4, l1)
      else if b = 91 then (match classP l1 with
        | none => none
        | some (s, l2) => some (oneN s, l2))
      else if b = 92 then (match escP l1 with
        | none => none
        | some (e, l2) => some (oneN e.set, l2))
      else some (oneN (one4 b), l1)
end
/-- a pattern's tree -/
def parseN (l : List Nat) : Option Nd := if 256 < l.length then none else match altP (4 * l.length + 4) 0 l with
  | some (n, []) => some n
  | _ => none

/-- what is left is a tail -/
theorem hexP_tail {l l1 : List Nat} {e : Esc} (h : hexP l = some (e, l1)) : ∃ a, l = a ++ l1 ∧ a.length = 2 := by
  cases l with
  | nil => cases h
  | cons x l =>
  cases l with
  | nil => cases h
  | cons y l =>
    rw [hexP] at h
    cases hx : hexV x with
    | none => rw [hx] at h; cases h
    | some p =>
      cases hy : hexV y with
      | none => rw [hx, hy] at h; cases h
      | some q =>
        rw [hx, hy] at h
        cases h
        exact ⟨[x, y], rfl, rfl⟩
theorem escP_tail {l l1 : List Nat} {e : Esc} (h : escP l = some (e, l1)) : ∃ a, l = a ++ l1 ∧ 0 < a.length := by
  cases l with
  | nil => cases h
  | cons b l =>
    rw [escP] at h
    split at h
    · cases h; exact ⟨[b], rfl, by simp⟩
    · split at h
      · cases h; exact ⟨[b], rfl, by simp⟩
      · split at h
        · obtain ⟨a, e, _⟩ := hexP_tail h
          exact ⟨b :: a, by rw [e]; rfl, by simp⟩
        · split at h
          · cases h; exact ⟨[b], rfl, by simp⟩
          · cases h
theorem signP_tail {l l1 : List Nat} {e : Esc} (h : signP l = some (e, l1)) : ∃ a, l = a ++ l1 ∧ 0 < a.length := by
  cases l with
  | nil => cases h
  | cons b l =>
    rw [signP] at h
    split at h
    · obtain ⟨a, e, _⟩ := escP_tail h
      exact ⟨b :: a, by rw [e]; rfl, by simp⟩
    · split at h
      · cases h
      · cases h; exact ⟨[b], rfl, by simp⟩
theorem head_tail {l : List Nat} {b : Nat} (h : l.head? = some b) : l = b :: l.tail := by
  cases l with
  | nil => cases h
  | cons x l => simp at h; rw [h]; rfl
theorem rangeP_tail {e g : Esc} {l l1 : List Nat} {s : S4} (h : rangeP e g l = some (s, l1)) : l1 = l := by
  cases e <;> cases g <;> simp [rangeP] at h
  exact h.2.2.symm
theorem itemP_tail {l l1 : List Nat} {s : S4} (h : itemP l = some (s, l1)) : ∃ a, l = a ++ l1 ∧ 0 < a.length := by
  unfold itemP at h
  cases h1 : signP l with
  | none => rw [h1] at h; cases h
  | some r =>
    obtain ⟨e, l2⟩ := r
    rw [h1] at h
    simp only at h
    obtain ⟨a, e1, e2⟩ := signP_tail h1
    split at h
    · cases h
      exact ⟨a, e1, e2⟩
    · rename_i hc
      have hh : l2.head? = some 45 := Decidable.byContradiction fun h3 => hc (.inr h3)
      cases h2 : signP l2.tail with
      | none => rw [h2] at h; cases h
      | some r =>
        obtain ⟨g, l3⟩ := r
        rw [h2] at h
        simp only at h
        obtain rfl := rangeP_tail h
        obtain ⟨a2, e3, e4⟩ := signP_tail h2
        refine ⟨a ++ 45 :: a2, ?_, by simp; omega⟩
        rw [e1, head_tail hh, e3]
        simp
theorem classL_tail {n : Nat} {s s1 : S4} {l l1 : List Nat} (h : classL n s l = some (s1, l1)) : ∃ a, l = a ++ l1 ∧ 0 < a.length := by
  induction n generalizing s l with
  | zero => cases h
  | succ n ih =>
    unfold classL at h
    cases h1 : itemP l with
    | none => rw [h1] at h; cases h
    | some r =>
      obtain ⟨x, l2⟩ := r
      rw [h1] at h
      simp only at h
      obtain ⟨a, e1, e2⟩ := itemP_tail h1
      split at h
      · rename_i hh
        cases h
        refine ⟨a ++ [93], ?_, by simp⟩
        rw [e1, List.append_assoc]
        congr 1
        exact head_tail hh
      · obtain ⟨a2, e3, e4⟩ := ih h
        exact ⟨a ++ a2, by rw [e1, e3, List.append_assoc], by simp; omega⟩
theorem classP_tail {s : S4} {l l1 : List Nat} (h : classP l = some (s, l1)) : ∃ a, l = a ++ l1 ∧ 0 < a.length := by
  unfold classP at h
  split at h
  · rename_i hh
    obtain ⟨x, hx, e⟩ := Option.map_eq_some_iff.1 h
    obtain ⟨x1, x2⟩ := x
    obtain ⟨-, rfl⟩ : _ ∧ x2 = l1 := by simpa using e
    obtain ⟨a, e1, e2⟩ := classL_tail hx
    exact ⟨94 :: a, by rw [head_tail hh, e1]; rfl, by simp⟩
  · exact classL_tail h
theorem digsF_tail (n : Nat) (l : List Nat) : ∃ a, l = a ++ (digsF n l).2 := by
  induction l generalizing n with
  | nil => exact ⟨[], rfl⟩
  | cons b l ih =>
    unfold digsF
    split
    · obtain ⟨a, e⟩ := ih (min (10 * n + (b - 48)) 1000)
      refine ⟨b :: a, ?_⟩
      rw [List.cons_append, ← e]
    · exact ⟨[], rfl⟩
theorem numP_tail {n : Nat} {l l1 : List Nat} (h : numP l = some (n, l1)) : ∃ a, l = a ++ l1 ∧ 0 < a.length := by
  unfold numP at h
  split at h
  · cases h
  · rename_i hne
    split at h
    · cases h
    · split at h
      · cases h
      · obtain ⟨a, e⟩ := digsF_tail 0 l
        have h2 := Option.some.inj h
        rw [h2] at e hne
        refine ⟨a, e, ?_⟩
        have := congrArg List.length e
        rw [List.length_append] at this
        simp only at this hne
        omega
theorem bracesP_tail {x y : Int} {l l1 : List Nat} (h : bracesP l = some (x, y, l1)) : ∃ a, l = a ++ l1 := by
  unfold bracesP at h
  cases h1 : numP l with
  | none => rw [h1] at h; cases h
  | some r =>
    obtain ⟨n, l2⟩ := r
    rw [h1] at h
    simp only at h
    obtain ⟨a, e1, _⟩ := numP_tail h1
    split at h
    · rename_i hh
      split at h
      · cases h
        refine ⟨a ++ [44], ?_⟩
        rw [List.append_assoc, e1]
        congr 1
        exact head_tail hh
      · cases h2 : numP l2.tail with
        | none => rw [h2] at h; cases h
        | some r =>
          obtain ⟨m, l3⟩ := r
          rw [h2] at h
          simp only at h
          obtain ⟨a2, e3, _⟩ := numP_tail h2
          split at h
          · cases h
          · cases h
            refine ⟨a ++ 44 :: a2, ?_⟩
            rw [e1, head_tail hh, e3]
            simp
    · split at h
      · cases h
      · cases h
        exact ⟨a, e1⟩
theorem quantP_tail {n n1 : Nd} {l l1 : List Nat} (h : quantP n l = some (n1, l1)) : ∃ a, l = a ++ l1 := by
  cases l with
  | nil => cases h; exact ⟨[], rfl⟩
  | cons b l =>
    rw [quantP] at h
    split at h
    · cases h; exact ⟨[b], rfl⟩
    · split at h
      · cases h; exact ⟨[b], rfl⟩
      · split at h
        · cases h; exact ⟨[b], rfl⟩
        · split at h
          · cases h1 : bracesP l with
            | none => rw [h1] at h; cases h
            | some r =>
              obtain ⟨x, y, l2⟩ := r
              rw [h1] at h
              simp only at h
              obtain ⟨a, e⟩ := bracesP_tail h1
              split at h
              · rename_i hh
                cases h
                refine ⟨b :: a ++ [125], ?_⟩
                rw [List.append_assoc, e, List.cons_append]
                congr 2
                exact head_tail hh
              · cases h
          · cases h; exact ⟨[], rfl⟩
/-- what an atom, a piece takes -/
theorem takes (f : Nat) : (∀ o l n l1, altP f o l = some (n, l1) → l1.length ≤ l.length) ∧ (∀ o ps l n l1, barP f o ps l = some (n, l1) → l1.length ≤ l.length) ∧
    (∀ o ps l n l1, catP f o ps l = some (n, l1) → l1.length ≤ l.length) ∧ (∀ o l n l1, pieceP f o l = some (n, l1) → l1.length < l.length) ∧ (∀ o l n l1, atomP f o l = some (n, l1) → l1.length < l.length) := by
  induction f with
  | zero => exact ⟨fun _ _ _ _ h => (by rw [altP] at h; cases h), fun _ _ _ _ _ h => (by rw [barP] at h; cases h), fun _ _ _ _ _ h => (by rw [catP] at h; cases h), fun _ _ _ _ h => (by rw [pieceP] at h; cases h), fun _ _ _ _ h => (by rw [atomP] at h; cases h)⟩
  | succ f ih =>
    obtain ⟨i1, i2, i3, i4, i5⟩ := ih
    refine ⟨fun o l n l1 h => ?_, fun o ps l n l1 h => ?_, fun o ps l n l1 h => ?_, fun o l n l1 h => ?_, fun o l n l1 h => ?_⟩
    · rw [altP] at h
      cases h1 : catP f o [] l with
      | none => rw [h1] at h; cases h
      | some r =>
        rw [h1] at h
        have a1 := i3 o [] l r.1 r.2 h1
        have a2 := i2 o [r.1] r.2 n l1 h
        omega
    · rw [barP] at h
      split at h
      · rename_i hh
        cases h1 : catP f o [] l.tail with
        | none => rw [h1] at h; cases h
        | some r =>
          rw [h1] at h
          have a1 := i3 o [] l.tail r.1 r.2 h1
          have a2 := i2 o (ps ++ [r.1]) r.2 n l1 h
          rw [List.length_tail] at a1
          omega
      · cases h; exact Nat.le_refl _
    · rw [catP] at h
      split at h
      · cases h; exact Nat.le_refl _
      · cases h1 : pieceP f o l with
        | none => rw [h1] at h; cases h
        | some r =>
          rw [h1] at h
          have a1 := i4 o l r.1 r.2 h1
          have a2 := i3 o (ps ++ [r.1]) r.2 n l1 h
          omega
    · rw [pieceP] at h
      cases h1 : atomP f o l with
      | none => rw [h1] at h; cases h
      | some r =>
        rw [h1] at h
        have a1 := i5 o l r.1 r.2 h1
        obtain ⟨a, e⟩ := quantP_tail h
        have := congrArg List.length e
        rw [List.length_append] at this
        omega
    · cases l with
      | nil => rw [atomP.eq_def] at h; cases h
      | cons b l2 =>
        rw [atomP.eq_def] at h
        simp only at h
        rw [List.length_cons]
        split at h
        · cases h
        · split at h
          · split at h
            · cases h
            · cases h1 : altP f (o + 1) l2 with
              | none => rw [h1] at h; cases h
              | some r =>
                rw [h1] at h
                simp only at h
                have a1 := i1 (o + 1) l2 r.1 r.2 h1
                split at h
                · cases h
                  rw [List.length_tail]
                  omega
                · cases h
          · split at h
            · cases h; omega
            · split at h
              · cases h1 : classP l2 with
                | none => rw [h1] at h; cases h
                | some r =>
                  rw [h1] at h
                  cases h
                  obtain ⟨a, e, _⟩ := classP_tail h1
                  have := congrArg List.length e
                  rw [List.length_append] at this
                  omega
              · split at h
                · cases h1 : escP l2 with
                  | none => rw [h1] at h; cases h
                  | some r =>
                    rw [h1] at h
                    cases h
                    obtain ⟨a, e, _⟩ := escP_tail h1
                    have := congrArg List.length e
                    rw [List.length_append] at this
                    omega
                · cases h; omega
end Rg
end Go.Proofs.YtpknglbpbodnbaaDoor
