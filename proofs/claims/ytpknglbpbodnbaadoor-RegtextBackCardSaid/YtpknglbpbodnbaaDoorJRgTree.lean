/-
  Sets as four numbers; trees of patterns. Plain words; no Go in sight. Conditions: each lemma says its own.
-/
import Derived.Test.YtpknglbpbodnbaaDoorJCsFirst
namespace Go.Proofs.YtpknglbpbodnbaaDoor
set_option linter.unusedVariables false
set_option linter.unusedSimpArgs false
namespace Rg
open Cs

/-- a set: four words -/
structure S4 where
  a : Int
  b : Int
  c : Int
  d : Int
deriving DecidableEq
def S4.f (s : S4) (i : Nat) : Int := if i = 0 then s.a else if i = 1 then s.b else if i = 2 then s.c else if i = 3 then s.d else 0
def s4 (f : Nat → Int) : S4 := ⟨f 0, f 1, f 2, f 3⟩
theorem s4_f (f : Nat → Int) {i : Nat} (hi : i < 4) : (s4 f).f i = f i := by
  obtain rfl | rfl | rfl | rfl : i = 0 ∨ i = 1 ∨ i = 2 ∨ i = 3 := by omega
  all_goals rfl
theorem f_s4 (s : S4) : s4 s.f = s := rfl
theorem s4_congr {f g : Nat → Int} (h : ∀ i, i < 4 → f i = g i) : s4 f = s4 g := by
  unfold s4
  rw [h 0 (by omega), h 1 (by omega), h 2 (by omega), h 3 (by omega)]
theorem s4_eq {f g : Nat → Int} : s4 f = s4 g ↔ ∀ i, i < 4 → f i = g i :=
  ⟨fun h i hi => by rw [← s4_f f hi, ← s4_f g hi, h], s4_congr⟩
theorem S4.eq_iff {s t : S4} : s = t ↔ ∀ i, i < 4 → s.f i = t.f i := by
  rw [← s4_eq]
  exact Iff.rfl
theorem s4_in {f : Nat → Int} (h : SetIn f) : SetIn (s4 f).f := fun i => by
  by_cases hi : i < 4
  · rw [s4_f f hi]; exact h i
  · have : (s4 f).f i = 0 := by
      unfold S4.f
      rw [if_neg (by omega), if_neg (by omega), if_neg (by omega), if_neg (by omega)]
    omega
theorem s4_has (f : Nat → Int) {b : Nat} (hb : b < 256) : hasS (s4 f).f b = hasS f b := by
  unfold hasS
  rw [s4_f f (by omega)]
theorem S4.ext_has {s t : S4} (hs : SetIn s.f) (ht : SetIn t.f) (h : ∀ b, b < 256 → hasS s.f b = hasS t.f b) : s = t :=
  S4.eq_iff.2 fun i hi => Cs.ext s.f t.f hs ht h i hi
def none4 : S4 := ⟨0, 0, 0, 0⟩
theorem none4_s : none4 = s4 noneS := rfl
/-- one byte's set -/
def one4 (b : Nat) : S4 := s4 (ofS b b)
def span4 (lo hi : Nat) : S4 := s4 (ofS lo hi)
def all4 : S4 := span4 0 255
def digit4 : S4 := span4 48 57
def wordF : Nat → Int := orS (orS (ofS 48 57) (ofS 65 90)) (orS (ofS 97 122) (ofS 95 95))
def word4 : S4 := s4 wordF
theorem span4_in (lo hi : Nat) : SetIn (span4 lo hi).f := s4_in (ofIn _ _)
theorem one4_in (b : Nat) : SetIn (one4 b).f := s4_in (ofIn _ _)
theorem none4_in : SetIn none4.f := s4_in noneIn
theorem wordF_in : SetIn wordF := orIn (orIn (ofIn _ _) (ofIn _ _)) (orIn (ofIn _ _) (ofIn _ _))
theorem word4_in : SetIn word4.f := s4_in wordF_in
theorem span4_has (lo hi : Nat) {b : Nat} (hb : b < 256) : hasS (span4 lo hi).f b = decide (lo ≤ b ∧ b ≤ hi) := by
  unfold span4
  rw [s4_has _ hb, has_of]
theorem one4_has (c : Nat) {b : Nat} (hb : b < 256) : hasS (one4 c).f b = decide (b = c) := by
  unfold one4
  rw [s4_has _ hb, has_of, decide_eq_decide]
  omega
theorem none4_has {b : Nat} (hb : b < 256) : hasS none4.f b = false := by
  rw [none4_s, s4_has _ hb, has_none]
def or4 (s t : S4) : S4 := s4 (orS s.f t.f)
def not4 (s : S4) : S4 := s4 (notS s.f)
theorem or4_in {s t : S4} (hs : SetIn s.f) (ht : SetIn t.f) : SetIn (or4 s t).f := s4_in (orIn hs ht)
theorem not4_in {s : S4} (hs : SetIn s.f) : SetIn (not4 s).f := s4_in (notIn hs)
theorem or4_has {s t : S4} (hs : SetIn s.f) (ht : SetIn t.f) {b : Nat} (hb : b < 256) : hasS (or4 s t).f b = (hasS s.f b || hasS t.f b) := by
  unfold or4
  rw [s4_has _ hb, has_or _ _ _ hs ht]
theorem not4_has {s : S4} (hs : SetIn s.f) {b : Nat} (hb : b < 256) : hasS (not4 s).f b = !hasS s.f b := by
  unfold not4
  rw [s4_has _ hb, has_not _ _ hs]

/-- a pattern, or a part of one -/
inductive Nd where
  | mk (kind : Int) (set : S4) (kids : List Nd) (lo hi : Int)
namespace Nd
def kind : Nd → Int | mk k _ _ _ _ => k
def set : Nd → S4 | mk _ s _ _ _ => s
def kids : Nd → List Nd | mk _ _ l _ _ => l
def lo : Nd → Int | mk _ _ _ x _ => x
def hi : Nd → Int | mk _ _ _ _ x => x
theorem eta (n : Nd) : mk n.kind n.set n.kids n.lo n.hi = n := by cases n; rfl
theorem ind {P : Nd → Prop} (h : ∀ k s l x y, (∀ n ∈ l, P n) → P (mk k s l x y)) (n : Nd) : P n :=
  Nd.rec (motive_1 := P) (motive_2 := fun l => ∀ n ∈ l, P n) h (fun n hn => by cases hn) (fun n l h1 h2 m hm => by
    rcases List.mem_cons.1 hm with rfl | hm
    · exact h1
    · exact h2 m hm) n
end Nd
/-- the tree of nothing -/
def zeroN : Nd := .mk 0 none4 [] 0 0
noncomputable instance : DecidableEq Nd := fun a b => Classical.propDecidable (a = b)
/-- may a part come so often? -/
def timesB (lo hi : Int) : Bool := decide (0 ≤ lo ∧ lo ≤ 16) && (decide (hi = -1) || decide (1 ≤ hi ∧ lo ≤ hi ∧ hi ≤ 16))
mutual
/-- may a tree be? -/
def rightN : Nd → Bool
  | .mk k s l x y => rightL k l && (decide (k = 1) || decide (s = none4)) && (decide (k = 4) || (decide (x = 0) && decide (y = 0))) &&
      ((decide (k = 1) && decide (l.length = 0)) || (decide (k = 2) && decide (l.length ≠ 1)) || (decide (k = 3) && decide (1 < l.length)) || (decide (k = 4) && decide (l.length = 1) && timesB x y))
def rightL (k : Int) : List Nd → Bool
  | [] => true
  | n :: l => (rightN n && !(decide (n.kind = k) && decide (k ≠ 4))) && rightL k l
end
mutual
/-- how many nodes -/
def sizeN : Nd → Nat
  | .mk _ _ l _ _ => 1 + sizeL l
def sizeL : List Nd → Nat
  | [] => 0
  | n :: l => sizeN n + sizeL l
end
mutual
/-- how deep -/
def deepN : Nd → Nat
  | .mk _ _ l _ _ => deepL l + 1
def deepL : List Nd → Nat
  | [] => 0
  | n :: l => max (deepN n) (deepL l)
end
mutual
/-- do all the words fit? -/
def InN : Nd → Prop
  | .mk _ s l _ _ => SetIn s.f ∧ InL l
def InL : List Nd → Prop
  | [] => True
  | n :: l => InN n ∧ InL l
end
theorem InL_iff {l : List Nd} : InL l ↔ ∀ n ∈ l, InN n := by
  induction l with
  | nil => simp [InL]
  | cons n l ih => simp [InL, ih]
theorem rightL_iff {k : Int} {l : List Nd} : rightL k l = true ↔ ∀ n ∈ l, rightN n = true ∧ (n.kind = k → k = 4) := by
  induction l with
  | nil => simp [rightL]
  | cons n l ih =>
    simp only [rightL, Bool.and_eq_true, ih, List.mem_cons, forall_eq_or_imp]
    simp
    intro _ _
    refine ⟨fun h e => h.resolve_left fun h2 => h2 e, fun h => ?_⟩
    by_cases e : n.kind = k
    · exact .inr (h e)
    · exact .inl e
/-- what a right tree is -/
theorem rightN_iff {k : Int} {s : S4} {l : List Nd} {x y : Int} : rightN (.mk k s l x y) = true ↔
    (∀ n ∈ l, rightN n = true ∧ (n.kind = k → k = 4)) ∧ (k ≠ 1 → s = none4) ∧ (k ≠ 4 → x = 0 ∧ y = 0) ∧
      ((k = 1 ∧ l = []) ∨ (k = 2 ∧ l.length ≠ 1) ∨ (k = 3 ∧ 1 < l.length) ∨ (k = 4 ∧ l.length = 1 ∧ timesB x y = true)) := by
  rw [rightN, Bool.and_eq_true, Bool.and_eq_true, Bool.and_eq_true, rightL_iff]
  simp only [Bool.or_eq_true, Bool.and_eq_true, decide_eq_true_eq, List.length_eq_zero_iff]
  constructor
  · rintro ⟨⟨⟨h1, h2⟩, h3⟩, h4⟩
    refine ⟨h1, fun h => h2.resolve_left h, fun h => h3.resolve_left h, ?_⟩
    rcases h4 with ((h4 | h4) | h4) | h4
    · exact .inl h4
    · exact .inr (.inl h4)
    · exact .inr (.inr (.inl h4))
    · exact .inr (.inr (.inr ⟨h4.1.1, h4.1.2, h4.2⟩))
  · rintro ⟨h1, h2, h3, h4⟩
    refine ⟨⟨⟨h1, ?_⟩, ?_⟩, ?_⟩
    · by_cases h : k = 1
      · exact .inl h
      · exact .inr (h2 h)
    · by_cases h : k = 4
      · exact .inl h
      · exact .inr (h3 h)
    · rcases h4 with h4 | h4 | h4 | h4
      · exact .inl (.inl (.inl h4))
      · exact .inl (.inl (.inr h4))
      · exact .inl (.inr h4)
      · exact .inr ⟨⟨h4.1, h4.2.1⟩, h4.2.2⟩
end Rg
end Go.Proofs.YtpknglbpbodnbaaDoor
