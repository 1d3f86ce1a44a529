/-
  States that no word tells apart: plain words; words of few signs are enough. Conditions: the automaton is right.
-/
import Derived.WalkKit
namespace Go.Proofs.YtgkpgjbgcimijaaDoor
set_option linter.unusedVariables false

/-- an automaton in plain words: states below many, signs below wide -/
structure Aut where
  many : Nat
  wide : Nat
  start : Nat
  fin : Nat → Bool
  nx : Nat → Nat → Nat
structure Aut.Ok (d : Aut) : Prop where
  wide0 : 0 < d.wide
  st : d.start < d.many
  nxt : ∀ i k, i < d.many → k < d.wide → d.nx i k < d.many
namespace Aut
def run (d : Aut) (p : Nat) (ws : List Nat) : Nat := ws.foldl d.nx p
def Word (d : Aut) (ws : List Nat) : Prop := ∀ k ∈ ws, k < d.wide
def Eqv (d : Aut) (p q : Nat) : Prop := ∀ ws, d.Word ws → d.fin (d.run p ws) = d.fin (d.run q ws)
variable {d : Aut}
theorem Eqv.refl (p : Nat) : d.Eqv p p := fun _ _ => rfl
theorem Eqv.symm {p q : Nat} (h : d.Eqv p q) : d.Eqv q p := fun ws hw => (h ws hw).symm
theorem Eqv.trans {p q r : Nat} (h : d.Eqv p q) (h' : d.Eqv q r) : d.Eqv p r := fun ws hw => (h ws hw).trans (h' ws hw)
theorem Eqv.fin_ {p q : Nat} (h : d.Eqv p q) : d.fin p = d.fin q := h [] (fun _ hk => by cases hk)
theorem Eqv.next {p q k : Nat} (h : d.Eqv p q) (hk : k < d.wide) : d.Eqv (d.nx p k) (d.nx q k) := fun ws hw =>
  h (k :: ws) fun j hj => by rcases List.mem_cons.1 hj with rfl | hj; exact hk; exact hw j hj
/-- what is stable tells no two states apart -/
theorem Eqv.of_stable {S : Nat → Nat → Prop} (hf : ∀ p q, S p q → d.fin p = d.fin q) (hn : ∀ p q k, S p q → k < d.wide → S (d.nx p k) (d.nx q k)) {p q : Nat} (h : S p q) : d.Eqv p q := by
  intro ws
  induction ws generalizing p q with
  | nil => intro _; exact hf p q h
  | cons k ws ih =>
    intro hw
    exact ih (hn p q k h (hw k (by simp))) fun j hj => hw j (by simp [hj])
theorem run_in (hd : d.Ok) : ∀ (ws : List Nat) (p : Nat), p < d.many → d.Word ws → d.run p ws < d.many
  | [], p, hp, _ => hp
  | k :: ws, p, hp, hw => run_in hd ws _ (hd.nxt p k hp (hw k (by simp))) fun j hj => hw j (by simp [hj])
theorem run_app (p : Nat) (u v : List Nat) : d.run p (u ++ v) = d.run (d.run p u) v := by simp [run]

/-- no word of at most r signs tells them apart -/
def EqF (d : Aut) : Nat → Nat → Nat → Prop
  | 0, p, q => d.fin p = d.fin q
  | r + 1, p, q => EqF d r p q ∧ ∀ k, k < d.wide → EqF d r (d.nx p k) (d.nx q k)
theorem EqF.refl : ∀ (r p : Nat), d.EqF r p p
  | 0, _ => rfl
  | r + 1, p => ⟨EqF.refl r p, fun k _ => EqF.refl r _⟩
theorem EqF.symm_ : ∀ (r p q : Nat), d.EqF r p q → d.EqF r q p
  | 0, _, _, h => h.symm
  | r + 1, _, _, h => ⟨symm_ r _ _ h.1, fun k hk => symm_ r _ _ (h.2 k hk)⟩
theorem EqF.symm {r p q : Nat} (h : d.EqF r p q) : d.EqF r q p := EqF.symm_ r p q h
theorem EqF.trans_ : ∀ (r p q s : Nat), d.EqF r p q → d.EqF r q s → d.EqF r p s
  | 0, _, _, _, h, h' => h.trans h'
  | r + 1, _, _, _, h, h' => ⟨trans_ r _ _ _ h.1 h'.1, fun k hk => trans_ r _ _ _ (h.2 k hk) (h'.2 k hk)⟩
theorem EqF.trans {r p q s : Nat} (h : d.EqF r p q) (h' : d.EqF r q s) : d.EqF r p s := EqF.trans_ r p q s h h'
theorem EqF.of_eqv_ : ∀ (r p q : Nat), d.Eqv p q → d.EqF r p q
  | 0, _, _, h => h.fin_
  | r + 1, _, _, h => ⟨of_eqv_ r _ _ h, fun k hk => of_eqv_ r _ _ (h.next hk)⟩
theorem EqF.of_eqv {r p q : Nat} (h : d.Eqv p q) : d.EqF r p q := EqF.of_eqv_ r p q h
theorem EqF.fin_r : ∀ (r p q : Nat), d.EqF r p q → d.fin p = d.fin q
  | 0, _, _, h => h
  | r + 1, _, _, h => fin_r r _ _ h.1
theorem EqF.fin_ {r p q : Nat} (h : d.EqF r p q) : d.fin p = d.fin q := EqF.fin_r r p q h
theorem EqF.less_ : ∀ (r s p q : Nat), s ≤ r → d.EqF r p q → d.EqF s p q
  | 0, s, _, _, hs, h => by
    obtain rfl : s = 0 := by omega
    exact h
  | r + 1, s, _, _, hs, h => by
    by_cases e : s = r + 1
    · subst e; exact h
    · exact less_ r s _ _ (by omega) h.1
theorem EqF.less {r s p q : Nat} (hs : s ≤ r) (h : d.EqF r p q) : d.EqF s p q := EqF.less_ r s p q hs h
def Stable (d : Aut) (r : Nat) : Prop := ∀ p q, p < d.many → q < d.many → d.EqF r p q → d.EqF (r + 1) p q
theorem Stable.eqv (hd : d.Ok) {r : Nat} (h : d.Stable r) {p q : Nat} (hp : p < d.many) (hq : q < d.many) (he : d.EqF r p q) : d.Eqv p q :=
  Eqv.of_stable (S := fun p q => p < d.many ∧ q < d.many ∧ d.EqF r p q) (fun p q h => h.2.2.fin_)
    (fun p q k h' hk => ⟨hd.nxt p k h'.1 hk, hd.nxt q k h'.2.1 hk, (h p q h'.1 h'.2.1 h'.2.2).2 k hk⟩) ⟨hp, hq, he⟩

theorem filter_less {l : List Nat} {P Q : Nat → Bool} (h : ∀ x ∈ l, P x = true → Q x = true) : (l.filter P).length ≤ (l.filter Q).length := by
  induction l with
  | nil => simp
  | cons a l ih =>
    have ih := ih fun x hx => h x (by simp [hx])
    have ha := h a (by simp)
    rw [List.filter_cons, List.filter_cons]
    by_cases hp : P a = true
    · rw [if_pos hp, if_pos (ha hp)]; simp; exact ih
    · rw [if_neg hp]
      by_cases hq : Q a = true
      · rw [if_pos hq]; simp; omega
      · rw [if_neg hq]; exact ih
theorem filter_lt {l : List Nat} {P Q : Nat → Bool} (h : ∀ x ∈ l, P x = true → Q x = true) {y : Nat} (hy : y ∈ l) (hq : Q y = true) (hp : ¬ P y = true) : (l.filter P).length < (l.filter Q).length := by
  induction l with
  | nil => cases hy
  | cons a l ih =>
    have h' : ∀ x ∈ l, P x = true → Q x = true := fun x hx => h x (by simp [hx])
    rw [List.filter_cons, List.filter_cons]
    rcases List.mem_cons.1 hy with rfl | hy
    · rw [if_neg hp, if_pos hq]
      have := filter_less h'
      simp; omega
    · have ih := ih h' hy
      by_cases hp' : P a = true
      · rw [if_pos hp', if_pos (h a (by simp) hp')]; simp; exact ih
      · rw [if_neg hp']
        by_cases hq' : Q a = true
        · rw [if_pos hq']; simp; omega
        · rw [if_neg hq']; exact ih

open Classical in
/-- the least states of the classes -/
noncomputable def reps (d : Aut) (r : Nat) : List Nat := (List.range d.many).filter fun p => decide (∀ q, q < p → ¬ d.EqF r q p)
theorem least_of {r : Nat} : ∀ (n p : Nat), p ≤ n → ∃ m, m ≤ p ∧ d.EqF r m p ∧ ∀ q, q < m → ¬ d.EqF r q m
  | 0, p, hp => ⟨p, Nat.le_refl _, EqF.refl r p, fun q hq => by omega⟩
  | n + 1, p, hp => by
    by_cases h : ∃ q, q < p ∧ d.EqF r q p
    · obtain ⟨q, hq, he⟩ := h
      obtain ⟨m, h1, h2, h3⟩ := least_of (r := r) n q (by omega)
      exact ⟨m, by omega, h2.trans he, h3⟩
    · exact ⟨p, Nat.le_refl _, EqF.refl r p, fun q hq he => h ⟨q, hq, he⟩⟩
theorem reps_grow {r : Nat} (h : ¬ d.Stable r) : (d.reps r).length < (d.reps (r + 1)).length := by
  unfold Stable at h
  simp only [Classical.not_forall] at h
  obtain ⟨p, q, hp, hq, he, hn⟩ := h
  obtain ⟨m, hm, hme, hml⟩ := least_of (d := d) (r := r) p p (Nat.le_refl _)
  have hx : ∃ x, x < d.many ∧ d.EqF r m x ∧ ¬ d.EqF (r + 1) m x := by
    by_cases h1 : d.EqF (r + 1) m p
    · exact ⟨q, hq, hme.trans he, fun h2 => hn (h1.symm.trans h2)⟩
    · exact ⟨p, hp, hme, h1⟩
  obtain ⟨x, hx, hxe, hxn⟩ := hx
  obtain ⟨y, hy, hye, hyl⟩ := least_of (d := d) (r := r + 1) x x (Nat.le_refl _)
  have hmy : d.EqF r m y := hxe.trans (hye.1.symm)
  have hne : y ≠ m := fun e => by subst e; exact hxn hye
  have hlt : m < y := by
    rcases Nat.lt_or_ge m y with h1 | h1
    · exact h1
    · exact absurd hmy.symm (hml y (by omega))
  refine filter_lt (fun z _ hz => ?_) (y := y) (by simp; omega) (by simpa using hyl) ?_
  · have hz' : ∀ q, q < z → ¬ d.EqF r q z := by simpa using hz
    simpa using fun q hq hqe => hz' q hq hqe.1
  · intro h1
    have h1' : ∀ q, q < y → ¬ d.EqF r q y := by simpa using h1
    exact h1' m hlt hmy
theorem stable_or (hd : d.Ok) : ∀ r, (∃ s, s ≤ r ∧ d.Stable s) ∨ r + 1 ≤ (d.reps r).length
  | 0 => by
    right
    have h0 : 0 ∈ d.reps 0 := by
      have := hd.st
      simp [reps]; omega
    exact List.length_pos_of_mem h0
  | r + 1 => by
    rcases stable_or hd r with ⟨s, hs, h⟩ | h
    · exact .inl ⟨s, by omega, h⟩
    · by_cases hst : d.Stable r
      · exact .inl ⟨r, by omega, hst⟩
      · right
        have := reps_grow hst
        omega
/-- words of at most so many signs as there are states are enough -/
theorem eqv_of (hd : d.Ok) {p q : Nat} (hp : p < d.many) (hq : q < d.many) (h : d.EqF d.many p q) : d.Eqv p q := by
  rcases stable_or hd d.many with ⟨s, hs, hst⟩ | h'
  · exact hst.eqv hd hp hq (h.less hs)
  · have : (d.reps d.many).length ≤ d.many := Nat.le_trans (List.length_filter_le _ _) (by simp)
    omega
end Aut
end Go.Proofs.YtgkpgjbgcimijaaDoor
