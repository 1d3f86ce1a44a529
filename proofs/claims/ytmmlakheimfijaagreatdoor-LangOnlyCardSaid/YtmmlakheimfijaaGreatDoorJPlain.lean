/-
  States that no word tells apart: plain words; words of few signs are enough. Conditions: the automaton is right.
  Classes of states, put apart step by step (Hopcroft's way), in plain words: what stands at the end tells the same states apart as words do. Conditions: the automaton is right, the states are closed.
  One class is handled: what its members come from is put apart, block by block. Plain law. Conditions: as in AuHop.
  Things met one by one, those that are alike only once: plain words. Conditions: each lemma says its own.
  The least automaton of a language of bytes, and that of an automaton: plain law. Conditions: the automaton is right; its blocks are reached.
  The first classes: the states that take, and the others. Plain law. Conditions: none but what each says.
  What the program's way of making the least automaton makes is the canonical one: plain law. Conditions: classes that tell states apart as words do.
-/
import Derived.WalkKit
import Derived.Test.YtmmlakheimfijaaGreatDoorJKit
namespace Go.Proofs.YtmmlakheimfijaaGreatDoor
set_option linter.unusedVariables false

/-- an automaton in plain words: states below many, signs below wide -/
structure Aut where
  many : Nat
  wide : Nat
  start : Nat
  fin : Nat → Bool
  nx : Nat → Nat → Nat
structure Aut.Ok (d : Aut) : Prop where
  wide0 : 0 < d.wide
  st : d.start < d.many
  nxt : ∀ i k, i < d.many → k < d.wide → d.nx i k < d.many
namespace Aut
def run (d : Aut) (p : Nat) (ws : List Nat) : Nat := ws.foldl d.nx p
def Word (d : Aut) (ws : List Nat) : Prop := ∀ k ∈ ws, k < d.wide
def Eqv (d : Aut) (p q : Nat) : Prop := ∀ ws, d.Word ws → d.fin (d.run p ws) = d.fin (d.run q ws)
variable {d : Aut}
theorem Eqv.refl (p : Nat) : d.Eqv p p := fun _ _ => rfl
theorem Eqv.symm {p q : Nat} (h : d.Eqv p q) : d.Eqv q p := fun ws hw => (h ws hw).symm
theorem Eqv.trans {p q r : Nat} (h : d.Eqv p q) (h' : d.Eqv q r) : d.Eqv p r := fun ws hw => (h ws hw).trans (h' ws hw)
theorem Eqv.fin_ {p q : Nat} (h : d.Eqv p q) : d.fin p = d.fin q := h [] (fun _ hk => by cases hk)
theorem Eqv.next {p q k : Nat} (h : d.Eqv p q) (hk : k < d.wide) : d.Eqv (d.nx p k) (d.nx q k) := fun ws hw =>
  h (k :: ws) fun j hj => by rcases List.mem_cons.1 hj with rfl | hj; exact hk; exact hw j hj
/-- what is stable tells no two states apart -/
theorem Eqv.of_stable {S : Nat → Nat → Prop} (hf : ∀ p q, S p q → d.fin p = d.fin q) (hn : ∀ p q k, S p q → k < d.wide → S (d.nx p k) (d.nx q k)) {p q : Nat} (h : S p q) : d.Eqv p q := by
  intro ws
  induction ws generalizing p q with
  | nil => intro _; exact hf p q h
  | cons k ws ih =>
    intro hw
    exact ih (hn p q k h (hw k (by simp))) fun j hj => hw j (by simp [hj])
theorem run_in (hd : d.Ok) : ∀ (ws : List Nat) (p : Nat), p < d.many → d.Word ws → d.run p ws < d.many
  | [], p, hp, _ => hp
  | k :: ws, p, hp, hw => run_in hd ws _ (hd.nxt p k hp (hw k (by simp))) fun j hj => hw j (by simp [hj])
theorem run_app (p : Nat) (u v : List Nat) : d.run p (u ++ v) = d.run (d.run p u) v := by simp [run]

/-- no word of at most r signs tells them apart -/
def EqF (d : Aut) : Nat → Nat → Nat → Prop
  | 0, p, q => d.fin p = d.fin q
  | r + 1, p, q => EqF d r p q ∧ ∀ k, k < d.wide → EqF d r (d.nx p k) (d.nx q k)
theorem EqF.refl : ∀ (r p : Nat), d.EqF r p p
  | 0, _ => rfl
  | r + 1, p => ⟨EqF.refl r p, fun k _ => EqF.refl r _⟩
theorem EqF.symm_ : ∀ (r p q : Nat), d.EqF r p q → d.EqF r q p
  | 0, _, _, h => h.symm
  | r + 1, _, _, h => ⟨symm_ r _ _ h.1, fun k hk => symm_ r _ _ (h.2 k hk)⟩
theorem EqF.symm {r p q : Nat} (h : d.EqF r p q) : d.EqF r q p := EqF.symm_ r p q h
theorem EqF.trans_ : ∀ (r p q s : Nat), d.EqF r p q → d.EqF r q s → d.EqF r p s
  | 0, _, _, _, h, h' => h.trans h'
  | r + 1, _, _, _, h, h' => ⟨trans_ r _ _ _ h.1 h'.1, fun k hk => trans_ r _ _ _ (h.2 k hk) (h'.2 k hk)⟩
theorem EqF.trans {r p q s : Nat} (h : d.EqF r p q) (h' : d.EqF r q s) : d.EqF r p s := EqF.trans_ r p q s h h'
theorem EqF.of_eqv_ : ∀ (r p q : Nat), d.Eqv p q → d.EqF r p q
  | 0, _, _, h => h.fin_
  | r + 1, _, _, h => ⟨of_eqv_ r _ _ h, fun k hk => of_eqv_ r _ _ (h.next hk)⟩
theorem EqF.of_eqv {r p q : Nat} (h : d.Eqv p q) : d.EqF r p q := EqF.of_eqv_ r p q h
theorem EqF.fin_r : ∀ (r p q : Nat), d.EqF r p q → d.fin p = d.fin q
  | 0, _, _, h => h
  | r + 1, _, _, h => fin_r r _ _ h.1
theorem EqF.fin_ {r p q : Nat} (h : d.EqF r p q) : d.fin p = d.fin q := EqF.fin_r r p q h
theorem EqF.less_ : ∀ (r s p q : Nat), s ≤ r → d.EqF r p q → d.EqF s p q
  | 0, s, _, _, hs, h => by
    obtain rfl : s = 0 := by omega
    exact h
  | r + 1, s, _, _, hs, h => by
    by_cases e : s = r + 1
    · subst e; exact h
    · exact less_ r s _ _ (by omega) h.1
theorem EqF.less {r s p q : Nat} (hs : s ≤ r) (h : d.EqF r p q) : d.EqF s p q := EqF.less_ r s p q hs h
def Stable (d : Aut) (r : Nat) : Prop := ∀ p q, p < d.many → q < d.many → d.EqF r p q → d.EqF (r + 1) p q
theorem Stable.eqv (hd : d.Ok) {r : Nat} (h : d.Stable r) {p q : Nat} (hp : p < d.many) (hq : q < d.many) (he : d.EqF r p q) : d.Eqv p q :=
  Eqv.of_stable (S := fun p q => p < d.many ∧ q < d.many ∧ d.EqF r p q) (fun p q h => h.2.2.fin_)
    (fun p q k h' hk => ⟨hd.nxt p k h'.1 hk, hd.nxt q k h'.2.1 hk, (h p q h'.1 h'.2.1 h'.2.2).2 k hk⟩) ⟨hp, hq, he⟩

theorem filter_less {l : List Nat} {P Q : Nat → Bool} (h : ∀ x ∈ l, P x = true → Q x = true) : (l.filter P).length ≤ (l.filter Q).length := by
  induction l with
  | nil => simp
  | cons a l ih =>
    have ih := ih fun x hx => h x (by simp [hx])
    have ha := h a (by simp)
    rw [List.filter_cons, List.filter_cons]
    by_cases hp : P a = true
    · rw [if_pos hp, if_pos (ha hp)]; simp; exact ih
    · rw [if_neg hp]
      by_cases hq : Q a = true
      · rw [if_pos hq]; simp; omega
      · rw [if_neg hq]; exact ih
theorem filter_lt {l : List Nat} {P Q : Nat → Bool} (h : ∀ x ∈ l, P x = true → Q x = true) {y : Nat} (hy : y ∈ l) (hq : Q y = true) (hp : ¬ P y = true) : (l.filter P).length < (l.filter Q).length := by
  induction l with
  | nil => cases hy
  | cons a l ih =>
    have h' : ∀ x ∈ l, P x = true → Q x = true := fun x hx => h x (by simp [hx])
    rw [List.filter_cons, List.filter_cons]
    rcases List.mem_cons.1 hy with rfl | hy
    · rw [if_neg hp, if_pos hq]
      have := filter_less h'
      simp; omega
    · have ih := ih h' hy
      by_cases hp' : P a = true
      · rw [if_pos hp', if_pos (h a (by simp) hp')]; simp; exact ih
      · rw [if_neg hp']
        by_cases hq' : Q a = true
        · rw [if_pos hq']; simp; omega
        · rw [if_neg hq']; exact ih

open Classical in
/-- the least states of the classes -/
noncomputable def reps (d : Aut) (r : Nat) : List Nat := (List.range d.many).filter fun p => decide (∀ q, q < p → ¬ d.EqF r q p)
theorem least_of {r : Nat} : ∀ (n p : Nat), p ≤ n → ∃ m, m ≤ p ∧ d.EqF r m p ∧ ∀ q, q < m → ¬ d.EqF r q m
  | 0, p, hp => ⟨p, Nat.le_refl _, EqF.refl r p, fun q hq => by omega⟩
  | n + 1, p, hp => by
    by_cases h : ∃ q, q < p ∧ d.EqF r q p
    · obtain ⟨q, hq, he⟩ := h
      obtain ⟨m, h1, h2, h3⟩ := least_of (r := r) n q (by omega)
      exact ⟨m, by omega, h2.trans he, h3⟩
    · exact ⟨p, Nat.le_refl _, EqF.refl r p, fun q hq he => h ⟨q, hq, he⟩⟩
theorem reps_grow {r : Nat} (h : ¬ d.Stable r) : (d.reps r).length < (d.reps (r + 1)).length := by
  unfold Stable at h
  simp only [Classical.not_forall] at h
  obtain ⟨p, q, hp, hq, he, hn⟩ := h
  obtain ⟨m, hm, hme, hml⟩ := least_of (d := d) (r := r) p p (Nat.le_refl _)
  have hx : ∃ x, x < d.many ∧ d.EqF r m x ∧ ¬ d.EqF (r + 1) m x := by
    by_cases h1 : d.EqF (r + 1) m p
    · exact ⟨q, hq, hme.trans he, fun h2 => hn (h1.symm.trans h2)⟩
    · exact ⟨p, hp, hme, h1⟩
  obtain ⟨x, hx, hxe, hxn⟩ := hx
  obtain ⟨y, hy, hye, hyl⟩ := least_of (d := d) (r := r + 1) x x (Nat.le_refl _)
  have hmy : d.EqF r m y := hxe.trans (hye.1.symm)
  have hne : y ≠ m := fun e => by subst e; exact hxn hye
  have hlt : m < y := by
    rcases Nat.lt_or_ge m y with h1 | h1
    · exact h1
    · exact absurd hmy.symm (hml y (by omega))
  refine filter_lt (fun z _ hz => ?_) (y := y) (by simp; omega) (by simpa using hyl) ?_
  · have hz' : ∀ q, q < z → ¬ d.EqF r q z := by simpa using hz
    simpa using fun q hq hqe => hz' q hq hqe.1
  · intro h1
    have h1' : ∀ q, q < y → ¬ d.EqF r q y := by simpa using h1
    exact h1' m hlt hmy
theorem stable_or (hd : d.Ok) : ∀ r, (∃ s, s ≤ r ∧ d.Stable s) ∨ r + 1 ≤ (d.reps r).length
  | 0 => by
    right
    have h0 : 0 ∈ d.reps 0 := by
      have := hd.st
      simp [reps]; omega
    exact List.length_pos_of_mem h0
  | r + 1 => by
    rcases stable_or hd r with ⟨s, hs, h⟩ | h
    · exact .inl ⟨s, by omega, h⟩
    · by_cases hst : d.Stable r
      · exact .inl ⟨r, by omega, hst⟩
      · right
        have := reps_grow hst
        omega
/-- words of at most so many signs as there are states are enough -/
theorem eqv_of (hd : d.Ok) {p q : Nat} (hp : p < d.many) (hq : q < d.many) (h : d.EqF d.many p q) : d.Eqv p q := by
  rcases stable_or hd d.many with ⟨s, hs, hst⟩ | h'
  · exact hst.eqv hd hp hq (h.less hs)
  · have : (d.reps d.many).length ≤ d.many := Nat.le_trans (List.length_filter_le _ _) (by simp)
    omega
end Aut
end Go.Proofs.YtmmlakheimfijaaGreatDoor
namespace Go.Proofs.YtmmlakheimfijaaGreatDoor
set_option linter.unusedVariables false
set_option linter.unusedSimpArgs false

theorem nodup_sub {α : Type} [DecidableEq α] : ∀ (a l : List α), a.Nodup → (∀ x ∈ a, x ∈ l) → a.length ≤ l.length
  | [], l, _, _ => Nat.zero_le _
  | x :: a, l, hn, hs => by
    have hx := hs x (by simp)
    have hn' := List.nodup_cons.1 hn
    have ih := nodup_sub a (l.erase x) hn'.2 fun y hy => (List.mem_erase_of_ne (fun e => hn'.1 (by rw [← e]; exact hy))).2 (hs y (by simp [hy]))
    rw [List.length_erase_of_mem hx] at ih
    have := List.length_pos_of_mem hx
    simp only [List.length_cons]
    omega
/-- as long, and inside: the same members -/
theorem same_sub {α : Type} [DecidableEq α] {a l : List α} (ha : a.Nodup) (hl : l.Nodup) (hs : ∀ x ∈ a, x ∈ l) (h : a.length = l.length) {x : α} (hx : x ∈ l) : x ∈ a := by
  refine Classical.byContradiction fun hn => ?_
  have := nodup_sub (x :: a) l (List.nodup_cons.2 ⟨hn, ha⟩) fun y hy => by
    rcases List.mem_cons.1 hy with rfl | hy
    · exact hx
    · exact hs y hy
  simp at this
  omega

structure Parts where
  cls : Nat → Nat
  mem : List (List Nat)
  wai : List Bool
  work : List Nat
namespace Parts
def wait (P : Parts) (c : Nat) : Parts := if P.wai.getD c false = true then P else { P with wai := P.wai.set c true, work := P.work ++ [c] }
def opens (P : Parts) (s : List Nat) : Parts := { cls := fun n => if n ∈ s then P.mem.length else P.cls n, mem := P.mem ++ [s], wai := P.wai ++ [false], work := P.work }
def restOf (P : Parts) (c : Nat) (s : List Nat) : List Nat := (P.mem.getD c []).filter fun m => decide ((P.opens s).cls m = c)
def parted (P : Parts) (c : Nat) (s : List Nat) : Parts := { P.opens s with mem := (P.opens s).mem.set c (P.restOf c s) }
def apart (P : Parts) (c : Nat) (s : List Nat) : Parts :=
  if s.length = (P.mem.getD c []).length then P
  else if (P.parted c s).wai.getD c false = true ∨ s.length ≤ (P.restOf c s).length then (P.parted c s).wait P.mem.length else (P.parted c s).wait c
end Parts

/-- what always holds of the classes -/
structure HopI (d : Aut) (R : List Nat) (P : Parts) : Prop where
  len : P.wai.length = P.mem.length
  cov : ∀ n ∈ R, P.cls n < P.mem.length
  mem : ∀ c s, P.mem[c]? = some s → s ≠ [] ∧ s.Nodup ∧ ∀ n, n ∈ s ↔ (n ∈ R ∧ P.cls n = c)
  nod : P.work.Nodup
  wk : ∀ c, c ∈ P.work ↔ P.wai[c]? = some true
  eqv : ∀ n m, n ∈ R → m ∈ R → d.Eqv n m → P.cls n = P.cls m
  fin : ∀ n m, n ∈ R → m ∈ R → P.cls n = P.cls m → d.fin n = d.fin m
/-- who is put apart from whom by one that waits, or by the class that is handled -/
def Hop2 (d : Aut) (R : List Nat) (P : Parts) (by_ : List Nat) (K : Nat) : Prop :=
  ∀ p q, p ∈ R → q ∈ R → P.cls p = P.cls q → ∀ k, k < d.wide → P.cls (d.nx p k) ≠ P.cls (d.nx q k) →
    P.wai[P.cls (d.nx p k)]? = some true ∨ P.wai[P.cls (d.nx q k)]? = some true ∨ (K ≤ k ∧ ¬ (d.nx p k ∈ by_ ↔ d.nx q k ∈ by_))
structure Closed (d : Aut) (R : List Nat) : Prop where
  nxt : ∀ n k, n ∈ R → k < d.wide → d.nx n k ∈ R
/-- the class that is handled -/
structure ByOk (d : Aut) (R : List Nat) (by_ : List Nat) : Prop where
  inR : ∀ n ∈ by_, n ∈ R
  eqv : ∀ n m, n ∈ R → m ∈ R → d.Eqv n m → n ∈ by_ → m ∈ by_

theorem HopI.count {d : Aut} {R : List Nat} {P : Parts} (h : HopI d R P) : P.mem.length ≤ R.length := by
  have := nodup_sub (List.range P.mem.length) (R.map P.cls) List.nodup_range fun c hc => by
    have hc' : c < P.mem.length := by simpa using hc
    obtain ⟨h1, h2, h3⟩ := h.mem c _ (List.getElem?_eq_getElem hc')
    obtain ⟨n, hn⟩ := List.exists_mem_of_ne_nil _ h1
    exact List.mem_map.2 ⟨n, ((h3 n).1 hn).1, ((h3 n).1 hn).2⟩
  simpa using this

theorem getD_true {l : List Bool} {c : Nat} : l.getD c false = true ↔ l[c]? = some true := by
  rw [List.getD_eq_getElem?_getD]
  cases l[c]? with
  | none => simp
  | some b => simp

theorem HopI.wait {d : Aut} {R : List Nat} {P : Parts} (h : HopI d R P) {c : Nat} (hc : c < P.mem.length) : HopI d R (P.wait c) := by
  unfold Parts.wait
  by_cases hw : P.wai.getD c false = true
  · rw [if_pos hw]; exact h
  rw [if_neg hw]
  have hw' : c ∉ P.work := fun hm => hw (getD_true.2 ((h.wk c).1 hm))
  refine ⟨by simp [h.len], h.cov, h.mem, ?_, fun x => ?_, h.eqv, h.fin⟩
  · rw [List.nodup_append]
    refine ⟨h.nod, by simp, fun a ha b hb => ?_⟩
    simp at hb
    subst hb
    intro e
    subst e
    exact hw' ha
  · simp only [List.mem_append, List.mem_singleton]
    rw [h.wk x, List.getElem?_set]
    by_cases e : c = x
    · subst e
      rw [if_pos rfl, if_pos (by rw [h.len]; exact hc)]
      simp
    · rw [if_neg e]
      constructor
      · rintro (h1 | h1)
        · exact h1
        · exact absurd h1.symm e
      · exact .inl
theorem wait_cls (P : Parts) (c : Nat) : (P.wait c).cls = P.cls := by unfold Parts.wait; split <;> rfl
theorem wait_mem (P : Parts) (c : Nat) : (P.wait c).mem = P.mem := by unfold Parts.wait; split <;> rfl
theorem wait_keeps {P : Parts} {c x : Nat} (h : P.wai[x]? = some true) : (P.wait c).wai[x]? = some true := by
  unfold Parts.wait
  split
  · exact h
  · rw [List.getElem?_set]
    by_cases e : c = x
    · subst e
      have := (List.getElem?_eq_some_iff.1 h).1
      rw [if_pos rfl, if_pos this]
    · rw [if_neg e]; exact h
theorem wait_is {P : Parts} {c : Nat} (h : c < P.wai.length) : (P.wait c).wai[c]? = some true := by
  unfold Parts.wait
  by_cases hw : P.wai.getD c false = true
  · rw [if_pos hw]; exact getD_true.1 hw
  · rw [if_neg hw, List.getElem?_set, if_pos rfl, if_pos h]
theorem wait_work (P : Parts) (c : Nat) : (P.wait c).work.length ≤ P.work.length + 1 := by unfold Parts.wait; split <;> simp

section
variable {d : Aut} {R : List Nat} {P : Parts} {c K : Nat} {s by_ : List Nat}
/-- the members of class c from which block K leads into the class that is handled -/
structure SomeOf (d : Aut) (R : List Nat) (P : Parts) (by_ : List Nat) (K c : Nat) (s : List Nat) : Prop where
  nod : s.Nodup
  ne : s ≠ []
  mem : ∀ n, n ∈ s ↔ n ∈ R ∧ P.cls n = c ∧ d.nx n K ∈ by_
theorem parted_cls : (P.parted c s).cls = fun n => if n ∈ s then P.mem.length else P.cls n := rfl
theorem parted_len : (P.parted c s).mem.length = P.mem.length + 1 := by simp [Parts.parted, Parts.opens]
theorem parted_wai : (P.parted c s).wai = P.wai ++ [false] := rfl
theorem parted_work : (P.parted c s).work = P.work := rfl

theorem rest_mem (h : HopI d R P) (hs : SomeOf d R P by_ K c s) (hc : c < P.mem.length) (n : Nat) : n ∈ P.restOf c s ↔ n ∈ R ∧ P.cls n = c ∧ n ∉ s := by
  have hg : P.mem.getD c [] = P.mem[c] := by rw [List.getD_eq_getElem?_getD, List.getElem?_eq_getElem hc]; rfl
  obtain ⟨h1, h2, h3⟩ := h.mem c _ (List.getElem?_eq_getElem hc)
  rw [Parts.restOf, List.mem_filter, hg, h3]
  have e : (P.opens s).cls n = if n ∈ s then P.mem.length else P.cls n := rfl
  rw [e]
  constructor
  · rintro ⟨⟨h4, h5⟩, h6⟩
    refine ⟨h4, h5, fun h7 => ?_⟩
    rw [if_pos h7] at h6
    have := of_decide_eq_true h6
    omega
  · rintro ⟨h4, h5, h6⟩
    exact ⟨⟨h4, h5⟩, by rw [if_neg h6]; simpa using h5⟩
theorem HopI.parted (hd : d.Ok) (hR : Closed d R) (h : HopI d R P) (hb : ByOk d R by_) (hK : K < d.wide) (hs : SomeOf d R P by_ K c s) (hc : c < P.mem.length) (hne : ¬ s.length = (P.mem.getD c []).length) :
    HopI d R (P.parted c s) := by
  have hg : P.mem.getD c [] = P.mem[c] := by rw [List.getD_eq_getElem?_getD, List.getElem?_eq_getElem hc]; rfl
  obtain ⟨g1, g2, g3⟩ := h.mem c _ (List.getElem?_eq_getElem hc)
  have hsub : ∀ n ∈ s, n ∈ P.mem[c] := fun n hn => (g3 n).2 ⟨((hs.mem n).1 hn).1, ((hs.mem n).1 hn).2.1⟩
  have hrest := rest_mem h hs hc
  have hrne : P.restOf c s ≠ [] := fun e => by
    have hall : ∀ n ∈ P.mem[c], n ∈ s := fun n hn => Classical.byContradiction fun hns => by
      have := (hrest n).2 ⟨((g3 n).1 hn).1, ((g3 n).1 hn).2, hns⟩
      rw [e] at this
      cases this
    have l1 := nodup_sub _ _ hs.nod hsub
    have l2 := nodup_sub _ _ g2 hall
    rw [hg] at hne
    omega
  have hclo : ∀ n m, n ∈ R → m ∈ R → d.Eqv n m → n ∈ s → m ∈ s := fun n m hn hm he hns => by
    obtain ⟨-, q1, q2⟩ := (hs.mem n).1 hns
    refine (hs.mem m).2 ⟨hm, ?_, ?_⟩
    · rw [← h.eqv n m hn hm he]; exact q1
    · exact hb.eqv _ _ (hR.nxt n K hn hK) (hR.nxt m K hm hK) (he.next hK) q2
  refine ⟨?_, ?_, ?_, h.nod, ?_, ?_, ?_⟩
  · rw [parted_len, parted_wai]; simp [h.len]
  · intro n hn
    rw [parted_len, parted_cls]
    have := h.cov n hn
    simp only
    split <;> omega
  · intro x t ht
    have hxl : x < P.mem.length + 1 := by have := (List.getElem?_eq_some_iff.1 ht).1; rw [parted_len] at this; exact this
    simp only [Parts.parted, Parts.opens] at ht
    rw [List.getElem?_set] at ht
    by_cases e : c = x
    · subst e
      rw [if_pos rfl, if_pos (by simp; omega)] at ht
      obtain rfl := Option.some.inj ht
      refine ⟨hrne, ?_, fun n => ?_⟩
      · rw [Parts.restOf, hg]; exact g2.filter _
      · rw [hrest n, parted_cls]
        simp only
        constructor
        · rintro ⟨a1, a2, a3⟩; exact ⟨a1, by rw [if_neg a3]; exact a2⟩
        · rintro ⟨a1, a2⟩
          by_cases a3 : n ∈ s
          · rw [if_pos a3] at a2; omega
          · rw [if_neg a3] at a2; exact ⟨a1, a2, a3⟩
    · rw [if_neg e] at ht
      by_cases e2 : x = P.mem.length
      · subst e2
        rw [List.getElem?_append_right (Nat.le_refl _), Nat.sub_self] at ht
        obtain rfl := Option.some.inj ht
        refine ⟨hs.ne, hs.nod, fun n => ?_⟩
        rw [parted_cls]
        simp only
        constructor
        · intro hn; exact ⟨((hs.mem n).1 hn).1, by rw [if_pos hn]⟩
        · rintro ⟨a1, a2⟩
          refine Classical.byContradiction fun a3 => ?_
          rw [if_neg a3] at a2
          have := h.cov n a1
          omega
      · rw [List.getElem?_append_left (by omega)] at ht
        obtain ⟨q1, q2, q3⟩ := h.mem x t ht
        refine ⟨q1, q2, fun n => ?_⟩
        rw [q3, parted_cls]
        simp only
        constructor
        · rintro ⟨a1, a2⟩
          refine ⟨a1, ?_⟩
          rw [if_neg fun a3 => e (((hs.mem n).1 a3).2.1.symm.trans a2)]
          exact a2
        · rintro ⟨a1, a2⟩
          by_cases a3 : n ∈ s
          · rw [if_pos a3] at a2; omega
          · rw [if_neg a3] at a2; exact ⟨a1, a2⟩
  · intro x
    rw [parted_work, parted_wai, h.wk x]
    by_cases e : x < P.wai.length
    · rw [List.getElem?_append_left e]
    · rw [List.getElem?_append_right (by omega)]
      constructor
      · intro h1; have := (List.getElem?_eq_some_iff.1 h1).1; omega
      · intro h1
        have h2 : [false][x - P.wai.length]? = some true := h1
        have h3 := (List.getElem?_eq_some_iff.1 h2).1
        simp at h3
        rw [h3] at h2
        cases h2
  · intro n m hn hm he
    rw [parted_cls]
    simp only
    by_cases a : n ∈ s
    · rw [if_pos a, if_pos (hclo n m hn hm he a)]
    · rw [if_neg a, if_neg fun a2 => a (hclo m n hm hn he.symm a2)]
      exact h.eqv n m hn hm he
  · intro n m hn hm he
    rw [parted_cls] at he
    simp only at he
    by_cases a : n ∈ s
    · rw [if_pos a] at he
      by_cases a2 : m ∈ s
      · exact h.fin n m hn hm (((hs.mem n).1 a).2.1.trans ((hs.mem m).1 a2).2.1.symm)
      · rw [if_neg a2] at he
        have := h.cov m hm
        omega
    · rw [if_neg a] at he
      by_cases a2 : m ∈ s
      · rw [if_pos a2] at he
        have := h.cov n hn
        omega
      · rw [if_neg a2] at he
        exact h.fin n m hn hm he
/-- behind a split, one of both parts waits -/
theorem Hop2.apart (hR : Closed d R) (h : HopI d R P) (h2 : Hop2 d R P by_ K) (hs : SomeOf d R P by_ K c s) (hc : c < P.mem.length) (hne : ¬ s.length = (P.mem.getD c []).length)
    {Q : Parts} (hcls : Q.cls = (P.parted c s).cls) (hkeep : ∀ x : Nat, P.wai[x]? = some true → Q.wai[x]? = some true) (hnew : Q.wai[P.mem.length]? = some true ∨ Q.wai[c]? = some true) (hboth : P.wai[c]? = some true → Q.wai[P.mem.length]? = some true) :
    Hop2 d R Q by_ K := by
  have hpc : Q.cls = fun n => if n ∈ s then P.mem.length else P.cls n := hcls
  have hsc : ∀ n, n ∈ s → P.cls n = c := fun n hn => ((hs.mem n).1 hn).2.1
  have old : ∀ n m, n ∈ R → m ∈ R → Q.cls n = Q.cls m → P.cls n = P.cls m := fun n m hn hm he => by
    rw [hpc] at he
    simp only at he
    by_cases a : n ∈ s <;> by_cases a2 : m ∈ s
    · rw [hsc n a, hsc m a2]
    · rw [if_pos a, if_neg a2] at he; have := h.cov m hm; omega
    · rw [if_neg a, if_pos a2] at he; have := h.cov n hn; omega
    · rw [if_neg a, if_neg a2] at he; exact he
  have up : ∀ n, P.wai[P.cls n]? = some true → Q.wai[Q.cls n]? = some true := fun n hw => by
    rw [hpc]
    simp only
    by_cases a : n ∈ s
    · rw [if_pos a]
      rw [hsc n a] at hw
      exact hboth hw
    · rw [if_neg a]; exact hkeep _ hw
  intro p q hp hq he k hk hx
  by_cases e : P.cls (d.nx p k) = P.cls (d.nx q k)
  · -- put apart by this very split
    rw [hpc] at hx ⊢
    simp only at hx ⊢
    by_cases a : d.nx p k ∈ s
    · have hcp := hsc _ a
      by_cases a2 : d.nx q k ∈ s
      · rw [if_pos a, if_pos a2] at hx; exact absurd rfl hx
      · rw [if_pos a, if_neg a2, ← e, hcp]
        rcases hnew with h3 | h3
        · exact .inl h3
        · exact .inr (.inl h3)
    · by_cases a2 : d.nx q k ∈ s
      · rw [if_neg a, if_pos a2, e, hsc _ a2]
        rcases hnew with h3 | h3
        · exact .inr (.inl h3)
        · exact .inl h3
      · rw [if_neg a, if_neg a2] at hx; exact absurd e hx
  · rcases h2 p q hp hq (old p q hp hq he) k hk e with h3 | h3 | h3
    · exact .inl (up _ h3)
    · exact .inr (.inl (up _ h3))
    · exact .inr (.inr h3)
/-- what a split keeps -/
theorem apart_keeps (hd : d.Ok) (hR : Closed d R) (h : HopI d R P) (h2 : Hop2 d R P by_ K) (hb : ByOk d R by_) (hK : K < d.wide) (hs : SomeOf d R P by_ K c s) (hc : c < P.mem.length) :
    HopI d R (P.apart c s) ∧ Hop2 d R (P.apart c s) by_ K ∧ (∀ n, n ∈ R → P.cls n ≠ c → (P.apart c s).cls n = P.cls n) ∧
      (∀ n, n ∈ R → P.cls n = c → (P.apart c s).cls n = c ∨ (P.apart c s).cls n = P.mem.length) ∧
      (∀ p q, p ∈ R → q ∈ R → P.cls p = c → P.cls q = c → (P.apart c s).cls p = (P.apart c s).cls q → (d.nx p K ∈ by_ ↔ d.nx q K ∈ by_)) ∧
      P.mem.length ≤ (P.apart c s).mem.length ∧ (P.apart c s).work.length + 2 * P.mem.length ≤ P.work.length + 2 * (P.apart c s).mem.length := by
  have hg : P.mem.getD c [] = P.mem[c] := by rw [List.getD_eq_getElem?_getD, List.getElem?_eq_getElem hc]; rfl
  obtain ⟨g1, g2, g3⟩ := h.mem c _ (List.getElem?_eq_getElem hc)
  unfold Parts.apart
  by_cases hne : s.length = (P.mem.getD c []).length
  · rw [if_pos hne]
    have hall : ∀ n, n ∈ R → P.cls n = c → d.nx n K ∈ by_ := fun n hn hcn => by
      have : n ∈ s := same_sub hs.nod g2 (fun x hx => (g3 x).2 ⟨((hs.mem x).1 hx).1, ((hs.mem x).1 hx).2.1⟩) (by rw [← hg]; exact hne) ((g3 n).2 ⟨hn, hcn⟩)
      exact ((hs.mem n).1 this).2.2
    exact ⟨h, h2, fun n _ _ => rfl, fun n _ hn => .inl hn, fun p q hp hq h3 h4 _ => ⟨fun _ => hall q hq h4, fun _ => hall p hp h3⟩, Nat.le_refl _, Nat.le_refl _⟩
  · rw [if_neg hne]
    have hp := h.parted hd hR hb hK hs hc hne
    have key : ∀ x, x < (P.parted c s).mem.length → (x = P.mem.length ∨ (x = c ∧ ¬ P.wai[c]? = some true)) →
        HopI d R ((P.parted c s).wait x) ∧ Hop2 d R ((P.parted c s).wait x) by_ K ∧ (∀ n, n ∈ R → P.cls n ≠ c → ((P.parted c s).wait x).cls n = P.cls n) ∧
          (∀ n, n ∈ R → P.cls n = c → ((P.parted c s).wait x).cls n = c ∨ ((P.parted c s).wait x).cls n = P.mem.length) ∧
          (∀ p q, p ∈ R → q ∈ R → P.cls p = c → P.cls q = c → ((P.parted c s).wait x).cls p = ((P.parted c s).wait x).cls q → (d.nx p K ∈ by_ ↔ d.nx q K ∈ by_)) ∧
          P.mem.length ≤ ((P.parted c s).wait x).mem.length ∧ ((P.parted c s).wait x).work.length + 2 * P.mem.length ≤ P.work.length + 2 * ((P.parted c s).wait x).mem.length := by
      intro x hx hxx
      have hw1 : ∀ y, P.wai[y]? = some true → (P.parted c s).wai[y]? = some true := fun y hy => by
        rw [parted_wai, List.getElem?_append_left (List.getElem?_eq_some_iff.1 hy).1]; exact hy
      have hxl : x < (P.parted c s).wai.length := by rw [hp.len]; exact hx
      refine ⟨hp.wait hx, ?_, ?_, ?_, ?_, ?_, ?_⟩
      · refine Hop2.apart hR h h2 hs hc hne (wait_cls _ _) (fun y hy => wait_keeps (hw1 y hy)) ?_ ?_
        · rcases hxx with rfl | ⟨rfl, _⟩
          · exact .inl (wait_is hxl)
          · exact .inr (wait_is hxl)
        · intro hcw
          rcases hxx with rfl | ⟨rfl, hn⟩
          · exact wait_is hxl
          · exact absurd hcw hn
      · intro n hn hnc
        rw [wait_cls, parted_cls]
        simp only
        rw [if_neg fun a => hnc ((hs.mem n).1 a).2.1]
      · intro n hn hnc
        rw [wait_cls, parted_cls]
        simp only
        split
        · exact .inr rfl
        · exact .inl hnc
      · intro p q hpR hqR h3 h4 he
        rw [wait_cls, parted_cls] at he
        simp only at he
        have hcp := h.cov p hpR
        have hcq := h.cov q hqR
        by_cases a : p ∈ s <;> by_cases a2 : q ∈ s
        · exact ⟨fun _ => ((hs.mem q).1 a2).2.2, fun _ => ((hs.mem p).1 a).2.2⟩
        · rw [if_pos a, if_neg a2] at he; omega
        · rw [if_neg a, if_pos a2] at he; omega
        · exact ⟨fun h5 => absurd ((hs.mem p).2 ⟨hpR, h3, h5⟩) a, fun h5 => absurd ((hs.mem q).2 ⟨hqR, h4, h5⟩) a2⟩
      · rw [wait_mem, parted_len]; omega
      · rw [wait_mem, parted_len]
        have := wait_work (P.parted c s) x
        rw [parted_work] at this
        omega
    by_cases hw : (P.parted c s).wai.getD c false = true ∨ s.length ≤ (P.restOf c s).length
    · rw [if_pos hw]
      exact key _ (by rw [parted_len]; omega) (.inl rfl)
    · rw [if_neg hw]
      refine key _ (by rw [parted_len]; omega) (.inr ⟨rfl, fun h3 => hw (.inl ?_)⟩)
      rw [getD_true, parted_wai, List.getElem?_append_left (List.getElem?_eq_some_iff.1 h3).1]
      exact h3
end
/-- nothing waits: the classes are what words tell apart -/
theorem hop_end {d : Aut} {R : List Nat} {P : Parts} {by_ : List Nat} {K : Nat} (hR : Closed d R) (h : HopI d R P) (h2 : Hop2 d R P by_ K) (hK : d.wide ≤ K) (hw : P.work = []) {p q : Nat} (hp : p ∈ R) (hq : q ∈ R) : P.cls p = P.cls q ↔ d.Eqv p q := by
  refine ⟨fun he => ?_, h.eqv p q hp hq⟩
  have nw : ∀ c, ¬ P.wai[c]? = some true := fun c hc => by
    have := (h.wk c).2 hc
    rw [hw] at this
    cases this
  refine Aut.Eqv.of_stable (S := fun p q => p ∈ R ∧ q ∈ R ∧ P.cls p = P.cls q) (fun p q h3 => h.fin p q h3.1 h3.2.1 h3.2.2) (fun p q k h3 hk => ⟨hR.nxt p k h3.1 hk, hR.nxt q k h3.2.1 hk, ?_⟩) ⟨hp, hq, he⟩
  refine Classical.byContradiction fun hne => ?_
  rcases h2 p q h3.1 h3.2.1 h3.2.2 k hk hne with h4 | h4 | h4
  · exact nw _ h4
  · exact nw _ h4
  · omega
end Go.Proofs.YtmmlakheimfijaaGreatDoor
namespace Go.Proofs.YtmmlakheimfijaaGreatDoor
set_option linter.unusedVariables false
set_option linter.unusedSimpArgs false

def Parts.pop (P : Parts) (w : List Nat) (c : Nat) : Parts := { P with wai := P.wai.set c false, work := w }
theorem pop_keeps {d : Aut} {R : List Nat} {P : Parts} {b0 : List Nat} {K : Nat} {w : List Nat} {c : Nat} (h : HopI d R P) (h2 : Hop2 d R P b0 K) (hK : d.wide ≤ K) (hR : Closed d R) (hw : P.work = w ++ [c]) :
    c < P.mem.length ∧ HopI d R (P.pop w c) ∧ Hop2 d R (P.pop w c) (P.mem.getD c []) 0 ∧ ByOk d R (P.mem.getD c []) ∧ (P.mem.getD c []).Nodup := by
  have hcw : c ∈ P.work := by rw [hw]; simp
  have hcl : c < P.mem.length := by
    have := (h.wk c).1 hcw
    have := (List.getElem?_eq_some_iff.1 this).1
    rw [h.len] at this; exact this
  have hg : P.mem.getD c [] = P.mem[c] := by rw [List.getD_eq_getElem?_getD, List.getElem?_eq_getElem hcl]; rfl
  obtain ⟨g1, g2, g3⟩ := h.mem c _ (List.getElem?_eq_getElem hcl)
  have hnod := h.nod
  rw [hw, List.nodup_append] at hnod
  have hcn : c ∉ w := fun hm => hnod.2.2 c hm c (by simp) rfl
  have wai' : ∀ x, (P.pop w c).wai[x]? = some true ↔ x ≠ c ∧ P.wai[x]? = some true := fun x => by
    show (P.wai.set c false)[x]? = some true ↔ _
    rw [List.getElem?_set]
    by_cases e : c = x
    · subst e
      rw [if_pos rfl]
      constructor
      · intro h3; split at h3 <;> cases h3
      · intro h3; exact absurd rfl h3.1
    · rw [if_neg e]
      exact ⟨fun h3 => ⟨fun e2 => e e2.symm, h3⟩, fun h3 => h3.2⟩
  refine ⟨hcl, ⟨by simp [Parts.pop, h.len], h.cov, h.mem, hnod.1, fun x => ?_, h.eqv, h.fin⟩, ?_, ⟨?_, ?_⟩, ?_⟩
  · rw [wai' x, ← h.wk x, hw]
    show x ∈ w ↔ _
    constructor
    · intro hx; exact ⟨fun e => hcn (e ▸ hx), by simp [hx]⟩
    · rintro ⟨h3, h4⟩
      rcases List.mem_append.1 h4 with h5 | h5
      · exact h5
      · exact absurd (by simpa using h5) h3
  · intro p q hp hq he k hk hx
    have hpn := hR.nxt p k hp hk
    have hqn := hR.nxt q k hq hk
    have hb : ∀ n, n ∈ R → (n ∈ P.mem.getD c [] ↔ P.cls n = c) := fun n hn => by rw [hg, g3]; exact ⟨fun h3 => h3.2, fun h3 => ⟨hn, h3⟩⟩
    have hx' : P.cls (d.nx p k) ≠ P.cls (d.nx q k) := hx
    rw [wai', wai']
    show _ ∨ _ ∨ _
    by_cases e1 : P.cls (d.nx p k) = c
    · right; right
      refine ⟨Nat.zero_le _, fun h3 => ?_⟩
      have := (hb _ hqn).1 (h3.1 ((hb _ hpn).2 e1))
      exact hx' (e1.trans this.symm)
    · by_cases e2 : P.cls (d.nx q k) = c
      · right; right
        refine ⟨Nat.zero_le _, fun h3 => ?_⟩
        have := (hb _ hpn).1 (h3.2 ((hb _ hqn).2 e2))
        exact hx' (this.trans e2.symm)
      · rcases h2 p q hp hq he k hk hx' with h3 | h3 | h3
        · exact .inl ⟨e1, h3⟩
        · exact .inr (.inl ⟨e2, h3⟩)
        · omega
  · intro n hn
    rw [hg] at hn
    exact ((g3 n).1 hn).1
  · intro n m hn hm he hb
    rw [hg, g3] at hb ⊢
    exact ⟨hm, (h.eqv n m hn hm he).symm.trans hb.2⟩
  · rw [hg]; exact g2

def applyAll (F : Nat → List Nat) : List Nat → Parts → Parts
  | [], P => P
  | a :: os, P => applyAll F os (P.apart a (F a))
/-- what holds while the classes met are put apart -/
structure OrdI (d : Aut) (R : List Nat) (by_ : List Nat) (K : Nat) (F : Nat → List Nat) (P : Parts) (os : List Nat) : Prop where
  inv : HopI d R P
  two : Hop2 d R P by_ K
  some_ : ∀ a ∈ os, a < P.mem.length ∧ SomeOf d R P by_ K a (F a)
  done : ∀ p q, p ∈ R → q ∈ R → P.cls p = P.cls q → P.cls p ∉ os → (d.nx p K ∈ by_ ↔ d.nx q K ∈ by_)
  nod : os.Nodup
theorem OrdI.step {d : Aut} {R by_ : List Nat} {K : Nat} {F : Nat → List Nat} {P : Parts} {a : Nat} {os : List Nat} (hd : d.Ok) (hR : Closed d R) (hb : ByOk d R by_) (hK : K < d.wide) (h : OrdI d R by_ K F P (a :: os)) :
    OrdI d R by_ K F (P.apart a (F a)) os ∧ P.mem.length ≤ (P.apart a (F a)).mem.length ∧ (P.apart a (F a)).work.length + 2 * P.mem.length ≤ P.work.length + 2 * (P.apart a (F a)).mem.length := by
  obtain ⟨ha, hs⟩ := h.some_ a (by simp)
  obtain ⟨k1, k2, k3, k4, k5, k6, k7⟩ := apart_keeps hd hR h.inv h.two hb hK hs ha
  have hnod := List.nodup_cons.1 h.nod
  refine ⟨⟨k1, k2, fun x hx => ?_, fun p q hp hq he hn => ?_, hnod.2⟩, k6, k7⟩
  · obtain ⟨hx1, hx2⟩ := h.some_ x (by simp [hx])
    have hxa : x ≠ a := fun e => hnod.1 (e ▸ hx)
    refine ⟨by omega, hx2.nod, hx2.ne, fun n => ?_⟩
    rw [hx2.mem]
    constructor
    · rintro ⟨h1, h2, h3⟩
      exact ⟨h1, by rw [k3 n h1 (by rw [h2]; exact hxa)]; exact h2, h3⟩
    · rintro ⟨h1, h2, h3⟩
      refine ⟨h1, ?_, h3⟩
      by_cases e : P.cls n = a
      · rcases k4 n h1 e with h4 | h4 <;> omega
      · rw [← k3 n h1 e]; exact h2
  · have hcp := h.inv.cov p hp
    have hcq := h.inv.cov q hq
    by_cases e1 : P.cls p = a
    · by_cases e2 : P.cls q = a
      · exact k5 p q hp hq e1 e2 he
      · have h5 := k3 q hq e2
        rcases k4 p hp e1 with h4 | h4 <;> omega
    · have h5 := k3 p hp e1
      by_cases e2 : P.cls q = a
      · rcases k4 q hq e2 with h4 | h4 <;> omega
      · have h6 := k3 q hq e2
        refine h.done p q hp hq (by omega) fun hm => ?_
        rcases List.mem_cons.1 hm with h7 | h7
        · exact e1 h7
        · exact hn (by rw [h5]; exact h7)
theorem OrdI.finish {d : Aut} {R by_ : List Nat} {K : Nat} {F : Nat → List Nat} {P : Parts} (h : OrdI d R by_ K F P []) : Hop2 d R P by_ (K + 1) := by
  intro p q hp hq he k hk hx
  rcases h.two p q hp hq he k hk hx with h3 | h3 | h3
  · exact .inl h3
  · exact .inr (.inl h3)
  · refine .inr (.inr ⟨?_, h3.2⟩)
    rcases Nat.lt_or_ge K k with h4 | h4
    · omega
    · obtain rfl : K = k := by omega
      exact absurd (h.done p q hp hq he (by simp)) h3.2

/-! what block K leads into the class that is handled -/
def fromL (d : Aut) (R : List Nat) (K m : Nat) : List Nat := R.filter fun n => decide (d.nx n K = m)
def intoL (d : Aut) (R : List Nat) (K : Nat) (by_ : List Nat) : List Nat := by_.flatMap (fromL d R K)
theorem intoL_mem {d : Aut} {R by_ : List Nat} {K n : Nat} : n ∈ intoL d R K by_ ↔ n ∈ R ∧ d.nx n K ∈ by_ := by
  simp only [intoL, List.mem_flatMap, fromL, List.mem_filter, decide_eq_true_eq]
  exact ⟨fun ⟨m, h1, h2, h3⟩ => ⟨h2, h3 ▸ h1⟩, fun ⟨h1, h2⟩ => ⟨_, h2, h1, rfl⟩⟩
theorem intoL_nodup {d : Aut} {R : List Nat} {K : Nat} (hR : R.Nodup) : ∀ {by_ : List Nat}, by_.Nodup → (intoL d R K by_).Nodup
  | [], _ => by simp [intoL]
  | m :: by_, h => by
    have h' := List.nodup_cons.1 h
    show (fromL d R K m ++ intoL d R K by_).Nodup
    rw [List.nodup_append]
    refine ⟨hR.filter _, intoL_nodup hR h'.2, fun a ha b hb e => ?_⟩
    subst e
    have h1 : d.nx a K = m := by simpa using (List.mem_filter.1 ha).2
    exact h'.1 (h1 ▸ (intoL_mem.1 hb).2)
/-- the classes met, in the order in which they come; of each what was met -/
def addN (o : List Nat) (x : Nat) : List Nat := if x ∈ o then o else o ++ [x]
def orderL (cls : Nat → Nat) (l : List Nat) : List Nat := l.foldl (fun o n => addN o (cls n)) []
def metL (cls : Nat → Nat) (l : List Nat) (a : Nat) : List Nat := l.filter fun n => decide (cls n = a)
theorem addN_mem {o : List Nat} {x y : Nat} : y ∈ addN o x ↔ y ∈ o ∨ y = x := by
  unfold addN
  split
  · rename_i h
    exact ⟨.inl, fun h1 => h1.elim id fun e => e ▸ h⟩
  · simp
theorem addN_nodup {o : List Nat} {x : Nat} (h : o.Nodup) : (addN o x).Nodup := by
  unfold addN
  split
  · exact h
  · rename_i hx
    rw [List.nodup_append]
    refine ⟨h, by simp, fun a ha b hb e => ?_⟩
    simp at hb
    subst e hb
    exact hx ha
theorem fold_mem (cls : Nat → Nat) : ∀ (l o : List Nat) (y : Nat), y ∈ l.foldl (fun o n => addN o (cls n)) o ↔ y ∈ o ∨ ∃ n ∈ l, cls n = y
  | [], o, y => by simp
  | n :: l, o, y => by
    rw [List.foldl_cons, fold_mem cls l, addN_mem]
    constructor
    · rintro ((h | h) | ⟨m, h1, h2⟩)
      · exact .inl h
      · exact .inr ⟨n, by simp, h.symm⟩
      · exact .inr ⟨m, by simp [h1], h2⟩
    · rintro (h | ⟨m, h1, h2⟩)
      · exact .inl (.inl h)
      · rcases List.mem_cons.1 h1 with rfl | h1
        · exact .inl (.inr h2.symm)
        · exact .inr ⟨m, h1, h2⟩
theorem fold_nodup (cls : Nat → Nat) : ∀ (l o : List Nat), o.Nodup → (l.foldl (fun o n => addN o (cls n)) o).Nodup
  | [], o, h => h
  | n :: l, o, h => fold_nodup cls l _ (addN_nodup h)
theorem order_start {d : Aut} {R by_ : List Nat} {K : Nat} {P : Parts} (hRn : R.Nodup) (h : HopI d R P) (h2 : Hop2 d R P by_ K) (hb : by_.Nodup) :
    OrdI d R by_ K (metL P.cls (intoL d R K by_)) P (orderL P.cls (intoL d R K by_)) := by
  refine ⟨h, h2, fun a ha => ?_, fun p q hp hq he hn => ?_, fold_nodup _ _ _ (by simp)⟩
  · obtain ⟨n, hn, rfl⟩ : ∃ n ∈ intoL d R K by_, P.cls n = a := by
      rcases (fold_mem P.cls _ _ a).1 ha with h3 | h3
      · cases h3
      · exact h3
    refine ⟨h.cov n (intoL_mem.1 hn).1, (intoL_nodup hRn hb).filter _, fun e => ?_, fun m => ?_⟩
    · have : n ∈ metL P.cls (intoL d R K by_) (P.cls n) := List.mem_filter.2 ⟨hn, by simp⟩
      rw [e] at this
      cases this
    · rw [metL, List.mem_filter, intoL_mem]
      simp only [decide_eq_true_eq]
      exact ⟨fun ⟨⟨h3, h4⟩, h5⟩ => ⟨h3, h5, h4⟩, fun ⟨h3, h4, h5⟩ => ⟨⟨h3, h5⟩, h4⟩⟩
  · have no : ∀ x, x ∈ R → P.cls x = P.cls p → ¬ d.nx x K ∈ by_ := fun x hx hc hm =>
      hn ((fold_mem P.cls _ _ _).2 (.inr ⟨x, intoL_mem.2 ⟨hx, hm⟩, hc⟩))
    exact ⟨fun h3 => absurd h3 (no p hp rfl), fun h3 => absurd h3 (no q hq he.symm)⟩
end Go.Proofs.YtmmlakheimfijaaGreatDoor
namespace Go.Proofs.YtmmlakheimfijaaGreatDoor
set_option linter.unusedVariables false
set_option linter.unusedSimpArgs false

section
variable {α β : Type}
def addR (E : α → α → Bool) (o : List α) (x : α) : List α := if o.any (E x) = true then o else o ++ [x]
def idxR (E : α → α → Bool) (o : List α) (x : α) : Nat := o.findIdx (E x)
def bfs (add : List α → α → List α) (f : α → List α) : Nat → Nat → List α → List α
  | 0, _, o => o
  | n + 1, i, o => match o[i]? with
    | none => o
    | some x => bfs add f n (i + 1) ((f x).foldl add o)

theorem addR_pre (E : α → α → Bool) (o : List α) (x : α) : ∃ t, addR E o x = o ++ t := by
  unfold addR; split
  · exact ⟨[], by simp⟩
  · exact ⟨[x], rfl⟩
theorem foldR_pre (E : α → α → Bool) : ∀ (l o : List α), ∃ t, l.foldl (addR E) o = o ++ t
  | [], o => ⟨[], by simp⟩
  | x :: l, o => by
    obtain ⟨t, ht⟩ := addR_pre E o x
    obtain ⟨t', ht'⟩ := foldR_pre E l (addR E o x)
    exact ⟨t ++ t', by rw [List.foldl_cons, ht', ht, List.append_assoc]⟩
theorem bfs_pre (E : α → α → Bool) (f : α → List α) : ∀ (n i : Nat) (o : List α), ∃ t, bfs (addR E) f n i o = o ++ t
  | 0, i, o => ⟨[], by simp [bfs]⟩
  | n + 1, i, o => by
    rw [bfs]
    cases ho : o[i]? with
    | none => exact ⟨[], by simp⟩
    | some x =>
      simp only
      obtain ⟨t, ht⟩ := foldR_pre E (f x) o
      obtain ⟨t', ht'⟩ := bfs_pre E f n (i + 1) ((f x).foldl (addR E) o)
      exact ⟨t ++ t', by rw [ht', ht, List.append_assoc]⟩
/-- who was in is found again at the same place -/
theorem idxR_pre {E : α → α → Bool} {o : List α} {x : α} (t : List α) (h : o.any (E x) = true) : idxR E (o ++ t) x = idxR E o x := by
  have hl : o.findIdx (E x) < o.length := List.findIdx_lt_length.2 (by simpa using List.any_eq_true.1 h)
  unfold idxR
  rw [List.findIdx_append, if_pos hl]
theorem idxR_lt {E : α → α → Bool} {o : List α} {x : α} (h : o.any (E x) = true) : idxR E o x < o.length :=
  List.findIdx_lt_length.2 (by simpa using List.any_eq_true.1 h)
theorem idxR_at {E : α → α → Bool} {o : List α} {x y : α} (h : o.any (E x) = true) (hy : o[idxR E o x]? = some y) : E x y = true := by
  obtain ⟨h1, rfl⟩ := List.getElem?_eq_some_iff.1 hy
  exact List.findIdx_getElem (w := h1)
theorem idxR_new {E : α → α → Bool} {o : List α} {x : α} (hx : E x x = true) (t : List α) (h : ¬ o.any (E x) = true) : idxR E (o ++ x :: t) x = o.length := by
  have hl : o.findIdx (E x) = o.length := List.findIdx_eq_length.2 fun y hy => by
    cases he : E x y with
    | false => rfl
    | true => exact absurd (List.any_eq_true.2 ⟨y, hy, he⟩) h
  unfold idxR
  rw [List.findIdx_append, if_neg (by omega), List.findIdx_cons, hx]
  simp
theorem addR_any {E : α → α → Bool} {o : List α} {x : α} (hx : E x x = true) : (addR E o x).any (E x) = true := by
  unfold addR; split
  · assumption
  · simp [hx]
theorem any_pre {o : List α} {p : α → Bool} (t : List α) (h : o.any p = true) : (o ++ t).any p = true := by
  rw [List.any_append, h]; rfl
theorem foldR_any {E : α → α → Bool} (hE : ∀ x, E x x = true) : ∀ (l o : List α), ∀ x ∈ l, (l.foldl (addR E) o).any (E x) = true
  | y :: l, o, x, hx => by
    rw [List.foldl_cons]
    rcases List.mem_cons.1 hx with rfl | hx
    · obtain ⟨t, ht⟩ := foldR_pre E l (addR E o x)
      rw [ht]; exact any_pre t (addR_any (hE x))
    · exact foldR_any hE l _ x hx
/-- the first i are handled -/
def Handled (E : α → α → Bool) (f : α → List α) (i : Nat) (o : List α) : Prop := ∀ j x, j < i → o[j]? = some x → ∀ y ∈ f x, o.any (E y) = true
theorem Handled.pre {E : α → α → Bool} {f : α → List α} {i : Nat} {o : List α} (h : Handled E f i o) (hi : i ≤ o.length) (t : List α) : Handled E f i (o ++ t) := fun j x hj hx y hy => by
  rw [List.getElem?_append_left (by omega)] at hx
  exact any_pre t (h j x hj hx y hy)
theorem Handled.step {E : α → α → Bool} (hE : ∀ x, E x x = true) {f : α → List α} {i : Nat} {o : List α} {x : α} (h : Handled E f i o) (hx : o[i]? = some x) : Handled E f (i + 1) ((f x).foldl (addR E) o) := by
  have hi := (List.getElem?_eq_some_iff.1 hx).1
  obtain ⟨t, ht⟩ := foldR_pre E (f x) o
  intro j y hj hy z hz
  by_cases e : j = i
  · subst e
    rw [ht, List.getElem?_append_left hi, hx] at hy
    obtain rfl := Option.some.inj hy
    exact foldR_any hE _ _ z hz
  · rw [ht] at hy ⊢
    exact h.pre (by omega) t j y (by omega) hy z hz
/-- enough steps: all are handled -/
theorem bfs_handled {E : α → α → Bool} (hE : ∀ x, E x x = true) (f : α → List α) : ∀ (n i : Nat) (o : List α), Handled E f i o → i ≤ o.length → (bfs (addR E) f n i o).length < i + n →
    Handled E f (bfs (addR E) f n i o).length (bfs (addR E) f n i o)
  | 0, i, o, h, hi, hl => by simp [bfs] at hl; omega
  | n + 1, i, o, h, hi, hl => by
    rw [bfs] at hl ⊢
    cases ho : o[i]? with
    | none =>
      have := List.getElem?_eq_none_iff.1 ho
      obtain rfl : i = o.length := by omega
      exact h
    | some x =>
      rw [ho] at hl
      simp only at hl ⊢
      have hi' := (List.getElem?_eq_some_iff.1 ho).1
      obtain ⟨t, ht⟩ := foldR_pre E (f x) o
      exact bfs_handled hE f n (i + 1) _ (h.step hE ho) (by rw [ht]; simp; omega) (by omega)
/-- more steps change nothing -/
theorem bfs_more {add : List α → α → List α} (f : α → List α) : ∀ (n m i : Nat) (o : List α), (∀ l o : List α, o.length ≤ (l.foldl add o).length) → i ≤ o.length → (bfs add f n i o).length < i + n → bfs add f (n + m) i o = bfs add f n i o
  | 0, m, i, o, hadd, hi, hl => by simp [bfs] at hl; omega
  | n + 1, m, i, o, hadd, hi, hl => by
    rw [show n + 1 + m = (n + m) + 1 by omega, bfs, bfs]
    rw [bfs] at hl
    cases ho : o[i]? with
    | none => rfl
    | some x =>
      rw [ho] at hl
      simp only at hl ⊢
      have hi' := (List.getElem?_eq_some_iff.1 ho).1
      exact bfs_more f n m (i + 1) _ hadd (by have := hadd (f x) o; omega) (by omega)
theorem foldR_len (E : α → α → Bool) (l o : List α) : o.length ≤ (l.foldl (addR E) o).length := by
  obtain ⟨t, ht⟩ := foldR_pre E l o
  rw [ht]; simp

/-! the same, seen through a map -/
theorem addR_map {E : α → α → Bool} {E' : β → β → Bool} (g : α → β) {o : List α} {x : α} (h : ∀ y ∈ o, E x y = E' (g x) (g y)) : (addR E o x).map g = addR E' (o.map g) (g x) := by
  have : o.any (E x) = (o.map g).any (E' (g x)) := by
    rw [List.any_map]
    apply Bool.eq_iff_iff.2
    simp only [List.any_eq_true, Function.comp]
    exact ⟨fun ⟨y, h1, h2⟩ => ⟨y, h1, by rw [← h y h1]; exact h2⟩, fun ⟨y, h1, h2⟩ => ⟨y, h1, by rw [h y h1]; exact h2⟩⟩
  unfold addR
  rw [← this]
  split
  · rfl
  · simp
theorem addR_in {E : α → α → Bool} {S : α → Prop} {o : List α} {x : α} (ho : ∀ y ∈ o, S y) (hx : S x) : ∀ y ∈ addR E o x, S y := by
  unfold addR; split
  · exact ho
  · intro y hy
    rcases List.mem_append.1 hy with h | h
    · exact ho y h
    · obtain rfl := List.mem_singleton.1 h; exact hx
theorem foldR_in {E : α → α → Bool} {S : α → Prop} : ∀ (l o : List α), (∀ y ∈ o, S y) → (∀ y ∈ l, S y) → ∀ y ∈ l.foldl (addR E) o, S y
  | [], o, ho, _ => ho
  | x :: l, o, ho, hl => foldR_in l _ (addR_in ho (hl x (by simp))) fun y hy => hl y (by simp [hy])
theorem foldR_map {E : α → α → Bool} {E' : β → β → Bool} (g : α → β) {S : α → Prop} (h : ∀ x y, S x → S y → E x y = E' (g x) (g y)) : ∀ (l o : List α), (∀ y ∈ o, S y) → (∀ y ∈ l, S y) → (l.foldl (addR E) o).map g = (l.map g).foldl (addR E') (o.map g)
  | [], o, _, _ => rfl
  | x :: l, o, ho, hl => by
    have hx := hl x (by simp)
    rw [List.foldl_cons, List.map_cons, List.foldl_cons, foldR_map g h l _ (addR_in ho hx) fun y hy => hl y (by simp [hy]), addR_map g fun y hy => h x y hx (ho y hy)]
theorem bfs_in {E : α → α → Bool} {S : α → Prop} {f : α → List α} (hf : ∀ x, S x → ∀ y ∈ f x, S y) : ∀ (n i : Nat) (o : List α), (∀ y ∈ o, S y) → ∀ y ∈ bfs (addR E) f n i o, S y
  | 0, i, o, ho => ho
  | n + 1, i, o, ho => by
    rw [bfs]
    cases hx : o[i]? with
    | none => exact ho
    | some x => exact bfs_in hf n (i + 1) _ (foldR_in _ _ ho (hf x (ho x (List.mem_of_getElem? hx))))
theorem bfs_map {E : α → α → Bool} {E' : β → β → Bool} (g : α → β) {S : α → Prop} (h : ∀ x y, S x → S y → E x y = E' (g x) (g y)) {f : α → List α} {f' : β → List β} (hf : ∀ x, S x → ∀ y ∈ f x, S y) (hff : ∀ x, S x → (f x).map g = f' (g x)) :
    ∀ (n i : Nat) (o : List α), (∀ y ∈ o, S y) → (bfs (addR E) f n i o).map g = bfs (addR E') f' n i (o.map g)
  | 0, i, o, ho => rfl
  | n + 1, i, o, ho => by
    rw [bfs, bfs, List.getElem?_map]
    cases hx : o[i]? with
    | none => rfl
    | some x =>
      have hS := ho x (List.mem_of_getElem? hx)
      simp only [Option.map_some]
      rw [bfs_map g h hf hff n (i + 1) _ (foldR_in _ _ ho (hf x hS)), foldR_map g h _ _ ho (hf x hS), hff x hS]
theorem idxR_map {E : α → α → Bool} {E' : β → β → Bool} (g : α → β) {o : List α} {x : α} (h : ∀ y ∈ o, E x y = E' (g x) (g y)) : idxR E' (o.map g) (g x) = idxR E o x := by
  unfold idxR
  rw [List.findIdx_map]
  induction o with
  | nil => rfl
  | cons a o ih =>
    rw [List.findIdx_cons, List.findIdx_cons, ih fun y hy => h y (by simp [hy]), Function.comp, h a (by simp)]
/-- no two of them are alike -/
theorem addR_apart {E : α → α → Bool} {o : List α} {x : α} (h : o.Pairwise fun a b => E b a = false) : (addR E o x).Pairwise fun a b => E b a = false := by
  unfold addR; split
  · exact h
  · rename_i hx
    rw [List.pairwise_append]
    refine ⟨h, List.pairwise_singleton _ _, fun a ha b hb => ?_⟩
    obtain rfl := List.mem_singleton.1 hb
    cases he : E b a with
    | false => rfl
    | true => exact absurd (List.any_eq_true.2 ⟨a, ha, he⟩) hx
theorem foldR_apart {E : α → α → Bool} : ∀ (l o : List α), (o.Pairwise fun a b => E b a = false) → (l.foldl (addR E) o).Pairwise fun a b => E b a = false
  | [], o, h => h
  | x :: l, o, h => foldR_apart l _ (addR_apart h)
theorem bfs_apart {E : α → α → Bool} (f : α → List α) : ∀ (n i : Nat) (o : List α), (o.Pairwise fun a b => E b a = false) → (bfs (addR E) f n i o).Pairwise fun a b => E b a = false
  | 0, i, o, h => h
  | n + 1, i, o, h => by
    rw [bfs]
    cases hx : o[i]? with
    | none => exact h
    | some x => exact bfs_apart f n (i + 1) _ (foldR_apart _ _ h)
end
end Go.Proofs.YtmmlakheimfijaaGreatDoor
namespace Go.Proofs.YtmmlakheimfijaaGreatDoor
set_option linter.unusedVariables false
set_option linter.unusedSimpArgs false

abbrev Lang := List Nat → Bool
def Bytes (w : List Nat) : Prop := ∀ b ∈ w, b < 256
theorem Bytes.app {u v : List Nat} (hu : Bytes u) (hv : Bytes v) : Bytes (u ++ v) := fun b hb => (List.mem_append.1 hb).elim (hu b) (hv b)
theorem Bytes.one {b : Nat} (h : b < 256) : Bytes [b] := fun c hc => by obtain rfl := List.mem_singleton.1 hc; exact h
theorem Bytes.nil : Bytes [] := fun b hb => by cases hb
def EqL (L : Lang) (u v : List Nat) : Prop := ∀ w, Bytes w → L (u ++ w) = L (v ++ w)
def EqB (L : Lang) (b c : Nat) : Prop := ∀ u, Bytes u → EqL L (u ++ [b]) (u ++ [c])
open Classical in
noncomputable def eqL (L : Lang) (u v : List Nat) : Bool := decide (EqL L u v)
open Classical in
noncomputable def eqB (L : Lang) (b c : Nat) : Bool := decide (EqB L b c)
theorem eqL_iff {L : Lang} {u v : List Nat} : eqL L u v = true ↔ EqL L u v := by simp [eqL]
theorem eqB_iff {L : Lang} {b c : Nat} : eqB L b c = true ↔ EqB L b c := by simp [eqB]
theorem eqL_refl (L : Lang) (u : List Nat) : eqL L u u = true := eqL_iff.2 fun w _ => rfl
theorem eqB_refl (L : Lang) (b : Nat) : eqB L b b = true := eqB_iff.2 fun u _ w _ => rfl
/-- the bytes (hidden: the checker is not to count them) -/
noncomputable def byteN : Nat := Classical.choose (⟨256, rfl⟩ : ∃ n, n = 256)
theorem byteN_eq : byteN = 256 := Classical.choose_spec (⟨256, rfl⟩ : ∃ n, n = 256)
noncomputable def bytesL (L : Lang) : List Nat := (List.range byteN).foldl (addR (eqB L)) []
noncomputable def nextL (L : Lang) (u : List Nat) : List (List Nat) := (bytesL L).map fun b => u ++ [b]
/-- steps enough (hidden: the checker is not to count them) -/
noncomputable def fuelL : Nat := Classical.choose (⟨5000, rfl⟩ : ∃ n, n = 5000)
theorem fuelL_eq : fuelL = 5000 := Classical.choose_spec (⟨5000, rfl⟩ : ∃ n, n = 5000)
noncomputable def statesL (L : Lang) : List (List Nat) := bfs (addR (eqL L)) (nextL L) fuelL 0 [[]]
noncomputable def blockL (L : Lang) (b : Nat) : Nat := idxR (eqB L) (bytesL L) b
noncomputable def stepL (L : Lang) (i k : Nat) : Nat := idxR (eqL L) (statesL L) ((statesL L).getD i [] ++ [(bytesL L).getD k 0])
noncomputable def finL (L : Lang) (i : Nat) : Bool := L ((statesL L).getD i [])

theorem bytesL_in (L : Lang) : ∀ b ∈ bytesL L, b < 256 := foldR_in (S := fun b => b < 256) _ _ (fun b hb => by cases hb) fun b hb => by simpa [byteN_eq] using hb
theorem bytesL_any (L : Lang) {b : Nat} (hb : b < 256) : (bytesL L).any (eqB L b) = true := foldR_any (eqB_refl L) _ _ b (by simpa [byteN_eq] using hb)
theorem nextL_in (L : Lang) {u : List Nat} (hu : Bytes u) : ∀ v ∈ nextL L u, Bytes v := fun v hv => by
  obtain ⟨b, hb, rfl⟩ := List.mem_map.1 hv
  exact hu.app (.one (bytesL_in L b hb))
theorem statesL_in (L : Lang) : ∀ u ∈ statesL L, Bytes u := bfs_in (S := Bytes) (fun u hu => nextL_in L hu) _ _ _ fun u hu => by obtain rfl := List.mem_singleton.1 hu; exact .nil
theorem EqL.symm {L : Lang} {u v : List Nat} (h : EqL L u v) : EqL L v u := fun w hw => (h w hw).symm
theorem EqL.trans {L : Lang} {u v x : List Nat} (h : EqL L u v) (h' : EqL L v x) : EqL L u x := fun w hw => (h w hw).trans (h' w hw)
theorem EqL.app {L : Lang} {u v w : List Nat} (h : EqL L u v) (hw : Bytes w) : EqL L (u ++ w) (v ++ w) := fun x hx => by
  rw [List.append_assoc, List.append_assoc]; exact h _ (hw.app hx)

/-! an automaton over bytes -/
structure Aut.Blk (d : Aut) (blk : Nat → Nat) : Prop where
  lt : ∀ b, b < 256 → blk b < d.wide
  onto : ∀ k, k < d.wide → ∃ b, b < 256 ∧ blk b = k
namespace Aut
variable {d : Aut} {blk : Nat → Nat}
def at_ (d : Aut) (blk : Nat → Nat) (u : List Nat) : Nat := d.run d.start (u.map blk)
def lang (d : Aut) (blk : Nat → Nat) : Lang := fun u => d.fin (d.at_ blk u)
theorem word_of (hb : d.Blk blk) {u : List Nat} (hu : Bytes u) : d.Word (u.map blk) := fun k hk => by
  obtain ⟨b, h1, rfl⟩ := List.mem_map.1 hk
  exact hb.lt b (hu b h1)
theorem word_to (hb : d.Blk blk) : ∀ {ws : List Nat}, d.Word ws → ∃ u, Bytes u ∧ u.map blk = ws
  | [], _ => ⟨[], .nil, rfl⟩
  | k :: ws, h => by
    obtain ⟨u, h1, h2⟩ := word_to hb (ws := ws) fun j hj => h j (by simp [hj])
    obtain ⟨b, h3, h4⟩ := hb.onto k (h k (by simp))
    exact ⟨b :: u, fun c hc => by rcases List.mem_cons.1 hc with rfl | hc; exact h3; exact h1 c hc, by simp [h2, h4]⟩
theorem at_lt (hd : d.Ok) (hb : d.Blk blk) {u : List Nat} (hu : Bytes u) : d.at_ blk u < d.many := run_in hd _ _ hd.st (word_of hb hu)
theorem at_app (u : List Nat) (b : Nat) : d.at_ blk (u ++ [b]) = d.nx (d.at_ blk u) (blk b) := by simp [at_, run]
theorem eqv_at (hb : d.Blk blk) (u v : List Nat) : EqL (d.lang blk) u v ↔ d.Eqv (d.at_ blk u) (d.at_ blk v) := by
  constructor
  · intro h ws hw
    obtain ⟨w, h1, rfl⟩ := word_to hb hw
    have := h w h1
    simpa [lang, at_, run_app] using this
  · intro h w hw
    have := h _ (word_of hb hw)
    simpa [lang, at_, run_app] using this
theorem eqb_at (hb : d.Blk blk) (b c : Nat) : EqB (d.lang blk) b c ↔ ∀ u, Bytes u → d.Eqv (d.nx (d.at_ blk u) (blk b)) (d.nx (d.at_ blk u) (blk c)) := by
  unfold EqB
  constructor
  · intro h u hu
    have := (eqv_at hb _ _).1 (h u hu)
    rwa [at_app, at_app] at this
  · intro h u hu
    refine (eqv_at hb _ _).2 ?_
    rw [at_app, at_app]
    exact h u hu
/-- there are no more states than the automaton has -/
theorem states_le (hd : d.Ok) (hb : d.Blk blk) {l : List (List Nat)} (hl : ∀ u ∈ l, Bytes u) (ha : l.Pairwise fun a b => eqL (d.lang blk) b a = false) : l.length ≤ d.many := by
  have := nodup_sub (l.map (d.at_ blk)) (List.range d.many) ?_ ?_
  · simpa using this
  · rw [List.nodup_iff_pairwise_ne, List.pairwise_map]
    refine ha.imp fun {a b} h e => ?_
    have : EqL (d.lang blk) b a := (eqv_at hb b a).2 (by rw [e]; exact Eqv.refl _)
    rw [eqL_iff.2 this] at h
    cases h
  · intro n hn
    obtain ⟨u, hu, rfl⟩ := List.mem_map.1 hn
    simpa using at_lt hd hb (hl u hu)
theorem statesL_apart (L : Lang) : (statesL L).Pairwise fun a b => eqL L b a = false := bfs_apart _ _ _ _ (List.pairwise_singleton _ _)
theorem statesL_le (hd : d.Ok) (hb : d.Blk blk) : (statesL (d.lang blk)).length ≤ d.many := states_le hd hb (statesL_in _) (statesL_apart _)
end Aut

/-- the states are few -/
def Few (L : Lang) : Prop := (statesL L).length < 5000
theorem statesL_pre (L : Lang) : ∃ t, statesL L = [[]] ++ t := bfs_pre _ _ _ _ _
theorem statesL_pos (L : Lang) : 0 < (statesL L).length := by obtain ⟨t, ht⟩ := statesL_pre L; rw [ht]; simp
theorem statesL_handled {L : Lang} (h : Few L) : Handled (eqL L) (nextL L) (statesL L).length (statesL L) :=
  bfs_handled (eqL_refl L) _ _ _ _ (fun j x hj => by omega) (Nat.zero_le _) (by unfold Few statesL at h; rw [fuelL_eq] at h ⊢; omega)
theorem statesL_next {L : Lang} (h : Few L) {u : List Nat} (hu : u ∈ statesL L) {b : Nat} (hb : b ∈ bytesL L) : (statesL L).any (eqL L (u ++ [b])) = true := by
  obtain ⟨j, hj⟩ := List.getElem?_of_mem hu
  exact statesL_handled h j u (List.getElem?_eq_some_iff.1 hj).1 hj _ (List.mem_map.2 ⟨b, hb, rfl⟩)
/-- each word is alike to one of the states -/
theorem statesL_all {L : Lang} (h : Few L) : ∀ (n : Nat) (w : List Nat), w.length = n → Bytes w → ∃ u ∈ statesL L, EqL L w u
  | 0, w, hn, hw => by
    obtain rfl := List.eq_nil_of_length_eq_zero hn
    obtain ⟨t, ht⟩ := statesL_pre L
    exact ⟨[], by rw [ht]; simp, fun w _ => rfl⟩
  | n + 1, w, hn, hw => by
    have hne : w ≠ [] := fun e => by rw [e] at hn; cases hn
    have e : w = w.dropLast ++ [w.getLast hne] := (List.dropLast_concat_getLast hne).symm
    have hb : w.getLast hne < 256 := hw _ (List.getLast_mem hne)
    have hd : Bytes w.dropLast := fun b hb => hw b (List.dropLast_subset _ hb)
    obtain ⟨u, hu, hue⟩ := statesL_all h n w.dropLast (by simp [hn]) hd
    obtain ⟨c, hc, hce⟩ := List.any_eq_true.1 (bytesL_any L hb)
    obtain ⟨v, hv, hve⟩ := List.any_eq_true.1 (statesL_next h hu hc)
    refine ⟨v, hv, ?_⟩
    rw [e]
    exact (hue.app (.one hb)).trans ((eqB_iff.1 hce u (statesL_in L u hu)).trans (eqL_iff.1 hve))

/-- the least automaton -/
noncomputable def leastA (L : Lang) : Aut := { many := (statesL L).length, wide := (bytesL L).length, start := 0, fin := finL L, nx := stepL L }
theorem getD_mem {α : Type} {l : List α} {i : Nat} {a : α} (h : i < l.length) : l.getD i a ∈ l := by
  rw [List.getD_eq_getElem?_getD, List.getElem?_eq_getElem h]; exact List.getElem_mem h
theorem stepL_any {L : Lang} (h : Few L) {i k : Nat} (hi : i < (statesL L).length) (hk : k < (bytesL L).length) : (statesL L).any (eqL L ((statesL L).getD i [] ++ [(bytesL L).getD k 0])) = true :=
  statesL_next h (getD_mem hi) (getD_mem hk)
theorem stepL_lt {L : Lang} (h : Few L) {i k : Nat} (hi : i < (statesL L).length) (hk : k < (bytesL L).length) : stepL L i k < (statesL L).length := by
  have h1 := stepL_any h hi hk
  unfold stepL
  generalize (statesL L).getD i [] ++ [(bytesL L).getD k 0] = u at *
  generalize statesL L = o at *
  exact idxR_lt h1
theorem stepL_eq {L : Lang} (h : Few L) {i k : Nat} (hi : i < (statesL L).length) (hk : k < (bytesL L).length) : EqL L ((statesL L).getD i [] ++ [(bytesL L).getD k 0]) ((statesL L).getD (stepL L i k) []) := by
  have h1 := stepL_any h hi hk
  unfold stepL
  generalize (statesL L).getD i [] ++ [(bytesL L).getD k 0] = u at *
  generalize statesL L = o at *
  have h2 := idxR_lt h1
  refine eqL_iff.1 (idxR_at h1 ?_)
  rw [List.getD_eq_getElem?_getD, List.getElem?_eq_getElem h2]; rfl
theorem bytesL_pos (L : Lang) : 0 < (bytesL L).length := by
  have h := bytesL_any L (b := 0) (by omega)
  generalize bytesL L = o at *
  obtain ⟨x, hx, -⟩ := List.any_eq_true.1 h
  exact List.length_pos_of_mem hx
theorem leastA_ok {L : Lang} (h : Few L) : (leastA L).Ok :=
  { wide0 := bytesL_pos L
    st := statesL_pos L
    nxt := fun i k hi hk => stepL_lt h hi hk }
theorem blockL_lt (L : Lang) {b : Nat} (hb : b < 256) : blockL L b < (bytesL L).length := idxR_lt (bytesL_any L hb)
theorem blockL_at (L : Lang) {b : Nat} (hb : b < 256) : EqB L b ((bytesL L).getD (blockL L b) 0) := by
  have h1 := blockL_lt L hb
  refine eqB_iff.1 (idxR_at (bytesL_any L hb) ?_)
  rw [List.getD_eq_getElem?_getD, List.getElem?_eq_getElem h1]
  exact List.getElem?_eq_getElem h1
/-- where the least automaton is behind a word: at the state that is alike -/
theorem leastA_at {L : Lang} (h : Few L) : ∀ (n : Nat) (w : List Nat), w.length = n → Bytes w → (leastA L).at_ (blockL L) w < (statesL L).length ∧ EqL L w ((statesL L).getD ((leastA L).at_ (blockL L) w) [])
  | 0, w, hn, hw => by
    obtain rfl := List.eq_nil_of_length_eq_zero hn
    obtain ⟨t, ht⟩ := statesL_pre L
    refine ⟨statesL_pos L, ?_⟩
    show EqL L [] ((statesL L).getD 0 [])
    rw [ht]
    exact fun w _ => rfl
  | n + 1, w, hn, hw => by
    have hne : w ≠ [] := fun e => by rw [e] at hn; cases hn
    have e : w = w.dropLast ++ [w.getLast hne] := (List.dropLast_concat_getLast hne).symm
    have hb : w.getLast hne < 256 := hw _ (List.getLast_mem hne)
    have hd : Bytes w.dropLast := fun b hb => hw b (List.dropLast_subset _ hb)
    obtain ⟨h1, h2⟩ := leastA_at h n w.dropLast (by simp [hn]) hd
    rw [e, Aut.at_app]
    generalize w.dropLast = u at *
    generalize w.getLast hne = b at *
    generalize (leastA L).at_ (blockL L) u = i at *
    have hu := getD_mem (a := ([] : List Nat)) h1
    have hk := blockL_lt L hb
    exact ⟨stepL_lt h h1 hk, (h2.app (.one hb)).trans ((blockL_at L hb _ (statesL_in L _ hu)).trans (stepL_eq h h1 hk))⟩
theorem leastA_lang {L : Lang} (h : Few L) {w : List Nat} (hw : Bytes w) : (leastA L).lang (blockL L) w = L w := by
  have := (leastA_at h _ w rfl hw).2 [] .nil
  rw [List.append_nil, List.append_nil] at this
  exact this.symm
end Go.Proofs.YtmmlakheimfijaaGreatDoor
namespace Go.Proofs.YtmmlakheimfijaaGreatDoor
set_option linter.unusedVariables false
set_option linter.unusedSimpArgs false

def parts0 : Parts := { cls := fun _ => 0, mem := [], wai := [], work := [] }
/-- one class more, that waits, if there are any -/
def iniP (P : Parts) (s : List Nat) : Parts := if s = [] then P else (P.opens s).wait P.mem.length
def takesL (d : Aut) (R : List Nat) : List Nat := R.filter fun n => d.fin n
def othersL (d : Aut) (R : List Nat) : List Nat := R.filter fun n => !d.fin n
def parts2 (d : Aut) (R : List Nat) : Parts := iniP (iniP parts0 (takesL d R)) (othersL d R)
theorem takesL_mem {d : Aut} {R : List Nat} {n : Nat} : n ∈ takesL d R ↔ n ∈ R ∧ d.fin n = true := by simp [takesL]
theorem othersL_mem {d : Aut} {R : List Nat} {n : Nat} : n ∈ othersL d R ↔ n ∈ R ∧ d.fin n = false := by simp [othersL]
theorem opens_wait (P : Parts) (s : List Nat) (hl : P.wai.length = P.mem.length) : (P.opens s).wait P.mem.length = { P.opens s with wai := P.wai ++ [true], work := P.work ++ [P.mem.length] } := by
  have e : (P.opens s).wai = P.wai ++ [false] := rfl
  have h1 : (P.opens s).wai.getD P.mem.length false = false := by
    rw [e, List.getD_eq_getElem?_getD, ← hl, List.getElem?_append_right (Nat.le_refl _), Nat.sub_self]; rfl
  unfold Parts.wait
  rw [if_neg (by rw [h1]; simp), e, ← hl]
  congr 1
  rw [List.set_append_right _ _ (Nat.le_refl _), Nat.sub_self]
  rfl
/-- what both steps give, case by case -/
theorem parts2_is (d : Aut) (R : List Nat) : parts2 d R =
    if takesL d R = [] then (if othersL d R = [] then parts0 else { cls := fun n => if n ∈ othersL d R then 0 else 0, mem := [othersL d R], wai := [true], work := [0] })
    else (if othersL d R = [] then { cls := fun n => if n ∈ takesL d R then 0 else 0, mem := [takesL d R], wai := [true], work := [0] }
      else { cls := fun n => if n ∈ othersL d R then 1 else if n ∈ takesL d R then 0 else 0, mem := [takesL d R, othersL d R], wai := [true, true], work := [0, 1] }) := by
  unfold parts2 iniP
  by_cases hT : takesL d R = []
  · rw [if_pos hT, if_pos hT]
    by_cases hO : othersL d R = []
    · rw [if_pos hO, if_pos hO]
    · rw [if_neg hO, if_neg hO, opens_wait parts0 _ rfl]
      rfl
  · rw [if_neg hT, if_neg hT, opens_wait parts0 _ rfl]
    by_cases hO : othersL d R = []
    · rw [if_pos hO, if_pos hO]
      rfl
    · rw [if_neg hO, if_neg hO, opens_wait _ _ rfl]
      rfl
theorem parts2_inv {d : Aut} {R : List Nat} (hn : R.Nodup) : HopI d R (parts2 d R) ∧ Hop2 d R (parts2 d R) [] d.wide := by
  have hnT : (takesL d R).Nodup := hn.filter _
  have hnO : (othersL d R).Nodup := hn.filter _
  have side : ∀ n ∈ R, n ∈ takesL d R ∨ n ∈ othersL d R := fun n hR => by
    cases h : d.fin n with
    | true => exact .inl (takesL_mem.2 ⟨hR, h⟩)
    | false => exact .inr (othersL_mem.2 ⟨hR, h⟩)
  have not_both : ∀ n, n ∈ takesL d R → n ∉ othersL d R := fun n h h' => by
    have := (takesL_mem.1 h).2
    rw [(othersL_mem.1 h').2] at this
    cases this
  rw [parts2_is]
  by_cases hT : takesL d R = []
  · rw [if_pos hT]
    by_cases hO : othersL d R = []
    · rw [if_pos hO]
      have hR : ∀ n, n ∉ R := fun n h => by
        rcases side n h with h | h
        · rw [hT] at h; cases h
        · rw [hO] at h; cases h
      exact ⟨⟨rfl, fun n h => absurd h (hR n), fun c s h => by simp [parts0] at h, by simp [parts0], fun c => by simp [parts0], fun n m h => absurd h (hR n), fun n m h => absurd h (hR n)⟩, fun p q h => absurd h (hR p)⟩
    · rw [if_neg hO]
      have all : ∀ n ∈ R, n ∈ othersL d R := fun n h => by
        rcases side n h with h | h
        · rw [hT] at h; cases h
        · exact h
      refine ⟨⟨rfl, fun n _ => by simp, fun c s h => ?_, by simp, fun c => ?_, fun n m _ _ _ => by simp, fun n m h1 h2 _ => ?_⟩, fun p q _ _ _ k _ h => absurd (by simp) h⟩
      · have hc : c = 0 := by have := (List.getElem?_eq_some_iff.1 h).1; simpa using this
        subst hc
        obtain rfl := Option.some.inj h
        exact ⟨hO, hnO, fun n => ⟨fun h => ⟨(othersL_mem.1 h).1, by simp⟩, fun h => all n h.1⟩⟩
      · match c with
        | 0 => simp
        | c + 1 => simp
      · rw [(othersL_mem.1 (all n h1)).2, (othersL_mem.1 (all m h2)).2]
  · rw [if_neg hT]
    by_cases hO : othersL d R = []
    · rw [if_pos hO]
      have all : ∀ n ∈ R, n ∈ takesL d R := fun n h => by
        rcases side n h with h | h
        · exact h
        · rw [hO] at h; cases h
      refine ⟨⟨rfl, fun n _ => by simp, fun c s h => ?_, by simp, fun c => ?_, fun n m _ _ _ => by simp, fun n m h1 h2 _ => ?_⟩, fun p q _ _ _ k _ h => absurd (by simp) h⟩
      · have hc : c = 0 := by have := (List.getElem?_eq_some_iff.1 h).1; simpa using this
        subst hc
        obtain rfl := Option.some.inj h
        exact ⟨hT, hnT, fun n => ⟨fun h => ⟨(takesL_mem.1 h).1, by simp⟩, fun h => all n h.1⟩⟩
      · match c with
        | 0 => simp
        | c + 1 => simp
      · rw [(takesL_mem.1 (all n h1)).2, (takesL_mem.1 (all m h2)).2]
    · rw [if_neg hO]
      have cl : ∀ n ∈ R, (if n ∈ othersL d R then 1 else if n ∈ takesL d R then 0 else 0) = if d.fin n then 0 else 1 := fun n h => by
        cases hf : d.fin n with
        | true => rw [if_neg (not_both n (takesL_mem.2 ⟨h, hf⟩))]; simp
        | false => rw [if_pos (othersL_mem.2 ⟨h, hf⟩)]; simp
      refine ⟨⟨rfl, fun n h => ?_, fun c s h => ?_, by simp, fun c => ?_, fun n m h1 h2 he => ?_, fun n m h1 h2 h => ?_⟩, fun p q _ _ _ k _ h => .inl ?_⟩
      · simp only [cl n h, List.length_cons, List.length_nil]
        split <;> omega
      · match c, h with
        | 0, h =>
          obtain rfl := Option.some.inj h
          refine ⟨hT, hnT, fun n => ⟨fun h => ?_, fun h => ?_⟩⟩
          · have h2 := takesL_mem.1 h
            exact ⟨h2.1, by simp only [cl n h2.1, h2.2]; rfl⟩
          · have h2 := h.2
            simp only [cl n h.1] at h2
            refine takesL_mem.2 ⟨h.1, ?_⟩
            cases hf : d.fin n with
            | true => rfl
            | false => rw [hf] at h2; cases h2
        | 1, h =>
          obtain rfl := Option.some.inj h
          refine ⟨hO, hnO, fun n => ⟨fun h => ?_, fun h => ?_⟩⟩
          · have h2 := othersL_mem.1 h
            exact ⟨h2.1, by simp only [cl n h2.1, h2.2]; rfl⟩
          · have h2 := h.2
            simp only [cl n h.1] at h2
            refine othersL_mem.2 ⟨h.1, ?_⟩
            cases hf : d.fin n with
            | true => rw [hf] at h2; cases h2
            | false => rfl
        | c + 2, h => simp at h
      · match c with
        | 0 => simp
        | 1 => simp
        | c + 2 => simp
      · simp only [cl n h1, cl m h2, he.fin_]
      · simp only [cl n h1, cl m h2] at h
        cases hf : d.fin n <;> cases hg : d.fin m <;> rw [hf, hg] at h <;> first | rfl | cases h
      · show [true, true][_]? = some true
        by_cases e : d.nx p k ∈ othersL d R
        · simp [e]
        · simp [e]
end Go.Proofs.YtmmlakheimfijaaGreatDoor
namespace Go.Proofs.YtmmlakheimfijaaGreatDoor
set_option linter.unusedVariables false
set_option linter.unusedSimpArgs false

/-! blocks that are numbered by their least bytes -/
section
variable {z : Nat → Int}
theorem top_le {a b : Nat} (h : a ≤ b) : Bl.top z a ≤ Bl.top z b := by
  induction b with
  | zero => have : a = 0 := by omega
            subst this; exact Int.le_refl _
  | succ b ih =>
    by_cases e : a = b + 1
    · subst e; exact Int.le_refl _
    · have := ih (by omega)
      rw [Bl.top_succ]
      split <;> omega
theorem ok_at {n j : Nat} (h : Bl.okTo z n = true) (hj : j < n) : 0 ≤ z j ∧ z j ≤ Bl.top z j := by
  have h1 := Bl.okTo_of_le z (show j + 1 ≤ n by omega) h
  rw [Bl.okTo_succ] at h1
  simp at h1
  omega
theorem ok_lt {n j : Nat} (h : Bl.okTo z n = true) (hj : j < n) : z j < Bl.top z n := by
  have h1 := ok_at h hj
  have h2 : Bl.top z (j + 1) ≤ Bl.top z n := top_le (by omega)
  rw [Bl.top_succ] at h2
  split at h2 <;> omega
theorem ok_onto : ∀ (n : Nat) (k : Int), 0 ≤ k → k < Bl.top z n → ∃ b, b < n ∧ z b = k
  | 0, k, h0, h1 => by have : Bl.top z 0 = 0 := rfl
                       omega
  | n + 1, k, h0, h1 => by
    rw [Bl.top_succ] at h1
    split at h1
    · by_cases e : k = z n
      · exact ⟨n, by omega, e.symm⟩
      · obtain ⟨b, hb, hz⟩ := ok_onto n k h0 (by omega)
        exact ⟨b, by omega, hz⟩
    · obtain ⟨b, hb, hz⟩ := ok_onto n k h0 h1
      exact ⟨b, by omega, hz⟩
theorem ok_fold {E : Nat → Nat → Bool} (hE : ∀ x, E x x = true) : ∀ n, Bl.okTo z n = true → ((List.range n).map fun b => (z b).toNat).foldl (addR E) [] = (List.range (Bl.top z n).toNat).foldl (addR E) []
  | 0, _ => rfl
  | n + 1, h => by
    have h1 := ok_at h (show n < n + 1 by omega)
    have h2 := Bl.top_nonneg z n
    have ih := ok_fold hE n (Bl.okTo_of_le z (Nat.le_succ _) h)
    rw [List.range_succ, List.map_append, List.foldl_append, ih, Bl.top_succ]
    simp only [List.map_cons, List.map_nil, List.foldl_cons, List.foldl_nil]
    by_cases e : z n = Bl.top z n
    · rw [if_pos e, e, show (Bl.top z n + 1).toNat = (Bl.top z n).toNat + 1 by omega, List.range_succ, List.foldl_append]
      rfl
    · rw [if_neg e]
      have := foldR_any hE (List.range (Bl.top z n).toNat) [] (z n).toNat (by simp; omega)
      rw [addR, if_pos this]
end
/-- right blocks, in plain words -/
structure BlkOk (z : Nat → Int) (wide : Nat) : Prop where
  ok : Bl.okTo z 256 = true
  wide : (wide : Int) = Bl.top z 256
def blkF (z : Nat → Int) (b : Nat) : Nat := (z b).toNat
theorem BlkOk.blk {z : Nat → Int} {d : Aut} (h : BlkOk z d.wide) : d.Blk (blkF z) where
  lt := fun b hb => by
    have h1 := ok_lt h.ok hb
    have h2 := ok_at h.ok hb
    have := h.wide
    unfold blkF; omega
  onto := fun k hk => by
    obtain ⟨b, hb, hz⟩ := ok_onto (z := z) 256 k (by omega) (by have := h.wide; omega)
    exact ⟨b, hb, by unfold blkF; omega⟩
theorem addN_addR (o : List Nat) (x : Nat) : addN o x = addR (fun a b => decide (a = b)) o x := by
  unfold addN addR
  have : (o.any fun b => decide (x = b)) = true ↔ x ∈ o := by simp
  by_cases h : x ∈ o
  · rw [if_pos h, if_pos (this.2 h)]
  · rw [if_neg h, if_neg fun h2 => h (this.1 h2)]
theorem addN_eq : addN = addR (fun a b => decide (a = b)) := funext fun o => funext fun x => addN_addR o x

/-- states that are reached -/
def Reach (d : Aut) (p : Nat) : Prop := ∃ ws, d.Word ws ∧ d.run d.start ws = p
theorem Reach.lt {d : Aut} (hd : d.Ok) {p : Nat} (h : Reach d p) : p < d.many := by
  obtain ⟨ws, hw, rfl⟩ := h
  exact Aut.run_in hd ws _ hd.st hw
theorem Reach.nx {d : Aut} {p k : Nat} (h : Reach d p) (hk : k < d.wide) : Reach d (d.nx p k) := by
  obtain ⟨ws, hw, rfl⟩ := h
  exact ⟨ws ++ [k], fun j hj => by rcases List.mem_append.1 hj with hj | hj; exact hw j hj; obtain rfl := List.mem_singleton.1 hj; exact hk, by rw [Aut.run_app]; rfl⟩
theorem Reach.start (d : Aut) : Reach d d.start := ⟨[], ⟨fun k hk => (List.not_mem_nil hk).elim, rfl⟩⟩
theorem reach_at {d : Aut} {blk : Nat → Nat} (hb : d.Blk blk) {u : List Nat} (hu : Bytes u) : Reach d (d.at_ blk u) := ⟨_, Aut.word_of hb hu, rfl⟩
theorem reach_to {d : Aut} {blk : Nat → Nat} (hb : d.Blk blk) {p : Nat} (h : Reach d p) : ∃ u, Bytes u ∧ d.at_ blk u = p := by
  obtain ⟨ws, hw, rfl⟩ := h
  obtain ⟨u, h1, rfl⟩ := Aut.word_to hb hw
  exact ⟨u, h1, rfl⟩

/-! the program's way -/
/-- classes and one state of each -/
structure ClsOk (d : Aut) (cls one : Nat → Nat) (many : Nat) : Prop where
  eqv : ∀ p q, Reach d p → Reach d q → (cls p = cls q ↔ d.Eqv p q)
  lt : ∀ p, Reach d p → cls p < many
  one : ∀ c, c < many → Reach d (one c) ∧ cls (one c) = c
section
variable {d : Aut} {cls one : Nat → Nat} {many : Nat} {z : Nat → Int}
def nextC (d : Aut) (cls one : Nat → Nat) (c k : Nat) : Nat := cls (d.nx (one c) k)
def colL (d : Aut) (cls one : Nat → Nat) (many k : Nat) : List Nat := (List.range many).map fun c => nextC d cls one c k
def eqC (d : Aut) (cls one : Nat → Nat) (many k j : Nat) : Bool := decide (colL d cls one many k = colL d cls one many j)
def blocksC (d : Aut) (cls one : Nat → Nat) (many n : Nat) : List Nat := (List.range n).foldl (addR (eqC d cls one many)) []
def mergedC (d : Aut) (cls one : Nat → Nat) (many n k : Nat) : Nat := idxR (eqC d cls one many) (blocksC d cls one many n) k
def stepC (d : Aut) (cls one : Nat → Nat) (bl : List Nat) (c k : Nat) : Nat := nextC d cls one c (bl.getD k 0)
noncomputable def orderC (d : Aut) (cls one : Nat → Nat) (bl : List Nat) : List Nat := bfs addN (fun c => (List.range bl.length).map (stepC d cls one bl c)) fuelL 0 [cls d.start]

theorem eqC_refl (k : Nat) : eqC d cls one many k k = true := by simp [eqC]
theorem eqC_iff {k j : Nat} : eqC d cls one many k j = true ↔ ∀ c, c < many → nextC d cls one c k = nextC d cls one c j := by
  unfold eqC colL
  simp only [decide_eq_true_eq]
  constructor
  · intro h c hc
    have := congrArg (fun l => l[c]?) h
    simpa [hc] using this
  · intro h
    exact List.map_congr_left fun c hc => h c (by simpa using hc)
/-- bytes are alike just if their blocks' columns are -/
theorem eqC_blk (hc : ClsOk d cls one many) (hb : BlkOk z d.wide) {b c : Nat} (h1 : b < 256) (h2 : c < 256) : eqB (d.lang (blkF z)) b c = eqC d cls one many (blkF z b) (blkF z c) := by
  have hk1 := hb.blk.lt b h1
  have hk2 := hb.blk.lt c h2
  apply Bool.eq_iff_iff.2
  rw [eqB_iff, Aut.eqb_at hb.blk, eqC_iff]
  constructor
  · intro h x hx
    obtain ⟨h3, h4⟩ := hc.one x hx
    obtain ⟨u, hu, e⟩ := reach_to hb.blk h3
    have := h u hu
    rw [e] at this
    exact (hc.eqv _ _ (h3.nx hk1) (h3.nx hk2)).2 this
  · intro h u hu
    have hr := reach_at hb.blk hu
    obtain ⟨h3, h4⟩ := hc.one _ (hc.lt _ hr)
    have he := (hc.eqv _ _ h3 hr).1 h4
    have := (hc.eqv _ _ (h3.nx hk1) (h3.nx hk2)).1 (h _ (hc.lt _ hr))
    exact ((he.next hk1).symm.trans this).trans (he.next hk2)
theorem blocksC_map (hc : ClsOk d cls one many) (hb : BlkOk z d.wide) : (bytesL (d.lang (blkF z))).map (blkF z) = blocksC d cls one many d.wide := by
  unfold bytesL blocksC
  rw [foldR_map (E' := eqC d cls one many) (blkF z) (S := fun b => b < 256) (fun x y hx hy => eqC_blk hc hb hx hy) _ _ (fun y hy => by cases hy) (fun y hy => by simpa [byteN_eq] using hy)]
  have h1 := ok_fold (E := eqC d cls one many) eqC_refl 256 hb.ok
  have h2 : (Bl.top z 256).toNat = d.wide := by have := hb.wide; omega
  rw [h2] at h1
  rw [byteN_eq]
  exact h1
theorem blocksC_len (hc : ClsOk d cls one many) (hb : BlkOk z d.wide) : (blocksC d cls one many d.wide).length = (bytesL (d.lang (blkF z))).length := by
  rw [← blocksC_map hc hb, List.length_map]
theorem mergedC_blk (hc : ClsOk d cls one many) (hb : BlkOk z d.wide) {b : Nat} (h : b < 256) : mergedC d cls one many d.wide (blkF z b) = blockL (d.lang (blkF z)) b := by
  unfold mergedC blockL
  rw [← blocksC_map hc hb]
  exact idxR_map (blkF z) fun y hy => eqC_blk hc hb h (bytesL_in _ y hy)
/-- the class behind a text -/
def clsU (d : Aut) (cls : Nat → Nat) (z : Nat → Int) (u : List Nat) : Nat := cls (d.at_ (blkF z) u)
theorem clsU_eq (hc : ClsOk d cls one many) (hb : BlkOk z d.wide) {u v : List Nat} (hu : Bytes u) (hv : Bytes v) : eqL (d.lang (blkF z)) u v = decide (clsU d cls z u = clsU d cls z v) := by
  apply Bool.eq_iff_iff.2
  rw [eqL_iff, Aut.eqv_at hb.blk]
  simp only [decide_eq_true_eq]
  exact (hc.eqv _ _ (reach_at hb.blk hu) (reach_at hb.blk hv)).symm
theorem clsU_step (hc : ClsOk d cls one many) (hb : BlkOk z d.wide) {u : List Nat} (hu : Bytes u) {b : Nat} (h : b < 256) : clsU d cls z (u ++ [b]) = nextC d cls one (clsU d cls z u) (blkF z b) := by
  have hk := hb.blk.lt b h
  have hr := reach_at hb.blk hu
  obtain ⟨h3, h4⟩ := hc.one _ (hc.lt _ hr)
  have he := (hc.eqv _ _ h3 hr).1 h4
  unfold clsU nextC
  rw [Aut.at_app]
  exact (hc.eqv _ _ (hr.nx hk) (h3.nx hk)).2 (he.symm.next hk)
theorem orderC_map (hc : ClsOk d cls one many) (hb : BlkOk z d.wide) : (statesL (d.lang (blkF z))).map (clsU d cls z) = orderC d cls one (blocksC d cls one many d.wide) := by
  unfold statesL orderC
  rw [addN_eq]
  refine (bfs_map (E' := fun a b => decide (a = b)) (clsU d cls z) (S := Bytes) (fun x y hx hy => clsU_eq hc hb hx hy) (fun u hu => nextL_in _ hu) (fun u hu => ?_) _ _ _ (fun u hu => by obtain rfl := List.mem_singleton.1 hu; exact .nil)).trans rfl
  rw [← blocksC_map hc hb]
  unfold nextL stepC
  rw [List.map_map, List.length_map]
  refine List.ext_getElem? fun k => ?_
  rw [List.getElem?_map, List.getElem?_map]
  by_cases hk : k < (bytesL (d.lang (blkF z))).length
  · have hm := List.getElem_mem hk
    rw [List.getElem?_eq_getElem hk, List.getElem?_range hk]
    simp only [Option.map_some, Function.comp]
    congr 1
    rw [clsU_step hc hb hu (bytesL_in _ _ hm)]
    congr 1
    rw [List.getD_eq_getElem?_getD, List.getElem?_map, List.getElem?_eq_getElem hk]
    rfl
  · rw [List.getElem?_eq_none (by omega), List.getElem?_eq_none (by simp; omega)]
    rfl
/-- a row of the least automaton -/
theorem rowC (hc : ClsOk d cls one many) (hb : BlkOk z d.wide) {i k : Nat} (hi : i < (statesL (d.lang (blkF z))).length) (hk : k < (bytesL (d.lang (blkF z))).length) :
    (orderC d cls one (blocksC d cls one many d.wide)).findIdx (fun y => decide (stepC d cls one (blocksC d cls one many d.wide) ((orderC d cls one (blocksC d cls one many d.wide)).getD i 0) k = y)) = stepL (d.lang (blkF z)) i k := by
  have h1 : (orderC d cls one (blocksC d cls one many d.wide)).getD i 0 = clsU d cls z ((statesL (d.lang (blkF z))).getD i []) := by
    rw [← orderC_map hc hb, List.getD_eq_getElem?_getD, List.getElem?_map, List.getElem?_eq_getElem hi, List.getD_eq_getElem?_getD, List.getElem?_eq_getElem hi]
    rfl
  have h2 : (blocksC d cls one many d.wide).getD k 0 = blkF z ((bytesL (d.lang (blkF z))).getD k 0) := by
    rw [← blocksC_map hc hb, List.getD_eq_getElem?_getD, List.getElem?_map, List.getElem?_eq_getElem hk, List.getD_eq_getElem?_getD, List.getElem?_eq_getElem hk]
    rfl
  have hu := statesL_in _ _ (getD_mem (a := ([] : List Nat)) hi)
  have hbk := bytesL_in _ _ (getD_mem (a := 0) hk)
  rw [h1]
  unfold stepC
  rw [h2, ← clsU_step hc hb hu hbk, ← orderC_map hc hb]
  unfold stepL
  exact idxR_map (E' := fun a b => decide (a = b)) (clsU d cls z) fun y hy => clsU_eq hc hb (hu.app (.one hbk)) (statesL_in _ y hy)
theorem finC (hc : ClsOk d cls one many) (hb : BlkOk z d.wide) {i : Nat} (hi : i < (statesL (d.lang (blkF z))).length) :
    d.fin (one ((orderC d cls one (blocksC d cls one many d.wide)).getD i 0)) = finL (d.lang (blkF z)) i := by
  have h1 : (orderC d cls one (blocksC d cls one many d.wide)).getD i 0 = clsU d cls z ((statesL (d.lang (blkF z))).getD i []) := by
    rw [← orderC_map hc hb, List.getD_eq_getElem?_getD, List.getElem?_map, List.getElem?_eq_getElem hi, List.getD_eq_getElem?_getD, List.getElem?_eq_getElem hi]
    rfl
  have hu := statesL_in _ _ (getD_mem (a := ([] : List Nat)) hi)
  have hr := reach_at hb.blk hu
  obtain ⟨h3, h4⟩ := hc.one _ (hc.lt _ hr)
  have he := (hc.eqv _ _ h3 hr).1 h4
  rw [h1]
  exact he.fin_
theorem orderC_len (hc : ClsOk d cls one many) (hb : BlkOk z d.wide) : (orderC d cls one (blocksC d cls one many d.wide)).length = (statesL (d.lang (blkF z))).length := by
  rw [← orderC_map hc hb, List.length_map]
theorem orderC_lt (hc : ClsOk d cls one many) (hb : BlkOk z d.wide) : ∀ c ∈ orderC d cls one (blocksC d cls one many d.wide), c < many := fun c h => by
  rw [← orderC_map hc hb] at h
  obtain ⟨u, hu, rfl⟩ := List.mem_map.1 h
  exact hc.lt _ (reach_at hb.blk (statesL_in _ u hu))
end
end Go.Proofs.YtmmlakheimfijaaGreatDoor
