/-
  Classes of states, put apart step by step (Hopcroft's way), in plain words: what stands at the end tells the same states apart as words do. Conditions: the automaton is right, the states are closed.
-/
import Derived.Test.YtgkpgjbgcimijaaDoorAuEqv
namespace Go.Proofs.YtgkpgjbgcimijaaDoor
set_option linter.unusedVariables false
set_option linter.unusedSimpArgs false

theorem nodup_sub {α : Type} [DecidableEq α] : ∀ (a l : List α), a.Nodup → (∀ x ∈ a, x ∈ l) → a.length ≤ l.length
  | [], l, _, _ => Nat.zero_le _
  | x :: a, l, hn, hs => by
    have hx := hs x (by simp)
    have hn' := List.nodup_cons.1 hn
    have ih := nodup_sub a (l.erase x) hn'.2 fun y hy => (List.mem_erase_of_ne (fun e => hn'.1 (by rw [← e]; exact hy))).2 (hs y (by simp [hy]))
    rw [List.length_erase_of_mem hx] at ih
    have := List.length_pos_of_mem hx
    simp only [List.length_cons]
    omega
/-- as long, and inside: the same members -/
theorem same_sub {α : Type} [DecidableEq α] {a l : List α} (ha : a.Nodup) (hl : l.Nodup) (hs : ∀ x ∈ a, x ∈ l) (h : a.length = l.length) {x : α} (hx : x ∈ l) : x ∈ a := by
  refine Classical.byContradiction fun hn => ?_
  have := nodup_sub (x :: a) l (List.nodup_cons.2 ⟨hn, ha⟩) fun y hy => by
    rcases List.mem_cons.1 hy with rfl | hy
    · exact hx
    · exact hs y hy
  simp at this
  omega

structure Parts where
  cls : Nat → Nat
  mem : List (List Nat)
  wai : List Bool
  work : List Nat
namespace Parts
def wait (P : Parts) (c : Nat) : Parts := if P.wai.getD c false = true then P else { P with wai := P.wai.set c true, work := P.work ++ [c] }
def opens (P : Parts) (s : List Nat) : Parts := { cls := fun n => if n ∈ s then P.mem.length else P.cls n, mem := P.mem ++ [s], wai := P.wai ++ [false], work := P.work }
def restOf (P : Parts) (c : Nat) (s : List Nat) : List Nat := (P.mem.getD c []).filter fun m => decide ((P.opens s).cls m = c)
def parted (P : Parts) (c : Nat) (s : List Nat) : Parts := { P.opens s with mem := (P.opens s).mem.set c (P.restOf c s) }
def apart (P : Parts) (c : Nat) (s : List Nat) : Parts :=
  if s.length = (P.mem.getD c []).length then P
  else if (P.parted c s).wai.getD c false = true ∨ s.length ≤ (P.restOf c s).length then (P.parted c s).wait P.mem.length else (P.parted c s).wait c
end Parts

/-- what always holds of the classes -/
structure HopI (d : Aut) (R : List Nat) (P : Parts) : Prop where
  len : P.wai.length = P.mem.length
  cov : ∀ n ∈ R, P.cls n < P.mem.length
  mem : ∀ c s, P.mem[c]? = some s → s ≠ [] ∧ s.Nodup ∧ ∀ n, n ∈ s ↔ (n ∈ R ∧ P.cls n = c)
  nod : P.work.Nodup
  wk : ∀ c, c ∈ P.work ↔ P.wai[c]? = some true
  eqv : ∀ n m, n ∈ R → m ∈ R → d.Eqv n m → P.cls n = P.cls m
  fin : ∀ n m, n ∈ R → m ∈ R → P.cls n = P.cls m → d.fin n = d.fin m
/-- who is put apart from whom by one that waits, or by the class that is handled -/
def Hop2 (d : Aut) (R : List Nat) (P : Parts) (by_ : List Nat) (K : Nat) : Prop :=
  ∀ p q, p ∈ R → q ∈ R → P.cls p = P.cls q → ∀ k, k < d.wide → P.cls (d.nx p k) ≠ P.cls (d.nx q k) →
    P.wai[P.cls (d.nx p k)]? = some true ∨ P.wai[P.cls (d.nx q k)]? = some true ∨ (K ≤ k ∧ ¬ (d.nx p k ∈ by_ ↔ d.nx q k ∈ by_))
structure Closed (d : Aut) (R : List Nat) : Prop where
  nxt : ∀ n k, n ∈ R → k < d.wide → d.nx n k ∈ R
/-- the class that is handled -/
structure ByOk (d : Aut) (R : List Nat) (by_ : List Nat) : Prop where
  inR : ∀ n ∈ by_, n ∈ R
  eqv : ∀ n m, n ∈ R → m ∈ R → d.Eqv n m → n ∈ by_ → m ∈ by_

theorem HopI.count {d : Aut} {R : List Nat} {P : Parts} (h : HopI d R P) : P.mem.length ≤ R.length := by
  have := nodup_sub (List.range P.mem.length) (R.map P.cls) List.nodup_range fun c hc => by
    have hc' : c < P.mem.length := by simpa using hc
    obtain ⟨h1, h2, h3⟩ := h.mem c _ (List.getElem?_eq_getElem hc')
    obtain ⟨n, hn⟩ := List.exists_mem_of_ne_nil _ h1
    exact List.mem_map.2 ⟨n, ((h3 n).1 hn).1, ((h3 n).1 hn).2⟩
  simpa using this

theorem getD_true {l : List Bool} {c : Nat} : l.getD c false = true ↔ l[c]? = some true := by
  rw [List.getD_eq_getElem?_getD]
  cases l[c]? with
  | none => simp
  | some b => simp

theorem HopI.wait {d : Aut} {R : List Nat} {P : Parts} (h : HopI d R P) {c : Nat} (hc : c < P.mem.length) : HopI d R (P.wait c) := by
  unfold Parts.wait
  by_cases hw : P.wai.getD c false = true
  · rw [if_pos hw]; exact h
  rw [if_neg hw]
  have hw' : c ∉ P.work := fun hm => hw (getD_true.2 ((h.wk c).1 hm))
  refine ⟨by simp [h.len], h.cov, h.mem, ?_, fun x => ?_, h.eqv, h.fin⟩
  · rw [List.nodup_append]
    refine ⟨h.nod, by simp, fun a ha b hb => ?_⟩
    simp at hb
    subst hb
    intro e
    subst e
    exact hw' ha
  · simp only [List.mem_append, List.mem_singleton]
    rw [h.wk x, List.getElem?_set]
    by_cases e : c = x
    · subst e
      rw [if_pos rfl, if_pos (by rw [h.len]; exact hc)]
      simp
    · rw [if_neg e]
      constructor
      · rintro (h1 | h1)
        · exact h1
        · exact absurd h1.symm e
      · exact .inl
theorem wait_cls (P : Parts) (c : Nat) : (P.wait c).cls = P.cls := by unfold Parts.wait; split <;> rfl
theorem wait_mem (P : Parts) (c : Nat) : (P.wait c).mem = P.mem := by unfold Parts.wait; split <;> rfl
theorem wait_keeps {P : Parts} {c x : Nat} (h : P.wai[x]? = some true) : (P.wait c).wai[x]? = some true := by
  unfold Parts.wait
  split
  · exact h
  · rw [List.getElem?_set]
    by_cases e : c = x
    · subst e
      have := (List.getElem?_eq_some_iff.1 h).1
      rw [if_pos rfl, if_pos this]
    · rw [if_neg e]; exact h
theorem wait_is {P : Parts} {c : Nat} (h : c < P.wai.length) : (P.wait c).wai[c]? = some true := by
  unfold Parts.wait
  by_cases hw : P.wai.getD c false = true
  · rw [if_pos hw]; exact getD_true.1 hw
  · rw [if_neg hw, List.getElem?_set, if_pos rfl, if_pos h]
theorem wait_work (P : Parts) (c : Nat) : (P.wait c).work.length ≤ P.work.length + 1 := by unfold Parts.wait; split <;> simp

section
variable {d : Aut} {R : List Nat} {P : Parts} {c K : Nat} {s by_ : List Nat}
/-- the members of class c from which block K leads into the class that is handled -/
structure SomeOf (d : Aut) (R : List Nat) (P : Parts) (by_ : List Nat) (K c : Nat) (s : List Nat) : Prop where
  nod : s.Nodup
  ne : s ≠ []
  mem : ∀ n, n ∈ s ↔ n ∈ R ∧ P.cls n = c ∧ d.nx n K ∈ by_
theorem parted_cls : (P.parted c s).cls = fun n => if n ∈ s then P.mem.length else P.cls n := rfl
theorem parted_len : (P.parted c s).mem.length = P.mem.length + 1 := by simp [Parts.parted, Parts.opens]
theorem parted_wai : (P.parted c s).wai = P.wai ++ [false] := rfl
theorem parted_work : (P.parted c s).work = P.work := rfl

theorem rest_mem (h : HopI d R P) (hs : SomeOf d R P by_ K c s) (hc : c < P.mem.length) (n : Nat) : n ∈ P.restOf c s ↔ n ∈ R ∧ P.cls n = c ∧ n ∉ s := by
  have hg : P.mem.getD c [] = P.mem[c] := by rw [List.getD_eq_getElem?_getD, List.getElem?_eq_getElem hc]; rfl
  obtain ⟨h1, h2, h3⟩ := h.mem c _ (List.getElem?_eq_getElem hc)
  rw [Parts.restOf, List.mem_filter, hg, h3]
  have e : (P.opens s).cls n = if n ∈ s then P.mem.length else P.cls n := rfl
  rw [e]
  constructor
  · rintro ⟨⟨h4, h5⟩, h6⟩
    refine ⟨h4, h5, fun h7 => ?_⟩
    rw [if_pos h7] at h6
    have := of_decide_eq_true h6
    omega
  · rintro ⟨h4, h5, h6⟩
    exact ⟨⟨h4, h5⟩, by rw [if_neg h6]; simpa using h5⟩
theorem HopI.parted (hd : d.Ok) (hR : Closed d R) (h : HopI d R P) (hb : ByOk d R by_) (hK : K < d.wide) (hs : SomeOf d R P by_ K c s) (hc : c < P.mem.length) (hne : ¬ s.length = (P.mem.getD c []).length) :
    HopI d R (P.parted c s) := by
  have hg : P.mem.getD c [] = P.mem[c] := by rw [List.getD_eq_getElem?_getD, List.getElem?_eq_getElem hc]; rfl
  obtain ⟨g1, g2, g3⟩ := h.mem c _ (List.getElem?_eq_getElem hc)
  have hsub : ∀ n ∈ s, n ∈ P.mem[c] := fun n hn => (g3 n).2 ⟨((hs.mem n).1 hn).1, ((hs.mem n).1 hn).2.1⟩
  have hrest := rest_mem h hs hc
  have hrne : P.restOf c s ≠ [] := fun e => by
    have hall : ∀ n ∈ P.mem[c], n ∈ s := fun n hn => Classical.byContradiction fun hns => by
      have := (hrest n).2 ⟨((g3 n).1 hn).1, ((g3 n).1 hn).2, hns⟩
      rw [e] at this
      cases this
    have l1 := nodup_sub _ _ hs.nod hsub
    have l2 := nodup_sub _ _ g2 hall
    rw [hg] at hne
    omega
  have hclo : ∀ n m, n ∈ R → m ∈ R → d.Eqv n m → n ∈ s → m ∈ s := fun n m hn hm he hns => by
    obtain ⟨-, q1, q2⟩ := (hs.mem n).1 hns
    refine (hs.mem m).2 ⟨hm, ?_, ?_⟩
    · rw [← h.eqv n m hn hm he]; exact q1
    · exact hb.eqv _ _ (hR.nxt n K hn hK) (hR.nxt m K hm hK) (he.next hK) q2
  refine ⟨?_, ?_, ?_, h.nod, ?_, ?_, ?_⟩
  · rw [parted_len, parted_wai]; simp [h.len]
  · intro n hn
    rw [parted_len, parted_cls]
    have := h.cov n hn
    simp only
    split <;> omega
  · intro x t ht
    have hxl : x < P.mem.length + 1 := by have := (List.getElem?_eq_some_iff.1 ht).1; rw [parted_len] at this; exact this
    simp only [Parts.parted, Parts.opens] at ht
    rw [List.getElem?_set] at ht
    by_cases e : c = x
    · subst e
      rw [if_pos rfl, if_pos (by simp; omega)] at ht
      obtain rfl := Option.some.inj ht
      refine ⟨hrne, ?_, fun n => ?_⟩
      · rw [Parts.restOf, hg]; exact g2.filter _
      · rw [hrest n, parted_cls]
        simp only
        constructor
        · rintro ⟨a1, a2, a3⟩; exact ⟨a1, by rw [if_neg a3]; exact a2⟩
        · rintro ⟨a1, a2⟩
          by_cases a3 : n ∈ s
          · rw [if_pos a3] at a2; omega
          · rw [if_neg a3] at a2; exact ⟨a1, a2, a3⟩
    · rw [if_neg e] at ht
      by_cases e2 : x = P.mem.length
      · subst e2
        rw [List.getElem?_append_right (Nat.le_refl _), Nat.sub_self] at ht
        obtain rfl := Option.some.inj ht
        refine ⟨hs.ne, hs.nod, fun n => ?_⟩
        rw [parted_cls]
        simp only
        constructor
        · intro hn; exact ⟨((hs.mem n).1 hn).1, by rw [if_pos hn]⟩
        · rintro ⟨a1, a2⟩
          refine Classical.byContradiction fun a3 => ?_
          rw [if_neg a3] at a2
          have := h.cov n a1
          omega
      · rw [List.getElem?_append_left (by omega)] at ht
        obtain ⟨q1, q2, q3⟩ := h.mem x t ht
        refine ⟨q1, q2, fun n => ?_⟩
        rw [q3, parted_cls]
        simp only
        constructor
        · rintro ⟨a1, a2⟩
          refine ⟨a1, ?_⟩
          rw [if_neg fun a3 => e (((hs.mem n).1 a3).2.1.symm.trans a2)]
          exact a2
        · rintro ⟨a1, a2⟩
          by_cases a3 : n ∈ s
          · rw [if_pos a3] at a2; omega
          · rw [if_neg a3] at a2; exact ⟨a1, a2⟩
  · intro x
    rw [parted_work, parted_wai, h.wk x]
    by_cases e : x < P.wai.length
    · rw [List.getElem?_append_left e]
    · rw [List.getElem?_append_right (by omega)]
      constructor
      · intro h1; have := (List.getElem?_eq_some_iff.1 h1).1; omega
      · intro h1
        have h2 : [false][x - P.wai.length]? = some true := h1
        have h3 := (List.getElem?_eq_some_iff.1 h2).1
        simp at h3
        rw [h3] at h2
        cases h2
  · intro n m hn hm he
    rw [parted_cls]
    simp only
    by_cases a : n ∈ s
    · rw [if_pos a, if_pos (hclo n m hn hm he a)]
    · rw [if_neg a, if_neg fun a2 => a (hclo m n hm hn he.symm a2)]
      exact h.eqv n m hn hm he
  · intro n m hn hm he
    rw [parted_cls] at he
    simp only at he
    by_cases a : n ∈ s
    · rw [if_pos a] at he
      by_cases a2 : m ∈ s
      · exact h.fin n m hn hm (((hs.mem n).1 a).2.1.trans ((hs.mem m).1 a2).2.1.symm)
      · rw [if_neg a2] at he
        have := h.cov m hm
        omega
    · rw [if_neg a] at he
      by_cases a2 : m ∈ s
      · rw [if_pos a2] at he
        have := h.cov n hn
        omega
      · rw [if_neg a2] at he
        exact h.fin n m hn hm he
/-- behind a split, one of both parts waits -/
theorem Hop2.apart (hR : Closed d R) (h : HopI d R P) (h2 : Hop2 d R P by_ K) (hs : SomeOf d R P by_ K c s) (hc : c < P.mem.length) (hne : ¬ s.length = (P.mem.getD c []).length)
    {Q : Parts} (hcls : Q.cls = (P.parted c s).cls) (hkeep : ∀ x : Nat, P.wai[x]? = some true → Q.wai[x]? = some true) (hnew : Q.wai[P.mem.length]? = some true ∨ Q.wai[c]? = some true) (hboth : P.wai[c]? = some true → Q.wai[P.mem.length]? = some true) :
    Hop2 d R Q by_ K := by
  have hpc : Q.cls = fun n => if n ∈ s then P.mem.length else P.cls n := hcls
  have hsc : ∀ n, n ∈ s → P.cls n = c := fun n hn => ((hs.mem n).1 hn).2.1
  have old : ∀ n m, n ∈ R → m ∈ R → Q.cls n = Q.cls m → P.cls n = P.cls m := fun n m hn hm he => by
    rw [hpc] at he
    simp only at he
    by_cases a : n ∈ s <;> by_cases a2 : m ∈ s
    · rw [hsc n a, hsc m a2]
    · rw [if_pos a, if_neg a2] at he; have := h.cov m hm; omega
    · rw [if_neg a, if_pos a2] at he; have := h.cov n hn; omega
    · rw [if_neg a, if_neg a2] at he; exact he
  have up : ∀ n, P.wai[P.cls n]? = some true → Q.wai[Q.cls n]? = some true := fun n hw => by
    rw [hpc]
    simp only
    by_cases a : n ∈ s
    · rw [if_pos a]
      rw [hsc n a] at hw
      exact hboth hw
    · rw [if_neg a]; exact hkeep _ hw
  intro p q hp hq he k hk hx
  by_cases e : P.cls (d.nx p k) = P.cls (d.nx q k)
  · -- put apart by this very split
    rw [hpc] at hx ⊢
    simp only at hx ⊢
    by_cases a : d.nx p k ∈ s
    · have hcp := hsc _ a
      by_cases a2 : d.nx q k ∈ s
      · rw [if_pos a, if_pos a2] at hx; exact absurd rfl hx
      · rw [if_pos a, if_neg a2, ← e, hcp]
        rcases hnew with h3 | h3
        · exact .inl h3
        · exact .inr (.inl h3)
    · by_cases a2 : d.nx q k ∈ s
      · rw [if_neg a, if_pos a2, e, hsc _ a2]
        rcases hnew with h3 | h3
        · exact .inr (.inl h3)
        · exact .inl h3
      · rw [if_neg a, if_neg a2] at hx; exact absurd e hx
  · rcases h2 p q hp hq (old p q hp hq he) k hk e with h3 | h3 | h3
    · exact .inl (up _ h3)
    · exact .inr (.inl (up _ h3))
    · exact .inr (.inr h3)
/-- what a split keeps -/
theorem apart_keeps (hd : d.Ok) (hR : Closed d R) (h : HopI d R P) (h2 : Hop2 d R P by_ K) (hb : ByOk d R by_) (hK : K < d.wide) (hs : SomeOf d R P by_ K c s) (hc : c < P.mem.length) :
    HopI d R (P.apart c s) ∧ Hop2 d R (P.apart c s) by_ K ∧ (∀ n, n ∈ R → P.cls n ≠ c → (P.apart c s).cls n = P.cls n) ∧
      (∀ n, n ∈ R → P.cls n = c → (P.apart c s).cls n = c ∨ (P.apart c s).cls n = P.mem.length) ∧
      (∀ p q, p ∈ R → q ∈ R → P.cls p = c → P.cls q = c → (P.apart c s).cls p = (P.apart c s).cls q → (d.nx p K ∈ by_ ↔ d.nx q K ∈ by_)) ∧
      P.mem.length ≤ (P.apart c s).mem.length ∧ (P.apart c s).work.length + 2 * P.mem.length ≤ P.work.length + 2 * (P.apart c s).mem.length := by
  have hg : P.mem.getD c [] = P.mem[c] := by rw [List.getD_eq_getElem?_getD, List.getElem?_eq_getElem hc]; rfl
  obtain ⟨g1, g2, g3⟩ := h.mem c _ (List.getElem?_eq_getElem hc)
  unfold Parts.apart
  by_cases hne : s.length = (P.mem.getD c []).length
  · rw [if_pos hne]
    have hall : ∀ n, n ∈ R → P.cls n = c → d.nx n K ∈ by_ := fun n hn hcn => by
      have : n ∈ s := same_sub hs.nod g2 (fun x hx => (g3 x).2 ⟨((hs.mem x).1 hx).1, ((hs.mem x).1 hx).2.1⟩) (by rw [← hg]; exact hne) ((g3 n).2 ⟨hn, hcn⟩)
      exact ((hs.mem n).1 this).2.2
    exact ⟨h, h2, fun n _ _ => rfl, fun n _ hn => .inl hn, fun p q hp hq h3 h4 _ => ⟨fun _ => hall q hq h4, fun _ => hall p hp h3⟩, Nat.le_refl _, Nat.le_refl _⟩
  · rw [if_neg hne]
    have hp := h.parted hd hR hb hK hs hc hne
    have key : ∀ x, x < (P.parted c s).mem.length → (x = P.mem.length ∨ (x = c ∧ ¬ P.wai[c]? = some true)) →
        HopI d R ((P.parted c s).wait x) ∧ Hop2 d R ((P.parted c s).wait x) by_ K ∧ (∀ n, n ∈ R → P.cls n ≠ c → ((P.parted c s).wait x).cls n = P.cls n) ∧
          (∀ n, n ∈ R → P.cls n = c → ((P.parted c s).wait x).cls n = c ∨ ((P.parted c s).wait x).cls n = P.mem.length) ∧
          (∀ p q, p ∈ R → q ∈ R → P.cls p = c → P.cls q = c → ((P.parted c s).wait x).cls p = ((P.parted c s).wait x).cls q → (d.nx p K ∈ by_ ↔ d.nx q K ∈ by_)) ∧
          P.mem.length ≤ ((P.parted c s).wait x).mem.length ∧ ((P.parted c s).wait x).work.length + 2 * P.mem.length ≤ P.work.length + 2 * ((P.parted c s).wait x).mem.length := by
      intro x hx hxx
      have hw1 : ∀ y, P.wai[y]? = some true → (P.parted c s).wai[y]? = some true := fun y hy => by
        rw [parted_wai, List.getElem?_append_left (List.getElem?_eq_some_iff.1 hy).1]; exact hy
      have hxl : x < (P.parted c s).wai.length := by rw [hp.len]; exact hx
      refine ⟨hp.wait hx, ?_, ?_, ?_, ?_, ?_, ?_⟩
      · refine Hop2.apart hR h h2 hs hc hne (wait_cls _ _) (fun y hy => wait_keeps (hw1 y hy)) ?_ ?_
        · rcases hxx with rfl | ⟨rfl, _⟩
          · exact .inl (wait_is hxl)
          · exact .inr (wait_is hxl)
        · intro hcw
          rcases hxx with rfl | ⟨rfl, hn⟩
          · exact wait_is hxl
          · exact absurd hcw hn
      · intro n hn hnc
        rw [wait_cls, parted_cls]
        simp only
        rw [if_neg fun a => hnc ((hs.mem n).1 a).2.1]
      · intro n hn hnc
        rw [wait_cls, parted_cls]
        simp only
        split
        · exact .inr rfl
        · exact .inl hnc
      · intro p q hpR hqR h3 h4 he
        rw [wait_cls, parted_cls] at he
        simp only at he
        have hcp := h.cov p hpR
        have hcq := h.cov q hqR
        by_cases a : p ∈ s <;> by_cases a2 : q ∈ s
        · exact ⟨fun _ => ((hs.mem q).1 a2).2.2, fun _ => ((hs.mem p).1 a).2.2⟩
        · rw [if_pos a, if_neg a2] at he; omega
        · rw [if_neg a, if_pos a2] at he; omega
        · exact ⟨fun h5 => absurd ((hs.mem p).2 ⟨hpR, h3, h5⟩) a, fun h5 => absurd ((hs.mem q).2 ⟨hqR, h4, h5⟩) a2⟩
      · rw [wait_mem, parted_len]; omega
      · rw [wait_mem, parted_len]
        have := wait_work (P.parted c s) x
        rw [parted_work] at this
        omega
    by_cases hw : (P.parted c s).wai.getD c false = true ∨ s.length ≤ (P.restOf c s).length
    · rw [if_pos hw]
      exact key _ (by rw [parted_len]; omega) (.inl rfl)
    · rw [if_neg hw]
      refine key _ (by rw [parted_len]; omega) (.inr ⟨rfl, fun h3 => hw (.inl ?_)⟩)
      rw [getD_true, parted_wai, List.getElem?_append_left (List.getElem?_eq_some_iff.1 h3).1]
      exact h3
end
/-- nothing waits: the classes are what words tell apart -/
theorem hop_end {d : Aut} {R : List Nat} {P : Parts} {by_ : List Nat} {K : Nat} (hR : Closed d R) (h : HopI d R P) (h2 : Hop2 d R P by_ K) (hK : d.wide ≤ K) (hw : P.work = []) {p q : Nat} (hp : p ∈ R) (hq : q ∈ R) : P.cls p = P.cls q ↔ d.Eqv p q := by
  refine ⟨fun he => ?_, h.eqv p q hp hq⟩
  have nw : ∀ c, ¬ P.wai[c]? = some true := fun c hc => by
    have := (h.wk c).2 hc
    rw [hw] at this
    cases this
  refine Aut.Eqv.of_stable (S := fun p q => p ∈ R ∧ q ∈ R ∧ P.cls p = P.cls q) (fun p q h3 => h.fin p q h3.1 h3.2.1 h3.2.2) (fun p q k h3 hk => ⟨hR.nxt p k h3.1 hk, hR.nxt q k h3.2.1 hk, ?_⟩) ⟨hp, hq, he⟩
  refine Classical.byContradiction fun hne => ?_
  rcases h2 p q h3.1 h3.2.1 h3.2.2 k hk hne with h4 | h4 | h4
  · exact nw _ h4
  · exact nw _ h4
  · omega
end Go.Proofs.YtgkpgjbgcimijaaDoor
