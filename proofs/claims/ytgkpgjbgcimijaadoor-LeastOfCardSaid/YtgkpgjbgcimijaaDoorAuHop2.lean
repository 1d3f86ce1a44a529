/-
  One class is handled: what its members come from is put apart, block by block. Plain law. Conditions: as in AuHop.
-/
import Derived.Test.YtgkpgjbgcimijaaDoorAuHop
namespace Go.Proofs.YtgkpgjbgcimijaaDoor
set_option linter.unusedVariables false
set_option linter.unusedSimpArgs false

def Parts.pop (P : Parts) (w : List Nat) (c : Nat) : Parts := { P with wai := P.wai.set c false, work := w }
theorem pop_keeps {d : Aut} {R : List Nat} {P : Parts} {b0 : List Nat} {K : Nat} {w : List Nat} {c : Nat} (h : HopI d R P) (h2 : Hop2 d R P b0 K) (hK : d.wide ≤ K) (hR : Closed d R) (hw : P.work = w ++ [c]) :
    c < P.mem.length ∧ HopI d R (P.pop w c) ∧ Hop2 d R (P.pop w c) (P.mem.getD c []) 0 ∧ ByOk d R (P.mem.getD c []) ∧ (P.mem.getD c []).Nodup := by
  have hcw : c ∈ P.work := by rw [hw]; simp
  have hcl : c < P.mem.length := by
    have := (h.wk c).1 hcw
    have := (List.getElem?_eq_some_iff.1 this).1
    rw [h.len] at this; exact this
  have hg : P.mem.getD c [] = P.mem[c] := by rw [List.getD_eq_getElem?_getD, List.getElem?_eq_getElem hcl]; rfl
  obtain ⟨g1, g2, g3⟩ := h.mem c _ (List.getElem?_eq_getElem hcl)
  have hnod := h.nod
  rw [hw, List.nodup_append] at hnod
  have hcn : c ∉ w := fun hm => hnod.2.2 c hm c (by simp) rfl
  have wai' : ∀ x, (P.pop w c).wai[x]? = some true ↔ x ≠ c ∧ P.wai[x]? = some true := fun x => by
    show (P.wai.set c false)[x]? = some true ↔ _
    rw [List.getElem?_set]
    by_cases e : c = x
    · subst e
      rw [if_pos rfl]
      constructor
      · intro h3; split at h3 <;> cases h3
      · intro h3; exact absurd rfl h3.1
    · rw [if_neg e]
      exact ⟨fun h3 => ⟨fun e2 => e e2.symm, h3⟩, fun h3 => h3.2⟩
  refine ⟨hcl, ⟨by simp [Parts.pop, h.len], h.cov, h.mem, hnod.1, fun x => ?_, h.eqv, h.fin⟩, ?_, ⟨?_, ?_⟩, ?_⟩
  · rw [wai' x, ← h.wk x, hw]
    show x ∈ w ↔ _
    constructor
    · intro hx; exact ⟨fun e => hcn (e ▸ hx), by simp [hx]⟩
    · rintro ⟨h3, h4⟩
      rcases List.mem_append.1 h4 with h5 | h5
      · exact h5
      · exact absurd (by simpa using h5) h3
  · intro p q hp hq he k hk hx
    have hpn := hR.nxt p k hp hk
    have hqn := hR.nxt q k hq hk
    have hb : ∀ n, n ∈ R → (n ∈ P.mem.getD c [] ↔ P.cls n = c) := fun n hn => by rw [hg, g3]; exact ⟨fun h3 => h3.2, fun h3 => ⟨hn, h3⟩⟩
    have hx' : P.cls (d.nx p k) ≠ P.cls (d.nx q k) := hx
    rw [wai', wai']
    show _ ∨ _ ∨ _
    by_cases e1 : P.cls (d.nx p k) = c
    · right; right
      refine ⟨Nat.zero_le _, fun h3 => ?_⟩
      have := (hb _ hqn).1 (h3.1 ((hb _ hpn).2 e1))
      exact hx' (e1.trans this.symm)
    · by_cases e2 : P.cls (d.nx q k) = c
      · right; right
        refine ⟨Nat.zero_le _, fun h3 => ?_⟩
        have := (hb _ hpn).1 (h3.2 ((hb _ hqn).2 e2))
        exact hx' (this.trans e2.symm)
      · rcases h2 p q hp hq he k hk hx' with h3 | h3 | h3
        · exact .inl ⟨e1, h3⟩
        · exact .inr (.inl ⟨e2, h3⟩)
        · omega
  · intro n hn
    rw [hg] at hn
    exact ((g3 n).1 hn).1
  · intro n m hn hm he hb
    rw [hg, g3] at hb ⊢
    exact ⟨hm, (h.eqv n m hn hm he).symm.trans hb.2⟩
  · rw [hg]; exact g2

def applyAll (F : Nat → List Nat) : List Nat → Parts → Parts
  | [], P => P
  | a :: os, P => applyAll F os (P.apart a (F a))
/-- what holds while the classes met are put apart -/
structure OrdI (d : Aut) (R : List Nat) (by_ : List Nat) (K : Nat) (F : Nat → List Nat) (P : Parts) (os : List Nat) : Prop where
  inv : HopI d R P
  two : Hop2 d R P by_ K
  some_ : ∀ a ∈ os, a < P.mem.length ∧ SomeOf d R P by_ K a (F a)
  done : ∀ p q, p ∈ R → q ∈ R → P.cls p = P.cls q → P.cls p ∉ os → (d.nx p K ∈ by_ ↔ d.nx q K ∈ by_)
  nod : os.Nodup
theorem OrdI.step {d : Aut} {R by_ : List Nat} {K : Nat} {F : Nat → List Nat} {P : Parts} {a : Nat} {os : List Nat} (hd : d.Ok) (hR : Closed d R) (hb : ByOk d R by_) (hK : K < d.wide) (h : OrdI d R by_ K F P (a :: os)) :
    OrdI d R by_ K F (P.apart a (F a)) os ∧ P.mem.length ≤ (P.apart a (F a)).mem.length ∧ (P.apart a (F a)).work.length + 2 * P.mem.length ≤ P.work.length + 2 * (P.apart a (F a)).mem.length := by
  obtain ⟨ha, hs⟩ := h.some_ a (by simp)
  obtain ⟨k1, k2, k3, k4, k5, k6, k7⟩ := apart_keeps hd hR h.inv h.two hb hK hs ha
  have hnod := List.nodup_cons.1 h.nod
  refine ⟨⟨k1, k2, fun x hx => ?_, fun p q hp hq he hn => ?_, hnod.2⟩, k6, k7⟩
  · obtain ⟨hx1, hx2⟩ := h.some_ x (by simp [hx])
    have hxa : x ≠ a := fun e => hnod.1 (e ▸ hx)
    refine ⟨by omega, hx2.nod, hx2.ne, fun n => ?_⟩
    rw [hx2.mem]
    constructor
    · rintro ⟨h1, h2, h3⟩
      exact ⟨h1, by rw [k3 n h1 (by rw [h2]; exact hxa)]; exact h2, h3⟩
    · rintro ⟨h1, h2, h3⟩
      refine ⟨h1, ?_, h3⟩
      by_cases e : P.cls n = a
      · rcases k4 n h1 e with h4 | h4 <;> omega
      · rw [← k3 n h1 e]; exact h2
  · have hcp := h.inv.cov p hp
    have hcq := h.inv.cov q hq
    by_cases e1 : P.cls p = a
    · by_cases e2 : P.cls q = a
      · exact k5 p q hp hq e1 e2 he
      · have h5 := k3 q hq e2
        rcases k4 p hp e1 with h4 | h4 <;> omega
    · have h5 := k3 p hp e1
      by_cases e2 : P.cls q = a
      · rcases k4 q hq e2 with h4 | h4 <;> omega
      · have h6 := k3 q hq e2
        refine h.done p q hp hq (by omega) fun hm => ?_
        rcases List.mem_cons.1 hm with h7 | h7
        · exact e1 h7
        · exact hn (by rw [h5]; exact h7)
theorem OrdI.finish {d : Aut} {R by_ : List Nat} {K : Nat} {F : Nat → List Nat} {P : Parts} (h : OrdI d R by_ K F P []) : Hop2 d R P by_ (K + 1) := by
  intro p q hp hq he k hk hx
  rcases h.two p q hp hq he k hk hx with h3 | h3 | h3
  · exact .inl h3
  · exact .inr (.inl h3)
  · refine .inr (.inr ⟨?_, h3.2⟩)
    rcases Nat.lt_or_ge K k with h4 | h4
    · omega
    · obtain rfl : K = k := by omega
      exact absurd (h.done p q hp hq he (by simp)) h3.2

/-! what block K leads into the class that is handled -/
def fromL (d : Aut) (R : List Nat) (K m : Nat) : List Nat := R.filter fun n => decide (d.nx n K = m)
def intoL (d : Aut) (R : List Nat) (K : Nat) (by_ : List Nat) : List Nat := by_.flatMap (fromL d R K)
theorem intoL_mem {d : Aut} {R by_ : List Nat} {K n : Nat} : n ∈ intoL d R K by_ ↔ n ∈ R ∧ d.nx n K ∈ by_ := by
  simp only [intoL, List.mem_flatMap, fromL, List.mem_filter, decide_eq_true_eq]
  exact ⟨fun ⟨m, h1, h2, h3⟩ => ⟨h2, h3 ▸ h1⟩, fun ⟨h1, h2⟩ => ⟨_, h2, h1, rfl⟩⟩
theorem intoL_nodup {d : Aut} {R : List Nat} {K : Nat} (hR : R.Nodup) : ∀ {by_ : List Nat}, by_.Nodup → (intoL d R K by_).Nodup
  | [], _ => by simp [intoL]
  | m :: by_, h => by
    have h' := List.nodup_cons.1 h
    show (fromL d R K m ++ intoL d R K by_).Nodup
    rw [List.nodup_append]
    refine ⟨hR.filter _, intoL_nodup hR h'.2, fun a ha b hb e => ?_⟩
    subst e
    have h1 : d.nx a K = m := by simpa using (List.mem_filter.1 ha).2
    exact h'.1 (h1 ▸ (intoL_mem.1 hb).2)
/-- the classes met, in the order in which they come; of each what was met -/
def addN (o : List Nat) (x : Nat) : List Nat := if x ∈ o then o else o ++ [x]
def orderL (cls : Nat → Nat) (l : List Nat) : List Nat := l.foldl (fun o n => addN o (cls n)) []
def metL (cls : Nat → Nat) (l : List Nat) (a : Nat) : List Nat := l.filter fun n => decide (cls n = a)
theorem addN_mem {o : List Nat} {x y : Nat} : y ∈ addN o x ↔ y ∈ o ∨ y = x := by
  unfold addN
  split
  · rename_i h
    exact ⟨.inl, fun h1 => h1.elim id fun e => e ▸ h⟩
  · simp
theorem addN_nodup {o : List Nat} {x : Nat} (h : o.Nodup) : (addN o x).Nodup := by
  unfold addN
  split
  · exact h
  · rename_i hx
    rw [List.nodup_append]
    refine ⟨h, by simp, fun a ha b hb e => ?_⟩
    simp at hb
    subst e hb
    exact hx ha
theorem fold_mem (cls : Nat → Nat) : ∀ (l o : List Nat) (y : Nat), y ∈ l.foldl (fun o n => addN o (cls n)) o ↔ y ∈ o ∨ ∃ n ∈ l, cls n = y
  | [], o, y => by simp
  | n :: l, o, y => by
    rw [List.foldl_cons, fold_mem cls l, addN_mem]
    constructor
    · rintro ((h | h) | ⟨m, h1, h2⟩)
      · exact .inl h
      · exact .inr ⟨n, by simp, h.symm⟩
      · exact .inr ⟨m, by simp [h1], h2⟩
    · rintro (h | ⟨m, h1, h2⟩)
      · exact .inl (.inl h)
      · rcases List.mem_cons.1 h1 with rfl | h1
        · exact .inl (.inr h2.symm)
        · exact .inr ⟨m, h1, h2⟩
theorem fold_nodup (cls : Nat → Nat) : ∀ (l o : List Nat), o.Nodup → (l.foldl (fun o n => addN o (cls n)) o).Nodup
  | [], o, h => h
  | n :: l, o, h => fold_nodup cls l _ (addN_nodup h)
theorem order_start {d : Aut} {R by_ : List Nat} {K : Nat} {P : Parts} (hRn : R.Nodup) (h : HopI d R P) (h2 : Hop2 d R P by_ K) (hb : by_.Nodup) :
    OrdI d R by_ K (metL P.cls (intoL d R K by_)) P (orderL P.cls (intoL d R K by_)) := by
  refine ⟨h, h2, fun a ha => ?_, fun p q hp hq he hn => ?_, fold_nodup _ _ _ (by simp)⟩
  · obtain ⟨n, hn, rfl⟩ : ∃ n ∈ intoL d R K by_, P.cls n = a := by
      rcases (fold_mem P.cls _ _ a).1 ha with h3 | h3
      · cases h3
      · exact h3
    refine ⟨h.cov n (intoL_mem.1 hn).1, (intoL_nodup hRn hb).filter _, fun e => ?_, fun m => ?_⟩
    · have : n ∈ metL P.cls (intoL d R K by_) (P.cls n) := List.mem_filter.2 ⟨hn, by simp⟩
      rw [e] at this
      cases this
    · rw [metL, List.mem_filter, intoL_mem]
      simp only [decide_eq_true_eq]
      exact ⟨fun ⟨⟨h3, h4⟩, h5⟩ => ⟨h3, h5, h4⟩, fun ⟨h3, h4, h5⟩ => ⟨⟨h3, h5⟩, h4⟩⟩
  · have no : ∀ x, x ∈ R → P.cls x = P.cls p → ¬ d.nx x K ∈ by_ := fun x hx hc hm =>
      hn ((fold_mem P.cls _ _ _).2 (.inr ⟨x, intoL_mem.2 ⟨hx, hm⟩, hc⟩))
    exact ⟨fun h3 => absurd h3 (no p hp rfl), fun h3 => absurd h3 (no q hq he.symm)⟩
end Go.Proofs.YtgkpgjbgcimijaaDoor
