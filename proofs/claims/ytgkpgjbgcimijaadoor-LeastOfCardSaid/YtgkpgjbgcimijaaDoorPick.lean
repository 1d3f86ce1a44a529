/-
  A region that draws its order, walked in an order of one's own: some operations that are free are walked first (hd, in that order; they read, or call what makes memory), the rest (tl) stands behind them in one forced order; what is done already (listed) may be whatever a walk has taken first. Conditions: each lemma says its own.
-/
import Derived.Test.YtgkpgjbgcimijaaDoorKit2
import Derived.StillTailTactics
import Derived.Lib.QuietBelow
import Derived.Deep.Quiet
import Derived.OrdersHeld
namespace Go.Proofs.YtgkpgjbgcimijaaDoor
set_option linter.unusedVariables false
open Go.RowKit Go.Sort

section
variable {P : Program} {ops : Array Oper} {md : Region.Mode} {C : World → Prop}

/-- what is to be checked of an order: (1) the tail's first waits for each of the head's (by way of later ones of the head) (2) each of the tail waits for the one ahead of it -/
def pickSink (md : Region.Mode) (ops : Array Oper) (t0 : Nat) : List Nat → Bool
  | [] => true
  | i :: r => (t0 :: r).any (fun j => Region.waitsFor md ops j i) && pickSink md ops t0 r
def pickChain (md : Region.Mode) (ops : Array Oper) : Nat → List Nat → Bool
  | _, [] => true
  | t, u :: r => Region.waitsFor md ops u t && pickChain md ops u r
def pickSeq (md : Region.Mode) (ops : Array Oper) : List Nat → Array Bool → Bool
  | [], listed => (Region.ready md ops listed).isEmpty
  | t :: r, listed => decide (Region.ready md ops listed = [t]) && pickSeq md ops r (listed.setIfInBounds t true)
def pickHead (md : Region.Mode) (ops : Array Oper) (tl : List Nat) : List Nat → Array Bool → Bool
  | [], listed => pickSeq md ops tl listed
  | k :: r, listed => (Region.ready md ops listed).contains k && Region.free md ops listed k && pickHead md ops tl r (listed.setIfInBounds k true)
def pickClosed (md : Region.Mode) (ops : Array Oper) (listed : Array Bool) : Bool :=
  decide (listed.size = ops.size) && (List.range ops.size).all fun j => !listed.getD j false || match ops[j]? with
    | some o => o.after.all fun e => !Region.binds md e || listed.getD e.on false
    | none => true

/-- what holds while the head is walked -/
structure PickInv (md : Region.Mode) (ops : Array Oper) (tl : List Nat) (listed : Array Bool) : Prop where
  size : listed.size = ops.size
  closed : ∀ j oj, ops[j]? = some oj → listed.getD j false = true → ∀ e ∈ oj.after, Region.binds md e = true → listed.getD e.on false = true
  tail : ∀ t ∈ tl, listed.getD t true = false

theorem PickInv.of_closed {tl : List Nat} {listed : Array Bool} (h : pickClosed md ops listed = true) (ht : tl.all (fun t => !listed.getD t true) = true) : PickInv md ops tl listed := by
  simp only [pickClosed, Bool.and_eq_true, decide_eq_true_eq, List.all_eq_true, List.mem_range] at h
  refine ⟨h.1, fun j oj hj hl e he hb => ?_, fun t hm => by simpa using List.all_eq_true.1 ht t hm⟩
  have h1 := h.2 j (Array.getElem?_eq_some_iff.1 hj).1
  simp only [hj, hl, Bool.not_true, Bool.false_or] at h1
  have h2 := Array.all_eq_true_iff_forall_mem.1 h1 e he
  simpa [hb] using h2
theorem PickInv.set {i : Nat} {tl : List Nat} {listed : Array Bool} (inv : PickInv md ops tl listed) (hi : i ∈ Region.ready md ops listed) (hin : i ∉ tl) : PickInv md ops tl (listed.setIfInBounds i true) := by
  obtain ⟨_, oi, hoi, hall⟩ := mem_ready.1 hi
  refine ⟨by simp [inv.size], fun j oj hj hl e he hb => ?_, fun t ht => (by
    have hne : i ≠ t := by rintro rfl; exact hin ht
    rw [getD_set_ne true hne]
    exact inv.tail t ht)⟩
  by_cases hij : i = j
  · subst hij
    have : oj = oi := Option.some.inj (hj.symm.trans hoi)
    subst this
    exact getD_set_true (hall e he hb)
  · rw [getD_set_ne false hij] at hl
    exact getD_set_true (inv.closed j oj hj hl e he hb)

theorem pick_chain_waits {listed : Array Bool} : ∀ (r : List Nat) (t : Nat), pickChain md ops t r = true → (∀ u ∈ t :: r, listed.getD u true = false) → ∀ u ∈ r, u ∉ Region.ready md ops listed := by
  intro r
  induction r with
  | nil => intro t _ _ u hu; cases hu
  | cons v r ih =>
    intro t hc hl u hu hr
    simp only [pickChain, Bool.and_eq_true] at hc
    rcases List.mem_cons.1 hu with rfl | hu
    · obtain ⟨o', ho', e, he, hb, hon⟩ := Region.waitsFor_spec hc.1
      obtain ⟨_, ot, hot, hall⟩ := mem_ready.1 hr
      have : o' = ot := Option.some.inj (ho'.symm.trans hot)
      subst this
      have h2 := hall e he hb
      rw [hon, getD_both (hl t (by simp))] at h2
      cases h2
    · exact ih v hc.2 (fun x hx => hl x (by simp at hx ⊢; exact .inr hx)) u hu hr
theorem pick_first_waits {listed : Array Bool} {t0 : Nat} (hcl : ∀ j oj, ops[j]? = some oj → listed.getD j false = true → ∀ e ∈ oj.after, Region.binds md e = true → listed.getD e.on false = true) (hsz : listed.size = ops.size) :
    ∀ (l : List Nat), pickSink md ops t0 l = true → (∃ i ∈ l, listed.getD i true = false) → t0 ∉ Region.ready md ops listed := by
  intro l
  induction l with
  | nil => rintro _ ⟨i, hi, _⟩; cases hi
  | cons x r ih =>
    rintro hs ⟨i, hi, hun⟩ hr
    simp only [pickSink, Bool.and_eq_true] at hs
    rcases List.mem_cons.1 hi with rfl | hi
    · obtain ⟨j, hj, hj2⟩ := List.any_eq_true.1 hs.1
      obtain ⟨oj, hoj, e, he, hb, hon⟩ := Region.waitsFor_spec hj2
      rcases List.mem_cons.1 hj with rfl | hj
      · obtain ⟨_, ot, hot, hall⟩ := mem_ready.1 hr
        have : oj = ot := Option.some.inj (hoj.symm.trans hot)
        subst this
        have h2 := hall e he hb
        rw [hon, getD_both hun] at h2
        cases h2
      · cases hl : listed.getD j false with
        | true =>
          have h2 := hcl j oj hoj hl e he hb
          rw [hon, getD_both hun] at h2
          cases h2
        | false =>
          have hjs : j < listed.size := by rw [hsz]; exact (Array.getElem?_eq_some_iff.1 hoj).1
          exact ih hs.2 ⟨j, hj, getD_in hjs hl⟩ hr
    · exact ih hs.2 ⟨i, hi, hun⟩ hr
theorem pick_waits {t0 : Nat} {tl l : List Nat} {listed : Array Bool} (hs : pickSink md ops t0 l = true) (hc : pickChain md ops t0 tl = true) (inv : PickInv md ops (t0 :: tl) listed) (hu : ∃ i ∈ l, listed.getD i true = false) :
    ∀ t ∈ t0 :: tl, t ∉ Region.ready md ops listed := by
  intro t ht
  rcases List.mem_cons.1 ht with rfl | ht
  · exact pick_first_waits inv.closed inv.size l hs hu
  · exact pick_chain_waits tl t0 hc inv.tail t ht

/-- whatever order is picked for the head, L holds behind it -/
def pickAny (P : Program) (md : Region.Mode) (ops : Array Oper) (C : World → Prop) (tl : List Nat) (L : Array Bool → Act → Prop) : Nat → Array Bool → Act → Prop
  | 0, listed, a => L listed a
  | f + 1, listed, a =>
    Region.ready md ops listed ≠ [] ∧ ∀ i ∈ Region.ready md ops listed, i ∉ tl ∧ qOp P ops C i (pickAny P md ops C tl L f (listed.setIfInBounds i true)) a

theorem any_of_pick {g : Nat} {tl : List Nat} {L : Array Bool → Act → Prop} {Q' : Exit → Act → World → Prop} (hL : ∀ listed a w, C w → L listed a → wpAny P md ops Q' g listed a w) :
    ∀ (f : Nat) (listed : Array Bool) (a : Act) (w : World), C w → pickAny P md ops C tl L f listed a → wpAny P md ops Q' (f + g) listed a w
  | 0, listed, a, w, hw, h => by rw [Nat.zero_add]; exact hL _ _ _ hw h
  | f + 1, listed, a, w, hw, h => by
    rw [show f + 1 + g = (f + g) + 1 by omega]
    exact ⟨fun h0 => absurd h0 h.1, fun i hi => wpOp_of_qOp hw (fun a' w' hw' h' => any_of_pick hL f _ a' w' hw' h') (h.2 i hi).2⟩

theorem pickAny_first {i t0 : Nat} {tl l0 : List Nat} {oi : Oper} {v : Value} {L : Array Bool → Act → Prop} (hi : ops[i]? = some oi) (hsel : ∀ (j : Nat) (o : Oper) cs b, ops[j]? = some o → o.op ≠ .select cs b)
    (hs : pickSink md ops t0 l0 = true) (hc : pickChain md ops t0 tl = true) (hin : i ∈ l0) (hin' : i ∉ t0 :: tl)
    (hdone : ∀ listed a, L listed a → ∀ j ∈ Region.ready md ops listed, j ∈ t0 :: tl) :
    ∀ (f : Nat) (listed : Array Bool) (a : Act), PickInv md ops (t0 :: tl) listed →
      (∀ j oj, ops[j]? = some oj → j ≠ i → listed.getD j true = false → (∀ e ∈ oj.after, Region.binds md e = true → e.on ≠ i) → oi.apart ops oj = true) →
      i ∈ Region.ready md ops listed → YieldsIn P ops C oi v a →
      pickAny P md ops C (t0 :: tl) L f (listed.setIfInBounds i true) (a.put oi.dst v) → pickAny P md ops C (t0 :: tl) L (f + 1) listed a := by
  intro f
  induction f with
  | zero =>
    intro listed a inv _ hr hy H
    have hun := (mem_ready.1 hr).1
    refine ⟨fun h => (by rw [h] at hr; cases hr), fun j hj => ?_⟩
    have hjn : j ∉ t0 :: tl := fun h => pick_waits hs hc inv ⟨i, hin, hun⟩ j h hj
    refine ⟨hjn, ?_⟩
    by_cases hji : j = i
    · subst hji; exact hy.qOp hi H
    · exact absurd (hdone _ _ H j (ready_mono hj hji)) hjn
  | succ f ih =>
    intro listed a inv hfree hr hy H
    have hun := (mem_ready.1 hr).1
    refine ⟨fun h => (by rw [h] at hr; cases hr), fun j hj => ?_⟩
    have hjn : j ∉ t0 :: tl := fun h => pick_waits hs hc inv ⟨i, hin, hun⟩ j h hj
    refine ⟨hjn, ?_⟩
    by_cases hji : j = i
    · subst hji; exact hy.qOp hi H
    · have h1 := (H.2 j (ready_mono hj hji)).2
      obtain ⟨hjun, oj, hoj, hall⟩ := mem_ready.1 hj
      have hnot : ∀ e ∈ oj.after, Region.binds md e = true → e.on ≠ i := fun e he hb heq => by
        have h1 := hall e he hb
        rw [heq, getD_both hun] at h1
        cases h1
      have h2 := qOp_put hoj (hfree j oj hoj hji hjun hnot) (fun cs b => hsel i oi cs b hi) (fun cs b => hsel j oj cs b hoj) hy h1
      have hfree' : ∀ k ok, ops[k]? = some ok → k ≠ i → (listed.setIfInBounds j true).getD k true = false →
          (∀ e ∈ ok.after, Region.binds md e = true → e.on ≠ i) → oi.apart ops ok = true := fun k ok hk hki hun hno => by
        refine hfree k ok hk hki ?_ hno
        by_cases hjk : j = k
        · subst hjk; exact hjun
        · rw [getD_set_ne true hjk] at hun; exact hun
      refine qOp_mono (fun a' h3 => ih (listed.setIfInBounds j true) a' (inv.set hj hjn) hfree' (ready_mono hr (Ne.symm hji)) h3.1 ?_) h2
      rw [Array.setIfInBounds_comm _ _ hji]
      exact h3.2

theorem pickSeq_ready {tl : List Nat} {listed : Array Bool} (h : pickSeq md ops tl listed = true) : ∀ j ∈ Region.ready md ops listed, j ∈ tl := by
  cases tl with
  | nil => intro j hj; simp only [pickSeq, List.isEmpty_iff] at h; rw [h] at hj; cases hj
  | cons t r =>
    intro j hj
    simp only [pickSeq, Bool.and_eq_true, decide_eq_true_eq] at h
    rw [h.1] at hj
    have : j = t := by simpa using hj
    subst this
    simp

def atIdx (ops : Array Oper) (l : List Nat) : List Oper := l.filterMap fun i => ops[i]?

theorem pickAny_lex {t0 : Nat} {tl l0 : List Nat} {Lq : Act → Prop} (hsel : Region.noSelect ops = true) (hs : pickSink md ops t0 l0 = true) (hc : pickChain md ops t0 tl = true) :
    ∀ (l : List Nat) (listed : Array Bool) (a : Act), (∀ i ∈ l, i ∈ l0 ∧ i ∉ t0 :: tl ∧ i < ops.size) → PickInv md ops (t0 :: tl) listed →
    pickHead md ops (t0 :: tl) l listed = true → wpQuiet P ops C Lq (atIdx ops l) a →
    pickAny P md ops C (t0 :: tl) (fun listed' a' => pickSeq md ops (t0 :: tl) listed' = true ∧ Lq a') l.length listed a
  | [], listed, a, _, _, hB, h => ⟨by simpa [pickHead] using hB, h⟩
  | k :: l, listed, a, hl, inv, hB, h => by
    obtain ⟨hk1, hk2, hk3⟩ := hl k (by simp)
    have h0 : ops[k]? = some (ops[k]'hk3) := Array.getElem?_eq_getElem hk3
    simp only [pickHead, Bool.and_eq_true] at hB
    obtain ⟨⟨hr, hf⟩, hB'⟩ := hB
    have hr' : k ∈ Region.ready md ops listed := by simpa using hr
    have e : atIdx ops (k :: l) = ops[k]'hk3 :: atIdx ops l := by simp [atIdx, h0]
    rw [e] at h
    have hst : qOp P ops C k (wpQuiet P ops C Lq (atIdx ops l)) a := by unfold qOp; simp only [h0]; exact h
    obtain ⟨v, hy, hK⟩ := yieldsIn_of_qOp h0 hst
    exact pickAny_first h0 (Region.noSelect_spec hsel) hs hc hk1 hk2 (fun listed' a' hL => pickSeq_ready hL.1) l.length listed a inv (Region.free_spec h0 hf) hr' hy
      (pickAny_lex hsel hs hc l _ _ (fun i hi => hl i (by simp [hi])) (inv.set hr' hk2) hB' hK)

theorem wpAny_of_pickSeq {Q' : Exit → Act → World → Prop} : ∀ (l : List Nat) (listed : Array Bool) (a : Act) (w : World), (∀ i ∈ l, i < ops.size) →
    pickSeq md ops l listed = true → wpList P ops Q' (atIdx ops l) a w → wpAny P md ops Q' l.length listed a w
  | [], _, _, _, _, hB, h => ⟨by simpa [pickSeq] using hB, h⟩
  | k :: l, listed, a, w, hl, hB, h => by
    have hk3 := hl k (by simp)
    have h0 : ops[k]? = some (ops[k]'hk3) := Array.getElem?_eq_getElem hk3
    have e : atIdx ops (k :: l) = ops[k]'hk3 :: atIdx ops l := by simp [atIdx, h0]
    rw [e] at h
    simp only [pickSeq, Bool.and_eq_true, decide_eq_true_eq] at hB
    refine ⟨fun h1 => (by rw [hB.1] at h1; cases h1), fun i hi => ?_⟩
    rw [hB.1] at hi
    have hik : i = k := by simpa using hi
    subst hik
    have hw : wpOp P ops Q' i (wpList P ops Q' (atIdx ops l)) a w := by unfold wpOp; simp only [h0]; exact h
    exact wpOp_mono (fun a' w' h' => wpAny_of_pickSeq l _ a' w' (fun i hi => hl i (by simp [hi])) hB.2 h') hw

/-- all that is to be checked -/
def pickB (md : Region.Mode) (ops : Array Oper) (listed : Array Bool) (hd : List Nat) (t0 : Nat) (tl : List Nat) : Bool :=
  Region.noSelect ops && pickSink md ops t0 hd && pickChain md ops t0 tl && pickClosed md ops listed && (t0 :: tl).all (fun t => !listed.getD t true) &&
  hd.all (fun i => !(t0 :: tl).contains i && decide (i < ops.size)) && (t0 :: tl).all (fun i => decide (i < ops.size)) && pickHead md ops (t0 :: tl) hd listed

theorem wpAny_pick {Q : Exit → Act → World → Prop} {a : Act} {w : World} {listed : Array Bool} {fuel : Nat} (hd : List Nat) (t0 : Nat) (tl : List Nat) (hB : pickB md ops listed hd t0 tl = true) (hf : fuel = hd.length + (t0 :: tl).length) (hC : C w)
    (h : wpQuiet P ops C (fun a' => ∀ w', C w' → wpList P ops Q (atIdx ops (t0 :: tl)) a' w') (atIdx ops hd) a) : wpAny P md ops Q fuel listed a w := by
  subst hf
  simp only [pickB, Bool.and_eq_true] at hB
  obtain ⟨⟨⟨⟨⟨⟨⟨hsel, hs⟩, hc⟩, hcl⟩, htl⟩, hin⟩, hlt⟩, hh⟩ := hB
  have hin' : ∀ i ∈ hd, i ∈ hd ∧ i ∉ t0 :: tl ∧ i < ops.size := fun i hi => by
    have := List.all_eq_true.1 hin i hi
    simp only [Bool.and_eq_true, decide_eq_true_eq, Bool.not_eq_true'] at this
    refine ⟨hi, (fun hm => ?_), this.2⟩
    have h1 := this.1
    rw [List.contains_iff_mem.2 hm] at h1
    cases h1
  have H := pickAny_lex (md := md) (Lq := fun a' => ∀ w', C w' → wpList P ops Q (atIdx ops (t0 :: tl)) a' w') hsel hs hc hd listed a hin' (PickInv.of_closed hcl htl) hh h
  exact any_of_pick (Q' := Q) (g := (t0 :: tl).length) (fun listed a' w' hw' hL => wpAny_of_pickSeq (t0 :: tl) listed a' w' (fun i hi => by simpa using List.all_eq_true.1 hlt i hi) hL.1 (hL.2 w' hw')) _ _ _ _ hC H

/-- the region in the order hd, then t0 :: tl; the head's calls make memory alone -/
theorem wp_region_pick {id : Nat} {Q : Exit → Act → World → Prop} {a : Act} {w : World} (hd : List Nat) (t0 : Nat) (tl : List Nat) (hm : P.follows .mixedOrders = true) (hB : pickB .any ops (Array.replicate ops.size false) hd t0 tl = true) (hf : ops.size = hd.length + (t0 :: tl).length)
    (h : wpQuiet P ops (fun w' => ∃ p : Regrown, w' = grow (redrawn w p.d) p.os) (fun a' => ∀ w', (∃ p : Regrown, w' = grow (redrawn w p.d) p.os) → wpList P ops Q (atIdx ops (t0 :: tl)) a' w') (atIdx ops hd) a) : (Code.region id ops true).wp P Q a w := by
  refine wp_region_any hm ?_
  exact wpAny_pick (C := fun w' => ∃ p : Regrown, w' = grow (redrawn w p.d) p.os) hd t0 tl hB hf ⟨⟨w.drawn + 1, #[]⟩, by rw [grow_empty]; rfl⟩ h
end
end Go.Proofs.YtgkpgjbgcimijaaDoor
