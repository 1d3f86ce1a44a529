/-
  A region that draws its order, whose first n operations read, call what makes memory alone, or lay new variables; the rest stands behind them all in one forced order. One walk serves every order; the new variables lie in blocks of their own. Conditions: the lemma says its own.
-/
import Derived.Test.YtgkpgjbgcimijaaDoorTail
namespace Go.Proofs.YtgkpgjbgcimijaaDoor
set_option linter.unusedVariables false
open Go.RowKit Go.Sort

def isAlloc (o : Oper) : Bool := match o.op with
  | .alloc _ => o.guard.isNone && o.dst.isSome
  | _ => false
/-- the operation, a new variable struck -/
def shade (o : Oper) : Oper := if isAlloc o then { o with op := .move (.const undef) } else o
theorem shade_dst (o : Oper) : (shade o).dst = o.dst := by unfold shade; split <;> rfl
theorem shade_after (o : Oper) : (shade o).after = o.after := by unfold shade; split <;> rfl
theorem shade_guard (o : Oper) : (shade o).guard = o.guard := by unfold shade; split <;> rfl
theorem shade_det {o : Oper} (h : isAlloc o = false) : shade o = o := by unfold shade; rw [h]; rfl

section
variable {P : Program} {ops : Array Oper} {md : Region.Mode} {C : World → Prop}

theorem ready_shade (listed : Array Bool) : Region.ready md (ops.map shade) listed = Region.ready md ops listed := by
  unfold Region.ready
  rw [Array.size_map]
  apply List.filter_congr
  intro i _
  congr 1
  rw [Array.getElem?_map]
  cases ops[i]? with
  | none => rfl
  | some o => simp [shade_after]
theorem yielded_shade (tmps : Array Value) : yielded (ops.map shade) tmps = yielded ops tmps := by
  funext j
  unfold yielded
  rw [Array.getElem?_map]
  cases ops[j]? with
  | none => rfl
  | some o => simp [shade_dst]
theorem wanted_shade (o : Oper) (y : Nat → Option Bool) : Region.wanted (shade o) y = Region.wanted o y := by
  unfold Region.wanted
  rw [shade_guard]

/-- some slots hold pointers to new blocks -/
def over (g : Tmp → Option Nat) (a : Act) : Act := { a with tmps := a.tmps.mapIdx fun t v => match g t with
  | some b => .pointer (some ⟨b, 0, none⟩)
  | none => v }
theorem over_get (g : Tmp → Option Nat) (a : Act) (t : Tmp) (h : g t = none) : (over g a).tmps[t]? = a.tmps[t]? := by
  unfold over
  simp only [Array.getElem?_mapIdx, h]
  cases a.tmps[t]? <;> rfl
theorem over_eval (g : Tmp → Option Nat) (a : Act) (x : Operand) (h : ∀ d, x = .tmp d → g d = none) : (over g a).eval x = a.eval x := by
  cases x with
  | tmp t =>
    have := over_get g a t (h t rfl)
    simp [Act.eval, this]
  | _ => rfl
theorem over_put (g : Tmp → Option Nat) (a : Act) (dst : Option Tmp) (v : Value) (h : ∀ d, dst = some d → g d = none) : (over g a).put dst v = over g (a.put dst v) := by
  cases dst with
  | none => rfl
  | some d =>
    have hd := h d rfl
    unfold over Act.put
    simp only [Act.mk.injEq, and_true]
    apply Array.ext_getElem?
    intro i
    simp only [Array.getElem?_setIfInBounds, Array.getElem?_mapIdx, Array.size_mapIdx]
    by_cases e : d = i
    · subst e
      simp only [hd, if_true]
      by_cases hlt : d < a.tmps.size <;> simp [hlt]
    · simp [e]
theorem over_alloc (g : Tmp → Option Nat) (a : Act) (d : Tmp) (b : Nat) (u : Value) : (over g a).put (some d) (.pointer (some ⟨b, 0, none⟩)) = over (fun t => if t = d then some b else g t) (a.put (some d) u) := by
  unfold over Act.put
  simp only [Act.mk.injEq, and_true]
  apply Array.ext_getElem?
  intro i
  simp only [Array.getElem?_setIfInBounds, Array.getElem?_mapIdx, Array.size_mapIdx]
  by_cases e : d = i
  · subst e
    by_cases hlt : d < a.tmps.size <;> simp [hlt]
  · have e' : ¬ i = d := fun h => e h.symm
    simp [e, e']

/-- one operation: a value, in every world of the class; a call makes memory alone -/
def tOp (P : Program) (ops : Array Oper) (C : World → Prop) (i : Nat) (K : Act → Prop) (a : Act) : Prop :=
  match ops[i]? with
  | none => K a
  | some o => if Region.wanted o (yielded ops a.tmps) then (∃ v, (∀ w, C w → o.quietAt P a (fun w'' => Below w.heap.size w w'') w v) ∧ K (a.put o.dst v)) else K (a.put o.dst undef)
theorem tOp_mono {i : Nat} {a : Act} {K K' : Act → Prop} (h : ∀ a, K a → K' a) (hh : tOp P ops C i K a) : tOp P ops C i K' a := by
  unfold tOp at *
  split
  · exact h _ (by simpa [*] using hh)
  · rename_i o ho
    simp only [ho] at hh
    split
    · rename_i hw; simp only [hw, if_true] at hh; exact hh.imp fun v hv => ⟨hv.1, h _ hv.2⟩
    · rename_i hw; simp only [hw] at hh; exact h _ hh

def YieldsT (P : Program) (ops : Array Oper) (C : World → Prop) (o : Oper) (v : Value) (a : Act) : Prop :=
  (Region.wanted o (yielded ops a.tmps) = true ∧ ∀ w, C w → o.quietAt P a (fun w'' => Below w.heap.size w w'') w v) ∨
  (Region.wanted o (yielded ops a.tmps) = false ∧ v = undef)
theorem YieldsT.tOp {i : Nat} {o : Oper} {v : Value} {a : Act} (hi : ops[i]? = some o) (hy : YieldsT P ops C o v a) {K : Act → Prop} (h : K (a.put o.dst v)) : tOp P ops C i K a := by
  unfold Go.Proofs.YtgkpgjbgcimijaaDoor.tOp
  simp only [hi]
  rcases hy with ⟨hw, hv⟩ | ⟨hw, rfl⟩
  · simp only [hw, if_true]; exact ⟨v, hv, h⟩
  · simp only [hw, Bool.false_eq_true, if_false]; exact h
theorem YieldsT.of_same {o : Oper} {v : Value} {a a' : Act} (hy : YieldsT P ops C o v a) (he : execOp a'.eval o = execOp a.eval o)
    (hw : Region.wanted o (yielded ops a'.tmps) = Region.wanted o (yielded ops a.tmps)) : YieldsT P ops C o v a' := by
  unfold YieldsT Oper.quietAt at *
  rw [he, hw]
  exact hy
theorem tOp_put {j : Nat} {oi oj : Oper} {v : Value} (hj : ops[j]? = some oj) (hap : oi.apart ops oj = true)
    (hsi : ∀ cs b, oi.op ≠ .select cs b) (hsj : ∀ cs b, oj.op ≠ .select cs b) {K : Act → Prop} {a : Act}
    (hy : YieldsT P ops C oi v a) (h : tOp P ops C j K (a.put oi.dst v)) :
    tOp P ops C j (fun a' => YieldsT P ops C oi v a' ∧ K (a'.put oi.dst v)) a := by
  obtain ⟨h1, h2, h3⟩ := Oper.apart_spec hap
  have keep : ∀ (a : Act), YieldsT P ops C oi v a → ∀ u, YieldsT P ops C oi v (a.put oj.dst u) := fun a hy u =>
    hy.of_same (execOp_put oi hsi a oj.dst u h3) (wanted_put oi a oj.dst u h3)
  unfold tOp at *
  simp only [hj] at *
  rw [wanted_put oj a oi.dst v h1] at h
  split
  · rename_i hw
    simp only [hw, if_true] at h
    obtain ⟨u, hu, hn⟩ := h
    refine ⟨u, fun w hw' => ?_, keep a hy u, by rw [← Act.put_comm a v u h2]; exact hn⟩
    have := hu w hw'
    unfold Oper.quietAt at *
    rwa [execOp_put oj hsj a oi.dst v h1] at this
  · rename_i hw
    simp only [hw] at h
    exact ⟨keep a hy _, by rw [← Act.put_comm a v undef h2]; exact h⟩

/-- whatever order is picked for the first operations, L holds behind them -/
def headT (P : Program) (md : Region.Mode) (ops : Array Oper) (C : World → Prop) (n : Nat) (L : Array Bool → Act → Prop) : Nat → Array Bool → Act → Prop
  | 0, listed, a => L listed a
  | f + 1, listed, a =>
    Region.ready md ops listed ≠ [] ∧ ∀ i ∈ Region.ready md ops listed, i < n ∧ tOp P ops C i (headT P md ops C n L f (listed.setIfInBounds i true)) a

theorem headT_first {n i : Nat} {oi : Oper} {v : Value} {L : Array Bool → Act → Prop} (hi : ops[i]? = some oi) (hsel : ∀ (j : Nat) (o : Oper) cs b, ops[j]? = some o → o.op ≠ .select cs b)
    (hs : Region.sinkB md ops n = true) (hc : Region.chainB md ops n = true) (hn : n < ops.size) (hin : i < n)
    (hdone : ∀ listed a, L listed a → ∀ j ∈ Region.ready md ops listed, n ≤ j) :
    ∀ (f : Nat) (listed : Array Bool) (a : Act), HeadInv md ops n listed →
      (∀ j oj, ops[j]? = some oj → j ≠ i → listed.getD j true = false → (∀ e ∈ oj.after, Region.binds md e = true → e.on ≠ i) → oi.apart ops oj = true) →
      i ∈ Region.ready md ops listed → YieldsT P ops C oi v a →
      headT P md ops C n L f (listed.setIfInBounds i true) (a.put oi.dst v) → headT P md ops C n L (f + 1) listed a := by
  intro f
  induction f with
  | zero =>
    intro listed a inv _ hr hy H
    have hun := (mem_ready.1 hr).1
    refine ⟨fun h => (by rw [h] at hr; cases hr), fun j hj => ?_⟩
    have hjn : j < n := by
      rcases Nat.lt_or_ge j n with h | h
      · exact h
      · exact absurd hj (tail_waits hs hc hn inv _ i rfl hin hun j h)
    refine ⟨hjn, ?_⟩
    by_cases hji : j = i
    · subst hji; exact hy.tOp hi H
    · have := hdone _ _ H j (ready_mono hj hji)
      omega
  | succ f ih =>
    intro listed a inv hfree hr hy H
    have hun := (mem_ready.1 hr).1
    refine ⟨fun h => (by rw [h] at hr; cases hr), fun j hj => ?_⟩
    have hjn : j < n := by
      rcases Nat.lt_or_ge j n with h | h
      · exact h
      · exact absurd hj (tail_waits hs hc hn inv _ i rfl hin hun j h)
    refine ⟨hjn, ?_⟩
    by_cases hji : j = i
    · subst hji; exact hy.tOp hi H
    · have h1 := (H.2 j (ready_mono hj hji)).2
      obtain ⟨hjun, oj, hoj, hall⟩ := mem_ready.1 hj
      have hnot : ∀ e ∈ oj.after, Region.binds md e = true → e.on ≠ i := fun e he hb heq => by
        have h1 := hall e he hb
        rw [heq, getD_both hun] at h1
        cases h1
      have h2 := tOp_put hoj (hfree j oj hoj hji hjun hnot) (fun cs b => hsel i oi cs b hi) (fun cs b => hsel j oj cs b hoj) hy h1
      have hfree' : ∀ k ok, ops[k]? = some ok → k ≠ i → (listed.setIfInBounds j true).getD k true = false →
          (∀ e ∈ ok.after, Region.binds md e = true → e.on ≠ i) → oi.apart ops ok = true := fun k ok hk hki hun hno => by
        refine hfree k ok hk hki ?_ hno
        by_cases hjk : j = k
        · subst hjk; exact hjun
        · rw [getD_set_ne true hjk] at hun; exact hun
      refine tOp_mono (fun a' h3 => ih (listed.setIfInBounds j true) a' (inv.set hj hjn) hfree' (ready_mono hr (Ne.symm hji)) h3.1 ?_) h2
      rw [Array.setIfInBounds_comm _ _ hji]
      exact h3.2

/-- the slots that n operations write -/
def dstsB (l : List Oper) (size : Nat) : Bool := l.all (fun o => match o.dst with
  | some d => decide (d < size)
  | none => false)
def apartB : List Oper → Bool
  | [] => true
  | o :: rest => rest.all (fun x => x.dst != o.dst) && apartB rest

/-- the walk, every world's to one end: it writes no slot but its own -/
theorem quiet_keeps {C : World → Prop} (aF : Act) (d : Tmp) : ∀ (l : List Oper) (a : Act), (∀ o ∈ l, o.dst ≠ some d) → wpQuiet P ops C (fun a' => a' = aF) l a → aF.tmps[d]? = a.tmps[d]?
  | [], a, _, h => by rw [show a = aF from h]
  | o :: rest, a, hd, h => by
    have hput : ∀ v, (a.put o.dst v).tmps[d]? = a.tmps[d]? := fun v => by
      have := hd o (by simp)
      cases e : o.dst with
      | none => rfl
      | some d' =>
        have hne : d' ≠ d := fun h => this (by rw [e, h])
        simp [Act.put, Array.getElem?_setIfInBounds_ne hne]
    unfold wpQuiet at h
    split at h
    · obtain ⟨v, _, h2⟩ := h
      rw [quiet_keeps aF d rest _ (fun o ho => hd o (by simp [ho])) h2, hput]
    · rw [quiet_keeps aF d rest _ (fun o ho => hd o (by simp [ho])) h, hput]

/-- one operation of such a walk -/
theorem yields_of_walks (w0 : World) (aF : Act) (o : Oper) (rest : List Oper) (a : Act) (d : Tmp) (hd : o.dst = some d) (hlt : d < a.tmps.size) (hrest : ∀ x ∈ rest, x.dst ≠ some d)
    (h : ∀ w1, Below w0.heap.size w0 w1 → wpQuiet P ops (fun w' => ∃ p : Regrown, w' = grow (redrawn w1 p.d) p.os) (fun a' => a' = aF) (o :: rest) a) :
    ∃ v, YieldsT P ops (fun w => Below w0.heap.size w0 w) o v a ∧ ∀ w1, Below w0.heap.size w0 w1 → wpQuiet P ops (fun w' => ∃ p : Regrown, w' = grow (redrawn w1 p.d) p.os) (fun a' => a' = aF) rest (a.put o.dst v) := by
  by_cases hw : Region.wanted o (yielded ops a.tmps) = true
  · have hv : ∀ v w1, wpQuiet P ops (fun w' => ∃ p : Regrown, w' = grow (redrawn w1 p.d) p.os) (fun a' => a' = aF) rest (a.put o.dst v) → aF.tmps[d]? = some v := fun v w1 hq => by
      rw [quiet_keeps aF d rest _ hrest hq, hd]
      simp [Act.put, hlt]
    have hone : ∀ w1, Below w0.heap.size w0 w1 → ∃ v, (∀ w, (∃ p : Regrown, w = grow (redrawn w1 p.d) p.os) → o.quietAt P a (fun w' => ∃ p : Regrown, w' = grow (redrawn w1 p.d) p.os) w v) ∧ wpQuiet P ops (fun w' => ∃ p : Regrown, w' = grow (redrawn w1 p.d) p.os) (fun a' => a' = aF) rest (a.put o.dst v) := fun w1 h1 => by
      have := h w1 h1
      unfold wpQuiet at this
      rw [if_pos hw] at this
      exact this
    obtain ⟨v, hv1, hv2⟩ := hone w0 (Below.refl _ _)
    have hvF := hv v w0 hv2
    have same : ∀ w1, Below w0.heap.size w0 w1 → (∀ w, (∃ p : Regrown, w = grow (redrawn w1 p.d) p.os) → o.quietAt P a (fun w' => ∃ p : Regrown, w' = grow (redrawn w1 p.d) p.os) w v) ∧ wpQuiet P ops (fun w' => ∃ p : Regrown, w' = grow (redrawn w1 p.d) p.os) (fun a' => a' = aF) rest (a.put o.dst v) := fun w1 h1 => by
      obtain ⟨u, hu1, hu2⟩ := hone w1 h1
      have := hv u w1 hu2
      rw [hvF] at this
      have : v = u := by simpa using this
      subst this
      exact ⟨hu1, hu2⟩
    refine ⟨v, .inl ⟨hw, fun w1 h1 => ?_⟩, fun w1 h1 => (same w1 h1).2⟩
    have hq := (same w1 h1).1 w1 ⟨⟨w1.drawn, #[]⟩, by rw [grow_empty]; rfl⟩
    unfold Oper.quietAt at hq ⊢
    generalize (execOp a.eval o).run P w1 = r at hq
    cases r with
    | ok nx w' =>
      cases nx <;> simp only [Oper.quietUpon] at hq ⊢ <;> try exact hq
      refine ⟨hq.1, hq.2.mono fun e w'' ⟨he, p, hp⟩ => ⟨he, ?_⟩⟩
      rw [hp]
      exact below_regrown w1 p.d p.os
    | halt x w' => simp only [Oper.quietUpon] at hq
  · refine ⟨undef, .inr ⟨by simpa using hw, rfl⟩, fun w1 h1 => ?_⟩
    have := h w1 h1
    unfold wpQuiet at this
    rw [if_neg hw] at this
    exact this

theorem headT_lex {n g : Nat} (w0 : World) (aF : Act) (hsel : Region.noSelect ops = true) (hs : Region.sinkB md ops n = true) (hc : Region.chainB md ops n = true) (hn : n < ops.size) :
    ∀ (l : List Oper) (k : Nat) (listed : Array Bool) (a : Act), (∀ j, j < l.length → l[j]? = ops[k + j]?) → k + l.length = n → HeadInv md ops n listed →
    Region.lexHead md ops g l.length k listed = true → dstsB l a.tmps.size = true → apartB l = true →
    (∀ w1, Below w0.heap.size w0 w1 → wpQuiet P ops (fun w' => ∃ p : Regrown, w' = grow (redrawn w1 p.d) p.os) (fun a' => a' = aF) l a) →
    headT P md ops (fun w => Below w0.heap.size w0 w) n (fun listed' a' => Region.seqB md ops g n listed' = true ∧ a' = aF) l.length listed a
  | [], k, listed, a, _, hk, _, hB, _, _, h => by
    have : k = n := by simpa using hk
    subst this
    exact ⟨by simpa [Region.lexHead] using hB, h w0 (Below.refl _ _)⟩
  | o :: l, k, listed, a, hl, hk, inv, hB, hd, hap, h => by
    have h0 : ops[k]? = some o := by simpa using (hl 0 (by simp)).symm
    simp only [List.length_cons, Region.lexHead, Bool.and_eq_true] at hB
    obtain ⟨⟨hr, hf⟩, hB'⟩ := hB
    have hkn : k < n := by simp only [List.length_cons] at hk; omega
    have hr' : k ∈ Region.ready md ops listed := by simpa using hr
    have hd1 := List.all_eq_true.1 hd o (by simp)
    cases ed : o.dst with
    | none => rw [ed] at hd1; cases hd1
    | some d =>
      rw [ed] at hd1
      have hdlt : d < a.tmps.size := by simpa using hd1
      simp only [apartB, Bool.and_eq_true] at hap
      have hrest : ∀ x ∈ l, x.dst ≠ some d := fun x hx => by
        have := List.all_eq_true.1 hap.1 x hx
        rw [ed] at this
        simpa using this
      obtain ⟨v, hy, hK⟩ := yields_of_walks w0 aF o l a d ed hdlt hrest h
      have hsz : (a.put o.dst v).tmps.size = a.tmps.size := by rw [ed]; simp [Act.put]
      exact headT_first h0 (Region.noSelect_spec hsel) hs hc hn hkn (fun listed' a' hL => seqB_ready hL.1) l.length listed a inv (Region.free_spec h0 hf) hr' hy
        (headT_lex w0 aF hsel hs hc hn l (k + 1) _ _ (fun j hj => by have := hl (j + 1) (by simp; omega); simpa [Nat.add_assoc, Nat.add_comm 1 j] using this) (by simp only [List.length_cons] at hk; omega) (inv.set hr' hkn) hB'
          (by rw [hsz]; exact List.all_eq_true.2 fun x hx => List.all_eq_true.1 hd x (by simp [hx])) hap.2 hK)
end
end Go.Proofs.YtgkpgjbgcimijaaDoor
