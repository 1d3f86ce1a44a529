/-
  A region that draws its order, in which a new variable is laid at a time of its own, and whose one call's result leans on memory: hd (quiet, in any order), the call c, dl (quiet, in any order behind it), rest (forced, behind all); the variable k is laid anywhere ahead of rest. Conditions: each lemma says its own.
-/
import Derived.Test.YtgkpgjbgcimijaaDoorAlloc
import Derived.Test.YtgkpgjbgcimijaaDoorPick
namespace Go.Proofs.YtgkpgjbgcimijaaDoor
set_option linter.unusedVariables false
open Go.RowKit Go.Sort

section
variable {P : Program} {ops : Array Oper} {md : Region.Mode} {C D : World → Prop}

/-- each of the rest waits for the call, or for another of the rest -/
def chainT (md : Region.Mode) (ops : Array Oper) (c : Nat) (r : List Nat) : Bool := r.all fun u => (c :: r).any fun t => Region.waitsFor md ops u t
theorem chainT_waits {listed : Array Bool} {c : Nat} {r : List Nat} (h : chainT md ops c r = true) (hl : ∀ u ∈ c :: r, listed.getD u true = false) : ∀ u ∈ r, u ∉ Region.ready md ops listed := by
  intro u hu hr
  obtain ⟨t, ht, hw⟩ := List.any_eq_true.1 (List.all_eq_true.1 h u hu)
  obtain ⟨o', ho', e, he, hb, hon⟩ := Region.waitsFor_spec hw
  obtain ⟨_, ot, hot, hall⟩ := mem_ready.1 hr
  have : o' = ot := Option.some.inj (ho'.symm.trans hot)
  subst this
  have h2 := hall e he hb
  rw [hon, getD_both (hl t ht)] at h2
  cases h2
theorem pickT_waits {t0 : Nat} {tl l : List Nat} {listed : Array Bool} (hs : pickSink md ops t0 l = true) (hc : chainT md ops t0 tl = true) (inv : PickInv md ops (t0 :: tl) listed) (hu : ∃ i ∈ l, listed.getD i true = false) :
    ∀ t ∈ t0 :: tl, t ∉ Region.ready md ops listed := by
  intro t ht
  rcases List.mem_cons.1 ht with rfl | ht
  · exact pick_first_waits inv.closed inv.size l hs hu
  · exact chainT_waits hc inv.tail t ht

def pickT (P : Program) (md : Region.Mode) (ops : Array Oper) (C : World → Prop) (tl : List Nat) (L : Array Bool → Act → Prop) : Nat → Array Bool → Act → Prop
  | 0, listed, a => L listed a
  | f + 1, listed, a =>
    Region.ready md ops listed ≠ [] ∧ ∀ i ∈ Region.ready md ops listed, i ∉ tl ∧ tOp P ops C i (pickT P md ops C tl L f (listed.setIfInBounds i true)) a

theorem pickT_first {i t0 : Nat} {tl l0 : List Nat} {oi : Oper} {v : Value} {L : Array Bool → Act → Prop} (hi : ops[i]? = some oi) (hsel : ∀ (j : Nat) (o : Oper) cs b, ops[j]? = some o → o.op ≠ .select cs b)
    (hs : pickSink md ops t0 l0 = true) (hc : chainT md ops t0 tl = true) (hin : i ∈ l0) (hin' : i ∉ t0 :: tl)
    (hdone : ∀ listed a, L listed a → ∀ j ∈ Region.ready md ops listed, j ∈ t0 :: tl) :
    ∀ (f : Nat) (listed : Array Bool) (a : Act), PickInv md ops (t0 :: tl) listed →
      (∀ j oj, ops[j]? = some oj → j ≠ i → listed.getD j true = false → (∀ e ∈ oj.after, Region.binds md e = true → e.on ≠ i) → oi.apart ops oj = true) →
      i ∈ Region.ready md ops listed → YieldsT P ops C oi v a →
      pickT P md ops C (t0 :: tl) L f (listed.setIfInBounds i true) (a.put oi.dst v) → pickT P md ops C (t0 :: tl) L (f + 1) listed a := by
  intro f
  induction f with
  | zero =>
    intro listed a inv _ hr hy H
    have hun := (mem_ready.1 hr).1
    refine ⟨fun h => (by rw [h] at hr; cases hr), fun j hj => ?_⟩
    have hjn : j ∉ t0 :: tl := fun h => pickT_waits hs hc inv ⟨i, hin, hun⟩ j h hj
    refine ⟨hjn, ?_⟩
    by_cases hji : j = i
    · subst hji; exact hy.tOp hi H
    · exact absurd (hdone _ _ H j (ready_mono hj hji)) hjn
  | succ f ih =>
    intro listed a inv hfree hr hy H
    have hun := (mem_ready.1 hr).1
    refine ⟨fun h => (by rw [h] at hr; cases hr), fun j hj => ?_⟩
    have hjn : j ∉ t0 :: tl := fun h => pickT_waits hs hc inv ⟨i, hin, hun⟩ j h hj
    refine ⟨hjn, ?_⟩
    by_cases hji : j = i
    · subst hji; exact hy.tOp hi H
    · have h1 := (H.2 j (ready_mono hj hji)).2
      obtain ⟨hjun, oj, hoj, hall⟩ := mem_ready.1 hj
      have hnot : ∀ e ∈ oj.after, Region.binds md e = true → e.on ≠ i := fun e he hb heq => by
        have h1 := hall e he hb
        rw [heq, getD_both hun] at h1
        cases h1
      have h2 := tOp_put hoj (hfree j oj hoj hji hjun hnot) (fun cs b => hsel i oi cs b hi) (fun cs b => hsel j oj cs b hoj) hy h1
      have hfree' : ∀ k ok, ops[k]? = some ok → k ≠ i → (listed.setIfInBounds j true).getD k true = false →
          (∀ e ∈ ok.after, Region.binds md e = true → e.on ≠ i) → oi.apart ops ok = true := fun k ok hk hki hun hno => by
        refine hfree k ok hk hki ?_ hno
        by_cases hjk : j = k
        · subst hjk; exact hjun
        · rw [getD_set_ne true hjk] at hun; exact hun
      refine tOp_mono (fun a' h3 => ih (listed.setIfInBounds j true) a' (inv.set hj hjn) hfree' (ready_mono hr (Ne.symm hji)) h3.1 ?_) h2
      rw [Array.setIfInBounds_comm _ _ hji]
      exact h3.2

def headE (md : Region.Mode) (ops : Array Oper) (E : Array Bool → Bool) : List Nat → Array Bool → Bool
  | [], listed => E listed
  | k :: r, listed => (Region.ready md ops listed).contains k && Region.free md ops listed k && headE md ops E r (listed.setIfInBounds k true)

theorem pickT_lex {t0 : Nat} {tl l0 : List Nat} (w0 : World) (aF : Act) (E : Array Bool → Bool) (hE : ∀ listed, E listed = true → ∀ j ∈ Region.ready md ops listed, j ∈ t0 :: tl)
    (hsel : Region.noSelect ops = true) (hs : pickSink md ops t0 l0 = true) (hc : chainT md ops t0 tl = true) :
    ∀ (l : List Nat) (listed : Array Bool) (a : Act), (∀ i ∈ l, i ∈ l0 ∧ i ∉ t0 :: tl ∧ i < ops.size) → PickInv md ops (t0 :: tl) listed →
    headE md ops E l listed = true → dstsB (atIdx ops l) a.tmps.size = true → apartB (atIdx ops l) = true →
    (∀ w1, Below w0.heap.size w0 w1 → wpQuiet P ops (fun w' => ∃ p : Regrown, w' = grow (redrawn w1 p.d) p.os) (fun a' => a' = aF) (atIdx ops l) a) →
    pickT P md ops (fun w => Below w0.heap.size w0 w) (t0 :: tl) (fun listed' a' => E listed' = true ∧ a' = aF) l.length listed a
  | [], listed, a, _, _, hB, _, _, h => ⟨by simpa [headE] using hB, h w0 (Below.refl _ _)⟩
  | k :: l, listed, a, hl, inv, hB, hd, hap, h => by
    obtain ⟨hk1, hk2, hk3⟩ := hl k (by simp)
    have h0 : ops[k]? = some (ops[k]'hk3) := Array.getElem?_eq_getElem hk3
    simp only [headE, Bool.and_eq_true] at hB
    obtain ⟨⟨hr, hf⟩, hB'⟩ := hB
    have hr' : k ∈ Region.ready md ops listed := by simpa using hr
    have e : atIdx ops (k :: l) = ops[k]'hk3 :: atIdx ops l := by simp [atIdx, h0]
    rw [e] at h hd hap
    generalize ops[k]'hk3 = o at *
    have hd1 := List.all_eq_true.1 hd o (by simp)
    cases ed : o.dst with
    | none => rw [ed] at hd1; cases hd1
    | some d =>
      rw [ed] at hd1
      have hdlt : d < a.tmps.size := by simpa using hd1
      simp only [apartB, Bool.and_eq_true] at hap
      have hrest : ∀ x ∈ atIdx ops l, x.dst ≠ some d := fun x hx => by
        have := List.all_eq_true.1 hap.1 x hx
        rw [ed] at this
        simpa using this
      obtain ⟨v, hy, hK⟩ := yields_of_walks w0 aF o (atIdx ops l) a d ed hdlt hrest h
      have hsz : (a.put o.dst v).tmps.size = a.tmps.size := by rw [ed]; simp [Act.put]
      exact pickT_first h0 (Region.noSelect_spec hsel) hs hc hk1 hk2 (fun listed' a' hL => hE _ hL.1) l.length listed a inv (Region.free_spec h0 hf) hr' hy
        (pickT_lex w0 aF E hE hsel hs hc l _ _ (fun i hi => hl i (by simp [hi])) (inv.set hr' hk2) hB'
          (by rw [hsz]; exact List.all_eq_true.2 fun x hx => List.all_eq_true.1 hd x (by simp [hx])) hap.2 hK)

theorem pickT_put {k : Nat} {ok : Oper} (hsel : ∀ (j : Nat) (o : Oper) cs b, ops[j]? = some o → o.op ≠ .select cs b) {tl : List Nat} {L : Array Bool → Act → Prop}
    (hap : ∀ j oj, ops[j]? = some oj → j ∉ tl → j ≠ k → ok.apart ops oj = true) (u : Value) :
    ∀ (f : Nat) (listed : Array Bool) (a : Act), listed.getD k true = true → pickT P md ops C tl L f listed a →
      pickT P md ops C tl (fun listed' a' => ∃ a0, L listed' a0 ∧ a' = a0.put ok.dst u) f listed (a.put ok.dst u)
  | 0, listed, a, _, h => ⟨a, h, rfl⟩
  | f + 1, listed, a, hk, h => ⟨h.1, fun i hi => ⟨(h.2 i hi).1, by
      obtain ⟨hun, oi, hoi, _⟩ := mem_ready.1 hi
      have hik : i ≠ k := by rintro rfl; rw [hk] at hun; cases hun
      obtain ⟨h1, h2, h3⟩ := Oper.apart_spec (hap i oi hoi (h.2 i hi).1 hik)
      have hk' : (listed.setIfInBounds i true).getD k true = true := by rw [getD_set_ne true hik]; exact hk
      have this := (h.2 i hi).2
      unfold tOp at this ⊢
      simp only [hoi] at this ⊢
      rw [wanted_put oi a ok.dst u h1]
      split
      · rename_i hw
        simp only [hw, if_true] at this
        obtain ⟨v, hv, hn⟩ := this
        refine ⟨v, fun w hw' => ?_, ?_⟩
        · have h5 := hv w hw'
          unfold Oper.quietAt at *
          rwa [execOp_put oi (fun cs b => hsel i oi cs b hoi) a ok.dst u h1]
        · rw [Act.put_comm a u v h2]
          exact pickT_put hsel hap u f _ _ hk' hn
      · rename_i hw
        simp only [hw] at this
        rw [Act.put_comm a u undef h2]
        exact pickT_put hsel hap u f _ _ hk' this⟩⟩

theorem wpOp_of_tOp {i : Nat} {a : Act} {K : Act → Prop} {K' : Act → World → Prop} {Q' : Exit → Act → World → Prop} {w : World} (hDC : ∀ w, D w → C w) (hDB : ∀ w w'', D w → Below w.heap.size w w'' → D w'') (hw : D w)
    (h : ∀ a' w', D w' → K a' → K' a' w') (hh : tOp P ops C i K a) : wpOp P ops Q' i K' a w := by
  unfold tOp at hh
  unfold wpOp
  split
  · rename_i ho; simp only [ho] at hh; exact h _ _ hw hh
  · rename_i o ho
    simp only [ho] at hh
    split
    · rename_i hwn
      simp only [hwn, if_true] at hh
      obtain ⟨v, hv, hn⟩ := hh
      have hq := hv w (hDC w hw)
      refine .inl ?_
      unfold Oper.quietAt at hq
      unfold Oper.wp
      generalize (execOp a.eval o).run P w = r at hq ⊢
      cases r with
      | ok nx w' =>
        cases nx <;> simp only [Oper.quietUpon] at hq <;> simp only [Oper.upon]
        case value u => obtain ⟨rfl, rfl⟩ := hq; exact h _ _ hw hn
        case skip => obtain ⟨rfl, rfl⟩ := hq; exact h _ _ hw hn
        case enter f args =>
          obtain ⟨rfl, hc⟩ := hq
          refine hc.mono fun e w'' ⟨he, hb⟩ => ?_
          subst he
          exact h _ _ (hDB _ _ hw hb) hn
      | halt x w' => simp only [Oper.quietUpon] at hq
    · rename_i hwn; simp only [hwn] at hh; exact h _ _ hw hh

theorem any_of_pickT {g : Nat} {tl : List Nat} {L : Array Bool → Act → Prop} {Q' : Exit → Act → World → Prop} (hDC : ∀ w, D w → C w) (hDB : ∀ w w'', D w → Below w.heap.size w w'' → D w'')
    (hL : ∀ listed a w, D w → L listed a → wpAny P md ops Q' g listed a w) :
    ∀ (f : Nat) (listed : Array Bool) (a : Act) (w : World), D w → pickT P md ops C tl L f listed a → wpAny P md ops Q' (f + g) listed a w
  | 0, listed, a, w, hw, h => by rw [Nat.zero_add]; exact hL _ _ _ hw h
  | f + 1, listed, a, w, hw, h => by
    rw [show f + 1 + g = (f + g) + 1 by omega]
    exact ⟨fun h0 => absurd h0 h.1, fun i hi => wpOp_of_tOp hDC hDB hw (fun a' w' hw' h' => any_of_pickT hDC hDB hL f _ a' w' hw' h') (h.2 i hi).2⟩

/-- the variable is laid somewhere while the head is walked, or not yet -/
theorem any_split {k d B : Nat} {T : TypeId} {ok : Oper} {zc : Array Value} {g : Nat} {tl : List Nat} {L : Array Bool → Act → Prop} {Q' : Exit → Act → World → Prop}
    (hk : ops[k]? = some ok) (hg : ok.guard = none) (hd : ok.dst = some d) (haf : ∀ e ∈ ok.after, Region.binds md e = true → False)
    (hrun : ∀ ρ w, (execOp ρ ok).run P w = .ok (.value (.pointer (some ⟨w.heap.size, 0, none⟩))) (w.alloc (.cells zc T)))
    (hsel : ∀ (j : Nat) (o : Oper) cs b, ops[j]? = some o → o.op ≠ .select cs b)
    (hap : ∀ j oj, ops[j]? = some oj → j ∉ tl → j ≠ k → ok.apart ops oj = true)
    (hCB : ∀ w w'', C w → Below w.heap.size w w'' → C w'') (hBs : ∀ w, C w → B ≤ w.heap.size)
    (hL1 : ∀ listed a w, listed.getD k true = false → C w → L (listed.setIfInBounds k true) a → wpAny P md ops Q' (g + 1) listed a w)
    (hL2 : ∀ listed a0 w p, C w → B ≤ p → w.heap[p]? = some (.cells zc T (0, 0)) → L listed a0 → wpAny P md ops Q' g listed (a0.put (some d) (.pointer (some ⟨p, 0, none⟩))) w) :
    ∀ (f : Nat) (listed : Array Bool) (a : Act) (w : World), listed.getD k true = false → C w → pickT P md ops C tl L f (listed.setIfInBounds k true) a → wpAny P md ops Q' (f + (g + 1)) listed a w
  | 0, listed, a, w, hkl, hw, h => by rw [Nat.zero_add]; exact hL1 _ _ _ hkl hw h
  | f + 1, listed, a, w, hkl, hw, h => by
    have hkr : k ∈ Region.ready md ops listed := mem_ready.2 ⟨hkl, ok, hk, fun e he hb => (haf e he hb).elim⟩
    have hksz : k < listed.size := by
      rcases Nat.lt_or_ge k listed.size with h' | h'
      · exact h'
      · simp [Array.getElem?_eq_none h'] at hkl
    rw [show f + 1 + (g + 1) = (f + (g + 1)) + 1 by omega]
    refine ⟨fun h0 => absurd hkr (by rw [h0]; simp), fun i hi => ?_⟩
    by_cases hik : i = k
    · subst hik
      unfold wpOp
      simp only [hk]
      have hwt : Region.wanted ok (yielded ops a.tmps) = true := by simp [Region.wanted, hg]
      rw [if_pos hwt]
      refine .inl ?_
      unfold Oper.wp
      rw [hrun, Oper.upon_value]
      rw [show f + (g + 1) = (f + 1) + g by omega]
      have hx : (listed.setIfInBounds i true).getD i true = true := by simp [hksz]
      have hput := pickT_put (P := P) (C := C) (md := md) (k := i) (ok := ok) hsel hap (.pointer (some ⟨w.heap.size, 0, none⟩)) (f + 1) _ a hx h
      refine any_of_pickT (D := fun w' => C w' ∧ w.heap.size < w'.heap.size ∧ w'.heap[w.heap.size]? = some (.cells zc T (0, 0))) (fun w' h' => h'.1) (fun w' w'' h' hb => ⟨hCB _ _ h'.1 hb, Nat.lt_of_lt_of_le h'.2.1 hb.size, (hb.block _ h'.2.1).trans h'.2.2⟩) ?_ (f + 1) _ _ _ ?_ hput
      · rintro listed' a' w' ⟨hc', hlt', hp'⟩ ⟨a0, hl', rfl⟩
        rw [hd]
        exact hL2 listed' a0 w' w.heap.size hc' (hBs w hw) hp' hl'
      · exact ⟨hCB _ _ hw ((Below.refl _ _).alloc (Nat.le_refl _) _), by simp, heap_alloc_new w _⟩
    · have hi' := ready_mono hi hik
      have hst := (h.2 i hi').2
      refine wpOp_of_tOp (C := C) (D := C) (fun _ h => h) hCB hw (fun a' w' hw' h' => any_split hk hg hd haf hrun hsel hap hCB hBs hL1 hL2 f _ a' w' ?_ hw' ?_) hst
      · rw [getD_set_ne true hik]; exact hkl
      · rw [Array.setIfInBounds_comm _ _ hik]; exact h'

/-- a call, its result leaning on memory -/
def callAt (P : Program) (o : Oper) (a : Act) (w : World) (R : Value → World → Prop) : Prop :=
  match (execOp a.eval o).run P w with
  | .ok (.enter f args) w' => w' = w ∧ Calls P f args w fun e w'' => ∃ v, e = .returned v ∧ Below w.heap.size w w'' ∧ R v w''
  | .ok (.value v) w' => w' = w ∧ R v w
  | _ => False
theorem callAt_value {o : Oper} {a : Act} {w : World} {R : Value → World → Prop} {v : Value} (h : (execOp a.eval o).run P w = .ok (.value v) w) (hc : R v w) : callAt P o a w R := by
  unfold callAt
  rw [h]
  exact ⟨rfl, hc⟩
theorem callAt_enter {o : Oper} {a : Act} {w : World} {R : Value → World → Prop} {f : FuncId} {args : Array Value} (h : (execOp a.eval o).run P w = .ok (.enter f args) w)
    (hc : Calls P f args w fun e w'' => ∃ v, e = .returned v ∧ Below w.heap.size w w'' ∧ R v w'') : callAt P o a w R := by
  unfold callAt
  rw [h]
  exact ⟨rfl, hc⟩
theorem callAt_put {o : Oper} {a : Act} {w : World} {R : Value → World → Prop} {dst : Option Tmp} {u : Value} (hs : ∀ cs b, o.op ≠ .select cs b) (h1 : ∀ d, dst = some d → d ∉ o.looksAt ops) (h : callAt P o a w R) : callAt P o (a.put dst u) w R := by
  unfold callAt at *
  rw [execOp_put o hs a dst u h1]
  exact h
theorem wpOp_of_callAt {c : Nat} {oc : Oper} (hc : ops[c]? = some oc) (hg : oc.guard = none) {a : Act} {w : World} {R : Value → World → Prop} {Q' : Exit → Act → World → Prop} {K : Act → World → Prop} (h : callAt P oc a w R)
    (hK : ∀ v w'', Below w.heap.size w w'' → R v w'' → K (a.put oc.dst v) w'') : wpOp P ops Q' c K a w := by
  unfold wpOp
  simp only [hc]
  have hwt : Region.wanted oc (yielded ops a.tmps) = true := by simp [Region.wanted, hg]
  rw [if_pos hwt]
  refine .inl ?_
  unfold callAt at h
  unfold Oper.wp
  generalize (execOp a.eval oc).run P w = r at h ⊢
  cases r with
  | ok nx w' =>
    cases nx <;> simp only [Oper.upon] <;> simp only at h
    case enter f args =>
      obtain ⟨rfl, hcl⟩ := h
      refine hcl.mono fun e w'' ⟨v, he, hb, hR⟩ => ?_
      subst he
      exact hK v w'' hb hR
    case value v =>
      obtain ⟨rfl, hR⟩ := h
      exact hK v _ (Below.refl _ _) hR
  | halt x w' => simp only at h
end

/-- one end alone: the normal one -/
def onlyNormal (Q : Exit → Act → World → Prop) : Exit → Act → World → Prop
  | .normal, a, w => Q .normal a w
  | _, _, _ => False
theorem onlyNormal_ok {Q : Exit → Act → World → Prop} {a : Act} {w : World} (h : Q .normal a w) : onlyNormal Q .normal a w := h
theorem letsOut_only (Q : Exit → Act → World → Prop) : ¬ LetsOut (onlyNormal Q) := fun ⟨_, _, h⟩ => h
section
variable {P : Program} {ops : Array Oper} {md : Region.Mode} {Q : Exit → Act → World → Prop}
theorem wpOp_only {i : Nat} {a : Act} {w : World} {K : Act → World → Prop} (h : wpOp P ops (onlyNormal Q) i K a w) : wpOp P ops Q i K a w := by
  unfold wpOp at *
  cases ho : ops[i]? with
  | none => simpa [ho] using h
  | some o =>
    simp only [ho] at h ⊢
    split
    · rename_i hw
      simp only [hw, if_true] at h
      rcases h with h | h
      · refine .inl ?_
        unfold Oper.wp at *
        generalize (execOp a.eval o).run P w = r at *
        cases r with
        | ok n w' =>
          cases n <;> simp only [Oper.upon] at h ⊢ <;> first | exact h | skip
          case enter f args => exact Calls.mono h (fun e w'' he => by
            cases e
            · exact he
            · exact he.elim
            · exact absurd he (letsOut_only Q))
        | halt x w' => cases x <;> simp only [Oper.upon] at h ⊢ <;> exact h.elim
      · exact absurd h.2 (letsOut_only Q)
    · rename_i hw; simp only [hw] at h; exact h
theorem wpAny_only : ∀ (f : Nat) (listed : Array Bool) (a : Act) (w : World), wpAny P md ops (onlyNormal Q) f listed a w → wpAny P md ops Q f listed a w
  | 0, _, _, _, h => h
  | f + 1, _, _, _, h => ⟨h.1, fun i hi => wpOp_only (wpOp_mono (fun a' w' h' => wpAny_only f _ a' w' h') (h.2 i hi))⟩

def pureB (o : Oper) : Bool := match o.op with
  | .move _ => o.guard.isNone
  | .extract _ _ => o.guard.isNone
  | _ => false
theorem pure_run {o : Oper} (h : pureB o = true) (ρ : Operand → Value) : (∃ v, ∀ w, (execOp ρ o).run P w = .ok (.value v) w) ∨ (∃ x, ∀ w, (execOp ρ o).run P w = .halt x w) := by
  unfold pureB at h
  split at h
  · rename_i x hx
    exact .inl ⟨ρ x, fun w => by simp [execOp, hx]⟩
  · rename_i x n hx
    simp only [execOp, hx]
    cases hv : ρ x with
    | tuple vs =>
      cases hn : vs[n]? with
      | some u => exact .inl ⟨u, fun w => by simp [Instr.extract, hn]⟩
      | none => exact .inr ⟨_, fun w => by simp [Instr.extract, hn]; rfl⟩
    | _ => exact .inr ⟨_, fun w => by simp [Instr.extract]; rfl⟩
  · cases h
theorem pure_guard {o : Oper} (h : pureB o = true) : o.guard = none := by
  unfold pureB at h
  split at h <;> first | exact Option.isNone_iff_eq_none.1 h | cases h

theorem wpOp_putK {j : Nat} {oj ox : Oper} {dst : Option Tmp} {v : Value} {a : Act} {w : World} {K : Act → World → Prop} (hj : ops[j]? = some oj) (hs : ∀ cs b, oj.op ≠ .select cs b) (hsx : ∀ cs b, ox.op ≠ .select cs b)
    (h1 : ∀ d, dst = some d → d ∉ oj.looksAt ops) (h2 : ∀ d, dst = some d → oj.dst ≠ some d) (h3 : ∀ d, oj.dst = some d → d ∉ ox.looksAt ops)
    (h : wpOp P ops (onlyNormal Q) j K (a.put dst v) w) : wpOp P ops (onlyNormal Q) j (fun a' w' => execOp a'.eval ox = execOp a.eval ox ∧ K (a'.put dst v) w') a w := by
  unfold wpOp at *
  simp only [hj] at h ⊢
  rw [wanted_put oj a dst v h1] at h
  have hput : ∀ u, execOp (a.put oj.dst u).eval ox = execOp a.eval ox ∧ (a.put dst v).put oj.dst u = (a.put oj.dst u).put dst v := fun u => ⟨execOp_put ox hsx a oj.dst u h3, Act.put_comm a v u h2⟩
  split
  · rename_i hw
    simp only [hw, if_true] at h
    rcases h with h | h
    · refine .inl ?_
      unfold Oper.wp at *
      rw [execOp_put oj hs a dst v h1] at h
      generalize (execOp a.eval oj).run P w = r at *
      cases r with
      | ok n w' =>
        cases n <;> simp only [Oper.upon] at h ⊢
        case value u => exact ⟨(hput u).1, by rw [← (hput u).2]; exact h⟩
        case skip => exact ⟨(hput undef).1, by rw [← (hput undef).2]; exact h⟩
        case defer dd =>
          refine ⟨execOp_put (a := { a with defers := dd :: a.defers }) (ops := ops) ox hsx oj.dst undef h3, ?_⟩
          rw [← Act.put_comm { a with defers := dd :: a.defers } v undef h2]
          cases dst <;> exact h
        case enter f args => exact Calls.mono h (fun e w'' he => by
            cases e
            · rename_i u; exact ⟨(hput u).1, by rw [← (hput u).2]; exact he⟩
            · exact he
            · exact he)
        case row rw_ args => exact Rows.mono h (fun u w'' he => ⟨(hput u).1, by rw [← (hput u).2]; exact he⟩)
        all_goals exact h
      | halt x w' => cases x <;> simp only [Oper.upon] at h ⊢ <;> exact h
    · exact absurd h.2 (letsOut_only Q)
  · rename_i hw
    simp only [hw] at h
    exact ⟨(hput undef).1, by rw [← (hput undef).2]; exact h⟩

theorem wpAny_pure_first {x : Nat} {ox : Oper} {v : Value} (hx : ops[x]? = some ox) (hgx : ox.guard = none) (hsel : ∀ (j : Nat) (o : Oper) cs b, ops[j]? = some o → o.op ≠ .select cs b) :
    ∀ (f : Nat) (listed : Array Bool) (a : Act) (w : World), x ∈ Region.ready md ops listed → (∀ w, (execOp a.eval ox).run P w = .ok (.value v) w) →
      (∀ j oj, ops[j]? = some oj → j ≠ x → listed.getD j true = false → (∀ e ∈ oj.after, Region.binds md e = true → e.on ≠ x) → ox.apart ops oj = true) →
      wpAny P md ops (onlyNormal Q) f (listed.setIfInBounds x true) (a.put ox.dst v) w → wpAny P md ops (onlyNormal Q) (f + 1) listed a w := by
  intro f
  induction f with
  | zero =>
    intro listed a w hr hv _ H
    refine ⟨fun h => (by rw [h] at hr; cases hr), fun j hj => ?_⟩
    by_cases hji : j = x
    · subst hji
      unfold wpOp
      simp only [hx]
      rw [if_pos (by simp [Region.wanted, hgx])]
      refine .inl ?_
      unfold Oper.wp
      rw [hv w, Oper.upon_value]
      exact H
    · have := ready_mono hj hji
      rw [H.1] at this
      cases this
  | succ f ih =>
    intro listed a w hr hv hfree H
    have hun := (mem_ready.1 hr).1
    refine ⟨fun h => (by rw [h] at hr; cases hr), fun j hj => ?_⟩
    by_cases hji : j = x
    · subst hji
      unfold wpOp
      simp only [hx]
      rw [if_pos (by simp [Region.wanted, hgx])]
      refine .inl ?_
      unfold Oper.wp
      rw [hv w, Oper.upon_value]
      exact H
    · have h1 := H.2 j (ready_mono hj hji)
      obtain ⟨hjun, oj, hoj, hall⟩ := mem_ready.1 hj
      have hnot : ∀ e ∈ oj.after, Region.binds md e = true → e.on ≠ x := fun e he hb heq => by
        have h1 := hall e he hb
        rw [heq, getD_both hun] at h1
        cases h1
      obtain ⟨g1, g2, g3⟩ := Oper.apart_spec (hfree j oj hoj hji hjun hnot)
      have h2 := wpOp_putK (ox := ox) hoj (fun cs b => hsel j oj cs b hoj) (fun cs b => hsel x ox cs b hx) g1 g2 g3 h1
      refine wpOp_mono (fun a' w' h3 => ih (listed.setIfInBounds j true) a' w' (ready_mono hr (Ne.symm hji)) (by rw [h3.1]; exact hv) (fun k ok hk hki hun hno => hfree k ok hk hki ?_ hno) ?_) h2
      · by_cases hjk : j = k
        · subst hjk; exact hjun
        · rw [getD_set_ne true hjk] at hun; exact hun
      · rw [Array.setIfInBounds_comm _ _ hji]
        exact h3.2

def pureSeq (md : Region.Mode) (ops : Array Oper) (tl : List Nat) : List Nat → Array Bool → Bool
  | [], listed => pickSeq md ops tl listed
  | x :: l, listed => (Region.ready md ops listed).contains x && Region.free md ops listed x && (match ops[x]? with | some o => pureB o | none => false) && pureSeq md ops tl l (listed.setIfInBounds x true)
theorem wpAny_pures {tl : List Nat} (hsel : ∀ (j : Nat) (o : Oper) cs b, ops[j]? = some o → o.op ≠ .select cs b) (htl : ∀ i ∈ tl, i < ops.size) :
    ∀ (l : List Nat) (listed : Array Bool) (a : Act) (w : World), pureSeq md ops tl l listed = true → wpList P ops (onlyNormal Q) (atIdx ops (l ++ tl)) a w → wpAny P md ops (onlyNormal Q) (l.length + tl.length) listed a w
  | [], listed, a, w, hB, h => by
    simp only [List.length_nil, Nat.zero_add]
    exact wpAny_of_pickSeq tl listed a w htl hB h
  | x :: l, listed, a, w, hB, h => by
    simp only [pureSeq, Bool.and_eq_true] at hB
    obtain ⟨⟨⟨hr, hf⟩, hp⟩, hB'⟩ := hB
    cases ho : ops[x]? with
    | none => rw [ho] at hp; cases hp
    | some o =>
      rw [ho] at hp
      simp only at hp
      have hr' : x ∈ Region.ready md ops listed := by simpa using hr
      have e : atIdx ops (x :: l ++ tl) = o :: atIdx ops (l ++ tl) := by simp [atIdx, ho]
      rw [e] at h
      have hg := pure_guard hp
      unfold wpList at h
      rw [if_pos (by simp [Region.wanted, hg])] at h
      rcases h with h | h
      · unfold Oper.wp at h
        rcases pure_run (P := P) hp a.eval with ⟨v, hv⟩ | ⟨y, hy⟩
        · rw [hv w, Oper.upon_value] at h
          rw [show (x :: l).length + tl.length = (l.length + tl.length) + 1 by simp; omega]
          exact wpAny_pure_first ho hg hsel _ listed a w hr' hv (Region.free_spec ho hf) (wpAny_pures hsel htl l _ _ w hB' h)
        · rw [hy w] at h
          cases y <;> simp only [Oper.upon] at h <;> exact h.elim
      · exact absurd h.2 (letsOut_only Q)
end

def splitE1 (md : Region.Mode) (ops : Array Oper) (k c : Nat) (LC : Array Bool) (listed : Array Bool) : Bool :=
  decide (Region.ready md ops listed = [c]) && (Region.ready md ops (listed.setIfInBounds k false)).all (fun j => j == c || j == k) && listed.getD k true && decide (listed.setIfInBounds c true = LC)
def splitB (md : Region.Mode) (ops : Array Oper) (hd : List Nat) (k c : Nat) (tl : List Nat) (LC : Array Bool) (listed : Array Bool) : Bool :=
  Region.noSelect ops && pickSink md ops c hd && chainT md ops c tl && pickClosed md ops listed && (c :: tl).all (fun t => !listed.getD t true) &&
  hd.all (fun i => !(c :: tl).contains i && decide (i < ops.size)) && headE md ops (splitE1 md ops k c LC) hd listed
/-- the variable apart from all but what is forced behind it -/
def splitK (md : Region.Mode) (ops : Array Oper) (k : Nat) (rest : List Nat) : Bool :=
  match ops[k]? with
  | none => false
  | some ok => ok.after.all (fun e => !Region.binds md e) && (List.range ops.size).all fun j => rest.contains j || j == k || match ops[j]? with
    | some oj => ok.apart ops oj
    | none => true

section
variable {P : Program} {ops : Array Oper} {md : Region.Mode}
theorem in_all {hd tl : List Nat} {n : Nat} (h : hd.all (fun i => !tl.contains i && decide (i < n)) = true) : ∀ i ∈ hd, i ∈ hd ∧ i ∉ tl ∧ i < n := fun i hi => by
  have := List.all_eq_true.1 h i hi
  simp only [Bool.and_eq_true, decide_eq_true_eq, Bool.not_eq_true'] at this
  refine ⟨hi, (fun hm => ?_), this.2⟩
  have h1 := this.1
  rw [List.contains_iff_mem.2 hm] at h1
  cases h1

theorem wpAny_split {Q : Exit → Act → World → Prop} {a : Act} {w : World} {listed LC : Array Bool} {g fuel : Nat} (hd : List Nat) (k c : Nat) (tl rest : List Nat) (T : TypeId) (zc : Array Value) (d : Tmp) (ok oc : Oper) (aF : Act)
    (hB : splitB md ops hd k c tl LC (listed.setIfInBounds k true) = true) (hK : splitK md ops k rest = true) (hrt : ∀ i ∈ rest, i ∈ tl) (hf : fuel = hd.length + ((1 + g) + 1)) (hkl : listed.getD k true = false)
    (hk : ops[k]? = some ok) (hg : ok.guard = none) (hdd : ok.dst = some d) (hc : ops[c]? = some oc) (hcg : oc.guard = none) (hck : c ≠ k) (hcr : c ∉ rest)
    (hds : dstsB (atIdx ops hd) a.tmps.size = true) (hda : apartB (atIdx ops hd) = true)
    (hrun : ∀ ρ w, (execOp ρ ok).run P w = .ok (.value (.pointer (some ⟨w.heap.size, 0, none⟩))) (w.alloc (.cells zc T)))
    (hhead : ∀ w1, Below w.heap.size w w1 → wpQuiet P ops (fun w' => ∃ p : Regrown, w' = grow (redrawn w1 p.d) p.os) (fun a' => a' = aF) (atIdx ops hd) a)
    (hcall : ∀ w1, Below w.heap.size w w1 → callAt P oc aF w1 fun v w' =>
      (∀ p, w.heap.size ≤ p → p < w'.heap.size → w'.heap[p]? = some (.cells zc T (0, 0)) → wpAny P md ops Q g LC ((aF.put oc.dst v).put (some d) (.pointer (some ⟨p, 0, none⟩))) w') ∧
      wpAny P md ops Q (g + 1) (LC.setIfInBounds k false) (aF.put oc.dst v) w') :
    wpAny P md ops Q fuel listed a w := by
  subst hf
  simp only [splitB, Bool.and_eq_true] at hB
  obtain ⟨⟨⟨⟨⟨⟨hns, hs⟩, hch⟩, hcl⟩, htl⟩, hin⟩, hh⟩ := hB
  simp only [splitK, hk, Bool.and_eq_true] at hK
  obtain ⟨hK1, hK2⟩ := hK
  have haf : ∀ e ∈ ok.after, Region.binds md e = true → False := fun e he hb => by
    have := Array.all_eq_true_iff_forall_mem.1 hK1 e he
    rw [hb] at this
    cases this
  have hap : ∀ j oj, ops[j]? = some oj → j ∉ rest → j ≠ k → ok.apart ops oj = true := fun j oj hj hjr hjk => by
    have := List.all_eq_true.1 hK2 j (List.mem_range.2 (Array.getElem?_eq_some_iff.1 hj).1)
    simp only [hj, Bool.or_eq_true, beq_iff_eq, hjk, or_false] at this
    rcases this with h | h
    · exact absurd (List.contains_iff_mem.1 h) hjr
    · exact h
  have hsel := Region.noSelect_spec hns
  have hE1 : ∀ l, splitE1 md ops k c LC l = true → ∀ j ∈ Region.ready md ops l, j ∈ c :: tl := fun l hl j hj => by
    simp only [splitE1, Bool.and_eq_true, decide_eq_true_eq] at hl
    rw [hl.1.1.1] at hj
    simp at hj
    subst hj
    simp
  have H := pickT_lex (md := md) w aF (splitE1 md ops k c LC) hE1 hns hs hch hd _ a (in_all hin) (PickInv.of_closed hcl htl) hh hds hda hhead
  -- the variable is there, the call is next
  have done : ∀ (l : Array Bool) (w1 : World) (p : Nat), Below w.heap.size w w1 → w.heap.size ≤ p → p < w1.heap.size → w1.heap[p]? = some (.cells zc T (0, 0)) → splitE1 md ops k c LC l = true →
      wpAny P md ops Q (1 + g) l (aF.put (some d) (.pointer (some ⟨p, 0, none⟩))) w1 := by
    intro l w1 p hb hBp hlt hp hl
    simp only [splitE1, Bool.and_eq_true, decide_eq_true_eq] at hl
    obtain ⟨⟨⟨hr, _⟩, _⟩, hLC⟩ := hl
    rw [Nat.add_comm 1 g]
    refine ⟨fun h0 => (by rw [hr] at h0; cases h0), fun i hi => ?_⟩
    rw [hr] at hi
    have hic : i = c := by simpa using hi
    subst hic
    obtain ⟨g1, g2, g3⟩ := Oper.apart_spec (hap i oc hc hcr hck)
    have hcb := callAt_put (ops := ops) (u := .pointer (some ⟨p, 0, none⟩)) (fun cs b => hsel i oc cs b hc) g1 (hcall w1 hb)
    rw [hdd] at hcb
    refine wpOp_of_callAt hc hcg hcb fun v w'' hbv hR => ?_
    rw [hLC, ← hdd, Act.put_comm aF _ v g2, hdd]
    exact hR.1 p hBp (Nat.lt_of_lt_of_le hlt hbv.size) ((hbv.block p hlt).trans hp)
  have unset : ∀ l : Array Bool, l.getD k true = false → (l.setIfInBounds k true).setIfInBounds k false = l := fun l h => by
    have hks : k < l.size := by
      rcases Nat.lt_or_ge k l.size with h' | h'
      · exact h'
      · simp [Array.getElem?_eq_none h'] at h
    apply Array.ext_getElem?
    intro i
    by_cases e : k = i
    · subst e
      simp [hks] at h ⊢
      exact h
    · rw [Array.getElem?_setIfInBounds_ne e, Array.getElem?_setIfInBounds_ne e]
  refine any_split (C := fun w1 => Below w.heap.size w w1) (B := w.heap.size) (T := T) (zc := zc) (g := 1 + g) hk hg hdd haf hrun hsel (tl := c :: tl) (fun j oj hj hjt hjk => hap j oj hj (fun hm => hjt (List.mem_cons_of_mem _ (hrt j hm))) hjk)
    (fun x y h hb => h.trans (hb.mono h.size)) (fun x h => h.size) ?_ ?_ hd.length listed a w hkl (Below.refl _ _) H
  · -- the call is next, the variable not yet there
    rintro l a' w1 hl hb ⟨hE, rfl⟩
    have hE' := hE
    simp only [splitE1, Bool.and_eq_true, decide_eq_true_eq] at hE'
    obtain ⟨⟨⟨hr, hr2⟩, _⟩, hLC⟩ := hE'
    rw [unset l hl] at hr2
    have hkr : k ∈ Region.ready md ops l := mem_ready.2 ⟨hl, ok, hk, fun e he hb => (haf e he hb).elim⟩
    refine ⟨fun h0 => absurd hkr (by rw [h0]; simp), fun i hi => ?_⟩
    have hi2 := List.all_eq_true.1 hr2 i hi
    simp only [Bool.or_eq_true, beq_iff_eq] at hi2
    by_cases hik : i = k
    · subst hik
      unfold wpOp
      simp only [hk]
      rw [if_pos (by simp [Region.wanted, hg])]
      refine .inl ?_
      unfold Oper.wp
      rw [hrun, Oper.upon_value, hdd]
      exact done _ _ w1.heap.size (hb.alloc hb.size _) hb.size (by simp) (heap_alloc_new w1 _) hE
    · have hic : i = c := by rcases hi2 with h | h; exact h; exact absurd h hik
      subst hic
      refine wpOp_of_callAt hc hcg (hcall w1 hb) fun v w'' hbv hR => ?_
      have hl2 : (l.setIfInBounds i true).getD k true = false := by rw [getD_set_ne true hck]; exact hl
      rw [Array.setIfInBounds_comm _ _ (fun e => hik e.symm)] at hLC
      have e2 := unset _ hl2
      rw [hLC] at e2
      rw [← e2, Nat.add_comm 1 g]
      exact hR.2
  · rintro l a' w1 p hb hBp hp ⟨hE, rfl⟩
    have hlt : p < w1.heap.size := by
      rcases Nat.lt_or_ge p w1.heap.size with h | h
      · exact h
      · rw [Array.getElem?_eq_none h] at hp; cases hp
    exact done l w1 p hb hBp hlt hp hE

/-- all that is listed behind the call -/
def splitLC (ops : Array Oper) (hd : List Nat) (k c : Nat) : Array Bool := (hd ++ [k, c]).foldl (fun l i => l.setIfInBounds i true) (Array.replicate ops.size false)
/-- the region as a whole: hd in any order, the call c, dl (pure) in any order, rest in one; the variable k anywhere ahead of rest -/
theorem wp_region_split {id : Nat} {Q : Exit → Act → World → Prop} {a : Act} {w : World} (hd : List Nat) (k c : Nat) (dl rest : List Nat) (T : TypeId) (zc : Array Value) (d : Tmp) (ok oc : Oper) (aF : Act)
    (hm : P.follows .mixedOrders = true)
    (hB : splitB .any ops hd k c (dl ++ rest) (splitLC ops hd k c) ((Array.replicate ops.size false).setIfInBounds k true) = true) (hK : splitK .any ops k rest = true) (hf : ops.size = hd.length + ((1 + (dl.length + rest.length)) + 1))
    (hp1 : pureSeq .any ops rest dl (splitLC ops hd k c) = true) (hp2 : pureSeq .any ops (k :: rest) dl ((splitLC ops hd k c).setIfInBounds k false) = true)
    (hk : ops[k]? = some ok) (hg : ok.guard = none) (hdd : ok.dst = some d) (hc : ops[c]? = some oc) (hcg : oc.guard = none) (hck : c ≠ k) (hcr : c ∉ rest) (hlt : (k :: rest).all (fun i => decide (i < ops.size)) = true)
    (hds : dstsB (atIdx ops hd) a.tmps.size = true) (hda : apartB (atIdx ops hd) = true)
    (hrun : ∀ ρ w, (execOp ρ ok).run P w = .ok (.value (.pointer (some ⟨w.heap.size, 0, none⟩))) (w.alloc (.cells zc T)))
    (hhead : ∀ w1, Below w.heap.size w w1 → wpQuiet P ops (fun w' => ∃ p : Regrown, w' = grow (redrawn w1 p.d) p.os) (fun a' => a' = aF) (atIdx ops hd) a)
    (hcall : ∀ w1, Below w.heap.size w w1 → callAt P oc aF w1 fun v w' =>
      (∀ p, w.heap.size ≤ p → p < w'.heap.size → w'.heap[p]? = some (.cells zc T (0, 0)) → wpList P ops (onlyNormal Q) (atIdx ops (dl ++ rest)) ((aF.put oc.dst v).put (some d) (.pointer (some ⟨p, 0, none⟩))) w') ∧
      wpList P ops (onlyNormal Q) (atIdx ops (dl ++ k :: rest)) (aF.put oc.dst v) w') :
    (Code.region id ops true).wp P Q a w := by
  have hkl : (Array.replicate ops.size false).getD k true = false := by
    have : k < ops.size := (Array.getElem?_eq_some_iff.1 hk).1
    simp [this]
  have bd : ∀ w1, Below ({ w with drawn := w.drawn + 1 } : World).heap.size { w with drawn := w.drawn + 1 } w1 → Below w.heap.size w w1 := fun w1 h => ⟨h.os, h.tape, h.output, h.size, h.block⟩
  have hsel := Region.noSelect_spec (by simp only [splitB, Bool.and_eq_true] at hB; exact hB.1.1.1.1.1.1 : Region.noSelect ops = true)
  have hlts : ∀ i ∈ k :: rest, i < ops.size := fun i hi => by simpa using List.all_eq_true.1 hlt i hi
  refine wp_region_any hm (wpAny_only _ _ _ _ (wpAny_split hd k c (dl ++ rest) rest T zc d ok oc aF (g := dl.length + rest.length) hB hK (fun i hi => by simp [hi]) hf hkl hk hg hdd hc hcg hck hcr hds hda hrun (fun w1 h1 => hhead w1 (bd w1 h1)) (fun w1 h1 => ?_)))
  have h := hcall w1 (bd w1 h1)
  unfold callAt at h ⊢
  generalize (execOp aF.eval oc).run P w1 = r at h ⊢
  cases r with
  | ok nx w' =>
    cases nx <;> simp only at h ⊢
    case enter f args =>
      refine ⟨h.1, h.2.mono fun e w'' ⟨v, he, hb, hR1, hR2⟩ => ⟨v, he, hb, fun p h2 h3 h4 => ?_, ?_⟩⟩
      · exact wpAny_pures hsel (fun i hi => hlts i (by simp [hi])) dl _ _ _ hp1 (hR1 p h2 h3 h4)
      · exact wpAny_pures hsel hlts dl _ _ _ hp2 hR2
    case value v =>
      obtain ⟨rfl, hR1, hR2⟩ := h
      refine ⟨rfl, fun p h2 h3 h4 => ?_, ?_⟩
      · exact wpAny_pures hsel (fun i hi => hlts i (by simp [hi])) dl _ _ _ hp1 (hR1 p h2 h3 h4)
      · exact wpAny_pures hsel hlts dl _ _ _ hp2 hR2
  | halt x w' => simp only at h

/-- the call (or whatever comes next) alone is ready behind the head -/
def floatE (md : Region.Mode) (ops : Array Oper) (c : Nat) (LC : Array Bool) (listed : Array Bool) : Bool :=
  decide (Region.ready md ops listed = [c]) && decide (listed.setIfInBounds c true = LC)
def floatB (md : Region.Mode) (ops : Array Oper) (hd : List Nat) (c : Nat) (tl : List Nat) (LC : Array Bool) (listed : Array Bool) : Bool :=
  Region.noSelect ops && pickSink md ops c hd && chainT md ops c tl && pickClosed md ops listed && (c :: tl).all (fun t => !listed.getD t true) &&
  hd.all (fun i => !(c :: tl).contains i && decide (i < ops.size)) && headE md ops (floatE md ops c LC) hd listed
theorem wpAny_float {Q : Exit → Act → World → Prop} {a : Act} {w : World} {listed LC : Array Bool} {g fuel : Nat} (hd : List Nat) (c : Nat) (tl : List Nat) (oc : Oper) (aF : Act)
    (hB : floatB md ops hd c tl LC listed = true) (hf : fuel = hd.length + (g + 1)) (hc : ops[c]? = some oc) (hcg : oc.guard = none)
    (hds : dstsB (atIdx ops hd) a.tmps.size = true) (hda : apartB (atIdx ops hd) = true)
    (hhead : ∀ w1, Below w.heap.size w w1 → wpQuiet P ops (fun w' => ∃ p : Regrown, w' = grow (redrawn w1 p.d) p.os) (fun a' => a' = aF) (atIdx ops hd) a)
    (hcall : ∀ w1, Below w.heap.size w w1 → callAt P oc aF w1 fun v w' => wpAny P md ops Q g LC (aF.put oc.dst v) w') :
    wpAny P md ops Q fuel listed a w := by
  subst hf
  simp only [floatB, Bool.and_eq_true] at hB
  obtain ⟨⟨⟨⟨⟨⟨hns, hs⟩, hch⟩, hcl⟩, htl⟩, hin⟩, hh⟩ := hB
  have hE1 : ∀ l, floatE md ops c LC l = true → ∀ j ∈ Region.ready md ops l, j ∈ c :: tl := fun l hl j hj => by
    simp only [floatE, Bool.and_eq_true, decide_eq_true_eq] at hl
    rw [hl.1] at hj
    simp at hj
    subst hj
    simp
  have H := pickT_lex (md := md) w aF (floatE md ops c LC) hE1 hns hs hch hd _ a (in_all hin) (PickInv.of_closed hcl htl) hh hds hda hhead
  refine any_of_pickT (C := fun w1 => Below w.heap.size w w1) (D := fun w1 => Below w.heap.size w w1) (g := g + 1) (fun _ h => h) (fun x y h hb => h.trans (hb.mono h.size)) ?_ hd.length listed a w (Below.refl _ _) H
  rintro l a' w1 hb ⟨hE, rfl⟩
  simp only [floatE, Bool.and_eq_true, decide_eq_true_eq] at hE
  obtain ⟨hr, hLC⟩ := hE
  refine ⟨fun h0 => (by rw [hr] at h0; cases h0), fun i hi => ?_⟩
  rw [hr] at hi
  have hic : i = c := by simpa using hi
  subst hic
  refine wpOp_of_callAt hc hcg (hcall w1 hb) fun v w'' hbv hR => ?_
  rw [hLC]
  exact hR
def floatLC (ops : Array Oper) (hd : List Nat) (c : Nat) : Array Bool := (hd ++ [c]).foldl (fun l i => l.setIfInBounds i true) (Array.replicate ops.size false)
/-- the region as a whole: hd in any order, c (a call, or an operation that tells a value), dl (pure) in any order, rest in one -/
theorem wp_region_float {id : Nat} {Q : Exit → Act → World → Prop} {a : Act} {w : World} (hd : List Nat) (c : Nat) (dl rest : List Nat) (oc : Oper) (aF : Act)
    (hm : P.follows .mixedOrders = true) (hB : floatB .any ops hd c (dl ++ rest) (floatLC ops hd c) (Array.replicate ops.size false) = true) (hf : ops.size = hd.length + ((dl.length + rest.length) + 1))
    (hp : pureSeq .any ops rest dl (floatLC ops hd c) = true) (hc : ops[c]? = some oc) (hcg : oc.guard = none) (hlt : rest.all (fun i => decide (i < ops.size)) = true)
    (hds : dstsB (atIdx ops hd) a.tmps.size = true) (hda : apartB (atIdx ops hd) = true)
    (hhead : ∀ w1, Below w.heap.size w w1 → wpQuiet P ops (fun w' => ∃ p : Regrown, w' = grow (redrawn w1 p.d) p.os) (fun a' => a' = aF) (atIdx ops hd) a)
    (hcall : ∀ w1, Below w.heap.size w w1 → callAt P oc aF w1 fun v w' => wpList P ops (onlyNormal Q) (atIdx ops (dl ++ rest)) (aF.put oc.dst v) w') :
    (Code.region id ops true).wp P Q a w := by
  have bd : ∀ w1, Below ({ w with drawn := w.drawn + 1 } : World).heap.size { w with drawn := w.drawn + 1 } w1 → Below w.heap.size w w1 := fun w1 h => ⟨h.os, h.tape, h.output, h.size, h.block⟩
  have hsel := Region.noSelect_spec (by simp only [floatB, Bool.and_eq_true] at hB; exact hB.1.1.1.1.1.1 : Region.noSelect ops = true)
  have hlts : ∀ i ∈ rest, i < ops.size := fun i hi => by simpa using List.all_eq_true.1 hlt i hi
  refine wp_region_any hm (wpAny_only _ _ _ _ (wpAny_float hd c (dl ++ rest) oc aF (g := dl.length + rest.length) hB hf hc hcg hds hda (fun w1 h1 => hhead w1 (bd w1 h1)) (fun w1 h1 => ?_)))
  have h := hcall w1 (bd w1 h1)
  unfold callAt at h ⊢
  generalize (execOp aF.eval oc).run P w1 = r at h ⊢
  cases r with
  | ok nx w' =>
    cases nx <;> simp only at h ⊢
    case enter f args =>
      exact ⟨h.1, h.2.mono fun e w'' ⟨v, he, hb, hR⟩ => ⟨v, he, hb, wpAny_pures hsel hlts dl _ _ _ hp hR⟩⟩
    case value v => exact ⟨h.1, wpAny_pures hsel hlts dl _ _ _ hp h.2⟩
  | halt x w' => simp only at h

/-- the list by numbers, one operation at a time -/
theorem quiet_idx {W : World → Prop} {Q : Act → Prop} {a : Act} {i : Nat} {l : List Nat} {o : Oper} (h : ops[i]? = some o) (H : wpQuiet P ops W Q (o :: atIdx ops l) a) : wpQuiet P ops W Q (atIdx ops (i :: l)) a := by
  have e : atIdx ops (i :: l) = o :: atIdx ops l := by simp [atIdx, h]
  rw [e]; exact H
theorem list_idx {Q : Exit → Act → World → Prop} {a : Act} {w : World} {i : Nat} {l : List Nat} {o : Oper} (h : ops[i]? = some o) (H : wpList P ops Q (o :: atIdx ops l) a w) : wpList P ops Q (atIdx ops (i :: l)) a w := by
  have e : atIdx ops (i :: l) = o :: atIdx ops l := by simp [atIdx, h]
  rw [e]; exact H
/-- a pure operation that nothing keeps waiting is walked first, then hd in any order, then t0 :: tl -/
theorem wp_region_pick1 {id : Nat} {Q : Exit → Act → World → Prop} {a : Act} {w : World} (x : Nat) (ox : Oper) (v : Value) (hd : List Nat) (t0 : Nat) (tl : List Nat) (hm : P.follows .mixedOrders = true)
    (hx : ops[x]? = some ox) (hp : pureB ox = true) (hr : (Region.ready .any ops (Array.replicate ops.size false)).contains x = true) (hf : Region.free .any ops (Array.replicate ops.size false) x = true)
    (hv : ∀ w, (execOp a.eval ox).run P w = .ok (.value v) w)
    (hB : pickB .any ops ((Array.replicate ops.size false).setIfInBounds x true) hd t0 tl = true) (hfu : ops.size = (hd.length + (t0 :: tl).length) + 1)
    (h : wpQuiet P ops (fun w' => ∃ p : Regrown, w' = grow (redrawn w p.d) p.os) (fun a' => ∀ w', (∃ p : Regrown, w' = grow (redrawn w p.d) p.os) → wpList P ops (onlyNormal Q) (atIdx ops (t0 :: tl)) a' w') (atIdx ops hd) (a.put ox.dst v)) : (Code.region id ops true).wp P Q a w := by
  refine wp_region_any hm (wpAny_only _ _ _ _ ?_)
  have hns : Region.noSelect ops = true := by simp only [pickB, Bool.and_eq_true] at hB; exact hB.1.1.1.1.1.1.1
  generalize hL : Array.replicate ops.size false = L at *
  rw [hfu]
  exact wpAny_pure_first hx (pure_guard hp) (Region.noSelect_spec hns) _ _ a _ (by simpa using hr) hv (Region.free_spec hx hf)
    (wpAny_pick (C := fun w' => ∃ p : Regrown, w' = grow (redrawn w p.d) p.os) hd t0 tl hB rfl ⟨⟨w.drawn + 1, #[]⟩, by rw [grow_empty]; rfl⟩ h)
end
end Go.Proofs.YtgkpgjbgcimijaaDoor
