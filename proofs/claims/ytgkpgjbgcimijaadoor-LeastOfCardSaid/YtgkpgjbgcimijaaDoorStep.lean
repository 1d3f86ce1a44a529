/-
  A region that draws its order, walked step by step: what reads only is walked ahead (all that is ready), a call is walked when it alone is ready; a call's result may lean on memory. Conditions: each lemma says its own.
-/
import Derived.Test.YtgkpgjbgcimijaaDoorSplit
namespace Go.Proofs.YtgkpgjbgcimijaaDoor
set_option linter.unusedVariables false
set_option linter.unusedSimpArgs false
open Go.RowKit Go.Sort

def isLen (c : Call) : Bool := match c.callee with
  | .builtin .len => true
  | _ => false
def stillOp (o : Oper) : Bool := match o.op with
  | .call c => isLen c
  | .move _ | .assign _ | .pick _ _ _ | .load _ _ | .fieldAddr _ _ _ | .field _ _ _ | .indexAddr _ _ _ | .index _ _ _ | .lookup _ _ _ _ | .binOp _ _ _ _ _ | .unOp _ _ _ | .extract _ _ => true
  | _ => false
section
variable {P : Program}
theorem val_run {s : Sem Value} {w w' : World} {n : Next} (h : (do pure (Next.value (← s)) : Sem Next).run P w = .ok n w') : ∃ x, n = .value x := by
  cases hs : s.run P w with
  | ok x w1 => simp [go_sem, hs] at h; exact ⟨x, h.1.symm⟩
  | halt x w1 => simp [go_sem, hs] at h
theorem pick_run {s : Sem Bool} {x y : Value} {w w' : World} {n : Next} (h : (do pure (Next.value (if ← s then x else y)) : Sem Next).run P w = .ok n w') : ∃ x, n = .value x := by
  cases hs : s.run P w with
  | ok b w1 => simp [go_sem, hs] at h; exact ⟨_, h.1.symm⟩
  | halt b w1 => simp [go_sem, hs] at h
theorem still_value {o : Oper} (hs : stillOp o = true) {ρ : Operand → Value} {w w' : World} {n : Next} (h : (execOp ρ o).run P w = .ok n w') : ∃ x, n = .value x := by
  obtain ⟨dst, op, type, pos, after, guard⟩ := o
  cases op <;> simp only [stillOp, Bool.false_eq_true] at hs <;> simp only [execOp] at h
  case move x => simp [go_sem] at h; exact ⟨_, h.1.symm⟩
  case assign x => simp [go_sem] at h; exact ⟨_, h.1.symm⟩
  case pick c a b => exact pick_run h
  case call c =>
    unfold isLen at hs
    unfold resolve at h
    split at hs
    · rename_i e
      simp only [e] at h
      exact val_run h
    · cases hs
  all_goals exact val_run h
end

section
variable {P : Program} {ops : Array Oper} {md : Region.Mode} {C C' : World → Prop} {U : List Nat} {Q : Exit → Act → World → Prop}
/-- whatever order is picked, and the worlds stay in C, but behind the operations of U -/
def wpT (P : Program) (md : Region.Mode) (ops : Array Oper) (C : World → Prop) (U : List Nat) (Q : Exit → Act → World → Prop) : Nat → Array Bool → Act → World → Prop
  | 0, listed, a, w => Region.ready md ops listed = [] ∧ Q .normal a w
  | f + 1, listed, a, w => (Region.ready md ops listed = [] → Q .normal a w) ∧ ∀ i ∈ Region.ready md ops listed, wpOp P ops (onlyNormal Q) i (fun a' w' => (i ∉ U → C w') ∧ wpT P md ops C U Q f (listed.setIfInBounds i true) a' w') a w
theorem wpT_weak (hC : ∀ w, C w → C' w) : ∀ (f : Nat) (listed : Array Bool) (a : Act) (w : World), wpT P md ops C U Q f listed a w → wpT P md ops C' U Q f listed a w
  | 0, _, _, _, h => h
  | f + 1, _, _, _, h => ⟨h.1, fun i hi => wpOp_mono (fun a' w' h' => ⟨fun hu => hC w' (h'.1 hu), wpT_weak hC f _ a' w' h'.2⟩) (h.2 i hi)⟩
theorem wpAny_of_wpT : ∀ (f : Nat) (listed : Array Bool) (a : Act) (w : World), wpT P md ops C U Q f listed a w → wpAny P md ops (onlyNormal Q) f listed a w
  | 0, _, _, _, h => h
  | f + 1, _, _, _, h => ⟨h.1, fun i hi => wpOp_mono (fun a' w' h' => wpAny_of_wpT f _ a' w' h'.2) (h.2 i hi)⟩
/-- the same value, and asked for or not, in another state -/
structure SameOp (ops : Array Oper) (ox : Oper) (a a' : Act) : Prop where
  run : execOp a'.eval ox = execOp a.eval ox
  want : Region.wanted ox (yielded ops a'.tmps) = Region.wanted ox (yielded ops a.tmps)
theorem wpOp_putS {j : Nat} {oj ox : Oper} {dst : Option Tmp} {v : Value} {a : Act} {w : World} {K : Act → World → Prop} (hj : ops[j]? = some oj) (hs : ∀ cs b, oj.op ≠ .select cs b) (hsx : ∀ cs b, ox.op ≠ .select cs b)
    (h1 : ∀ d, dst = some d → d ∉ oj.looksAt ops) (h2 : ∀ d, dst = some d → oj.dst ≠ some d) (h3 : ∀ d, oj.dst = some d → d ∉ ox.looksAt ops)
    (h : wpOp P ops (onlyNormal Q) j K (a.put dst v) w) : wpOp P ops (onlyNormal Q) j (fun a' w' => SameOp ops ox a a' ∧ K (a'.put dst v) w') a w := by
  unfold wpOp at *
  simp only [hj] at h ⊢
  rw [wanted_put oj a dst v h1] at h
  have hput : ∀ u, SameOp ops ox a (a.put oj.dst u) ∧ (a.put dst v).put oj.dst u = (a.put oj.dst u).put dst v := fun u => ⟨⟨execOp_put ox hsx a oj.dst u h3, wanted_put ox a oj.dst u h3⟩, Act.put_comm a v u h2⟩
  split
  · rename_i hw
    simp only [hw, if_true] at h
    rcases h with h | h
    · refine .inl ?_
      unfold Oper.wp at *
      rw [execOp_put oj hs a dst v h1] at h
      generalize (execOp a.eval oj).run P w = r at *
      cases r with
      | ok n w' =>
        cases n <;> simp only [Oper.upon] at h ⊢
        case value u => exact ⟨(hput u).1, by rw [← (hput u).2]; exact h⟩
        case skip => exact ⟨(hput undef).1, by rw [← (hput undef).2]; exact h⟩
        case defer dd =>
          refine ⟨⟨execOp_put (a := { a with defers := dd :: a.defers }) (ops := ops) ox hsx oj.dst undef h3, wanted_put ox { a with defers := dd :: a.defers } oj.dst undef h3⟩, ?_⟩
          rw [← Act.put_comm { a with defers := dd :: a.defers } v undef h2]
          cases dst <;> exact h
        case enter f args => exact Calls.mono h (fun e w'' he => by
            cases e
            · rename_i u; exact ⟨(hput u).1, by rw [← (hput u).2]; exact he⟩
            · exact he
            · exact he)
        case row rw_ args => exact Rows.mono h (fun u w'' he => ⟨(hput u).1, by rw [← (hput u).2]; exact he⟩)
        all_goals exact h
      | halt x w' => cases x <;> simp only [Oper.upon] at h ⊢ <;> exact h
    · exact absurd h.2 (letsOut_only Q)
  · rename_i hw
    simp only [hw] at h
    exact ⟨(hput undef).1, by rw [← (hput undef).2]; exact h⟩
/-- it tells v in every world of C, and leaves the world alone; or nobody asks for it -/
def StillAt (P : Program) (ops : Array Oper) (C : World → Prop) (o : Oper) (v : Value) (a : Act) : Prop :=
  (Region.wanted o (yielded ops a.tmps) = true ∧ ∀ w, C w → (execOp a.eval o).run P w = .ok (.value v) w) ∨ (Region.wanted o (yielded ops a.tmps) = false ∧ v = undef)
theorem StillAt.same {o : Oper} {v : Value} {a a' : Act} (h : StillAt P ops C o v a) (hs : SameOp ops o a a') : StillAt P ops C o v a' := by
  unfold StillAt at *
  rw [hs.run, hs.want]
  exact h
theorem StillAt.wpOp {x : Nat} {o : Oper} {v : Value} {a : Act} {w : World} {K : Act → World → Prop} (hx : ops[x]? = some o) (h : StillAt P ops C o v a) (hC : C w) (hK : K (a.put o.dst v) w) : wpOp P ops (onlyNormal Q) x K a w := by
  unfold Go.wpOp
  simp only [hx]
  rcases h with ⟨hw, hv⟩ | ⟨hw, rfl⟩
  · rw [if_pos hw]
    refine .inl ?_
    unfold Oper.wp
    rw [hv w hC, Oper.upon_value]
    exact hK
  · rw [if_neg (by rw [hw]; decide)]
    exact hK
/-! who waits for whom -/
def ClosedL (md : Region.Mode) (ops : Array Oper) (listed : Array Bool) : Prop := ∀ j oj, ops[j]? = some oj → listed.getD j false = true → ∀ e ∈ oj.after, Region.binds md e = true → listed.getD e.on false = true
theorem closed_of {listed : Array Bool} (h : pickClosed md ops listed = true) : ClosedL md ops listed := fun j oj hj hl e he hb => by
  simp only [pickClosed, Bool.and_eq_true] at h
  have h1 := List.all_eq_true.1 h.2 j (List.mem_range.2 (Array.getElem?_eq_some_iff.1 hj).1)
  rw [hl, hj] at h1
  simp only [Bool.not_true, Bool.false_or] at h1
  have h2 := Array.all_eq_true'.1 h1 e he
  rw [hb] at h2
  simpa using h2
theorem closed_set {listed : Array Bool} (h : ClosedL md ops listed) {j : Nat} (hj : j ∈ Region.ready md ops listed) : ClosedL md ops (listed.setIfInBounds j true) := fun k ok hk hl e he hb => by
  by_cases hjk : j = k
  · subst hjk
    obtain ⟨_, o, ho, hall⟩ := mem_ready.1 hj
    rw [ho] at hk
    obtain rfl := Option.some.inj hk
    exact getD_set_true (hall e he hb)
  · rw [getD_set_ne false hjk] at hl
    exact getD_set_true (h k ok hk hl e he hb)
def waitsB (md : Region.Mode) (ops : Array Oper) (x : Nat) : Nat → Nat → Bool
  | 0, _ => false
  | n + 1, u => match ops[u]? with
    | some o => o.after.any fun e => Region.binds md e && (e.on == x || waitsB md ops x n e.on)
    | none => false
theorem waits_not {x : Nat} {listed : Array Bool} (h : ClosedL md ops listed) (hx : listed.getD x false = false) : ∀ n u, waitsB md ops x n u = true → ∃ o, ops[u]? = some o ∧ ∃ e ∈ o.after, Region.binds md e = true ∧ listed.getD e.on false = false
  | 0, u, hw => by simp [waitsB] at hw
  | n + 1, u, hw => by
    rw [waitsB] at hw
    cases ho : ops[u]? with
    | none => rw [ho] at hw; cases hw
    | some o =>
      rw [ho] at hw
      obtain ⟨e, he, hb⟩ := Array.any_eq_true'.1 hw
      simp only [Bool.and_eq_true, Bool.or_eq_true, beq_iff_eq] at hb
      refine ⟨o, rfl, e, he, hb.1, ?_⟩
      rcases hb.2 with e1 | e1
      · rw [e1]; exact hx
      · obtain ⟨o2, ho2, e2, he2, hb2, hl2⟩ := waits_not h hx n e.on e1
        cases hl : listed.getD e.on false with
        | false => rfl
        | true =>
          have := h e.on o2 ho2 hl e2 he2 hb2
          rw [hl2] at this
          cases this
def WaitU (md : Region.Mode) (ops : Array Oper) (U : List Nat) (x : Nat) (listed : Array Bool) : Prop := ∀ u ∈ U, listed.getD u true = true ∨ waitsB md ops x ops.size u = true
theorem WaitU.not {x j : Nat} {listed : Array Bool} (h : WaitU md ops U x listed) (hcl : ClosedL md ops listed) (hx : listed.getD x false = false) (hj : j ∈ Region.ready md ops listed) : j ∉ U := fun hm => by
  obtain ⟨h1, o, ho, hall⟩ := mem_ready.1 hj
  rcases h j hm with h2 | h2
  · rw [h2] at h1; cases h1
  · obtain ⟨o2, ho2, e, he, hb, hl⟩ := waits_not hcl hx _ _ h2
    rw [ho] at ho2
    obtain rfl := Option.some.inj ho2
    have := hall e he hb
    rw [hl] at this
    cases this
theorem wpT_first {x : Nat} {ox : Oper} {v : Value} (hx : ops[x]? = some ox) (hsel : ∀ (j : Nat) (o : Oper) cs b, ops[j]? = some o → o.op ≠ .select cs b) :
    ∀ (f : Nat) (listed : Array Bool) (a : Act) (w : World), x ∈ Region.ready md ops listed → StillAt P ops C ox v a → C w → ClosedL md ops listed → WaitU md ops U x listed →
      (∀ j oj, ops[j]? = some oj → j ≠ x → listed.getD j true = false → (∀ e ∈ oj.after, Region.binds md e = true → e.on ≠ x) → ox.apart ops oj = true) →
      wpT P md ops C U Q f (listed.setIfInBounds x true) (a.put ox.dst v) w → wpT P md ops C U Q (f + 1) listed a w := by
  intro f
  induction f with
  | zero =>
    intro listed a w hr hv hC _ _ _ H
    refine ⟨fun h => (by rw [h] at hr; cases hr), fun j hj => ?_⟩
    by_cases hji : j = x
    · subst hji
      exact hv.wpOp hx hC ⟨fun _ => hC, H⟩
    · have := ready_mono hj hji
      rw [H.1] at this
      cases this
  | succ f ih =>
    intro listed a w hr hv hC hcl hU hfree H
    have hun := (mem_ready.1 hr).1
    refine ⟨fun h => (by rw [h] at hr; cases hr), fun j hj => ?_⟩
    by_cases hji : j = x
    · subst hji
      exact hv.wpOp hx hC ⟨fun _ => hC, H⟩
    · have h1 := H.2 j (ready_mono hj hji)
      obtain ⟨hjun, oj, hoj, hall⟩ := mem_ready.1 hj
      have hnot : ∀ e ∈ oj.after, Region.binds md e = true → e.on ≠ x := fun e he hb heq => by
        have h1 := hall e he hb
        rw [heq, getD_both hun] at h1
        cases h1
      have hjU := hU.not hcl (getD_both hun) hj
      obtain ⟨g1, g2, g3⟩ := Oper.apart_spec (hfree j oj hoj hji hjun hnot)
      have h2 := wpOp_putS (ox := ox) hoj (fun cs b => hsel j oj cs b hoj) (fun cs b => hsel x ox cs b hx) g1 g2 g3 h1
      refine wpOp_mono (fun a' w' h3 => ⟨h3.2.1, ih (listed.setIfInBounds j true) a' w' (ready_mono hr (Ne.symm hji)) (hv.same h3.1) (h3.2.1 hjU) (closed_set hcl hj) (fun u hu => by
          have hju : j ≠ u := fun e => hjU (e ▸ hu)
          rcases hU u hu with h4 | h4
          · exact .inl (by rw [getD_set_ne true hju]; exact h4)
          · exact .inr h4) (fun k ok hk hki hun hno => hfree k ok hk hki ?_ hno) ?_⟩) h2
      · by_cases hjk : j = k
        · subst hjk; exact hjun
        · rw [getD_set_ne true hjk] at hun; exact hun
      · rw [Array.setIfInBounds_comm _ _ hji]
        exact h3.2.2

/-! what is not walked yet -/
def unl (listed : Array Bool) : Nat := listed.toList.count false
theorem unl_set {listed : Array Bool} {i : Nat} (h : listed.getD i true = false) : unl listed = unl (listed.setIfInBounds i true) + 1 := by
  have hi : i < listed.size := by
    rcases Nat.lt_or_ge i listed.size with h1 | h1
    · exact h1
    · rw [Array.getD_eq_getD_getElem?, Array.getElem?_eq_none h1] at h; cases h
  have hv : listed.toList[i]'(by simpa using hi) = false := by
    rw [Array.getD_eq_getD_getElem?, Array.getElem?_eq_getElem hi] at h
    simpa using h
  have hpos : 0 < listed.toList.count false := List.count_pos_iff.2 (by rw [← hv]; exact List.getElem_mem _)
  unfold unl
  rw [Array.toList_setIfInBounds, List.count_set (by simpa using hi), hv]
  simp only [beq_self_eq_true, if_true]
  show _ = _ - 1 + 0 + 1
  omega
theorem unl_rep (n : Nat) : unl (Array.replicate n false) = n := by simp [unl]
/-- the walk's own goal -/
def stepT (P : Program) (md : Region.Mode) (ops : Array Oper) (C : World → Prop) (U : List Nat) (Q : Exit → Act → World → Prop) (listed : Array Bool) (a : Act) (w : World) : Prop := wpT P md ops C U Q (unl listed) listed a w
def setAll (listed : Array Bool) : List Nat → Array Bool
  | [] => listed
  | x :: l => setAll (listed.setIfInBounds x true) l
def waitB (md : Region.Mode) (ops : Array Oper) (U : List Nat) (x : Nat) (listed : Array Bool) : Bool := U.all fun u => listed.getD u true || waitsB md ops x ops.size u
theorem waitB_spec {x : Nat} {listed : Array Bool} (h : waitB md ops U x listed = true) : WaitU md ops U x listed := fun u hu => by
  have h1 := List.all_eq_true.1 h u hu
  simpa using h1
def stillSeq (md : Region.Mode) (ops : Array Oper) (U : List Nat) : List Nat → Array Bool → Bool
  | [], _ => true
  | x :: l, listed => (Region.ready md ops listed).contains x && Region.free md ops listed x && (match ops[x]? with | some o => stillOp o | none => false) && waitB md ops U x listed && stillSeq md ops U l (listed.setIfInBounds x true)
theorem stillAt_of {o : Oper} {a : Act} {K : Act → Prop} (hs : stillOp o = true) (hne : ∃ w, C w) (h : if Region.wanted o (yielded ops a.tmps) then o.quiet P a C K else K (a.put o.dst undef)) : ∃ v, StillAt P ops C o v a ∧ K (a.put o.dst v) := by
  by_cases hw : Region.wanted o (yielded ops a.tmps) = true
  · rw [if_pos hw] at h
    obtain ⟨v, h1, h2⟩ := h
    refine ⟨v, .inl ⟨hw, fun w hC => ?_⟩, h2⟩
    have h3 := h1 w hC
    unfold Oper.quietAt at h3
    cases hr : (execOp a.eval o).run P w with
    | ok n w' =>
      obtain ⟨x, rfl⟩ := still_value hs hr
      rw [hr] at h3
      obtain ⟨rfl, rfl⟩ := h3
      rfl
    | halt x w' => rw [hr] at h3; exact h3.elim
  · rw [if_neg hw] at h
    exact ⟨undef, .inr ⟨by simpa using hw, rfl⟩, h⟩
/-- what only reads, all at once -/
theorem stepsQ (l : List Nat) {listed : Array Bool} {a : Act} {w : World} (hsel : Region.noSelect ops = true) (hcl : pickClosed md ops listed = true) (hB : stillSeq md ops U l listed = true) (hC : C w) (h : wpQuiet P ops C (fun a' => stepT P md ops C U Q (setAll listed l) a' w) (atIdx ops l) a) : stepT P md ops C U Q listed a w := by
  replace hcl := closed_of hcl
  induction l generalizing listed a with
  | nil => exact h
  | cons x l ih =>
    simp only [stillSeq, Bool.and_eq_true] at hB
    obtain ⟨⟨⟨⟨hr, hf⟩, hp⟩, hwt⟩, hB'⟩ := hB
    cases ho : ops[x]? with
    | none => rw [ho] at hp; cases hp
    | some o =>
      rw [ho] at hp
      simp only at hp
      have hr' : x ∈ Region.ready md ops listed := by simpa using hr
      have e : atIdx ops (x :: l) = o :: atIdx ops l := by simp [atIdx, ho]
      rw [e] at h
      obtain ⟨v, hv, hK⟩ := stillAt_of hp ⟨w, hC⟩ h
      unfold stepT
      rw [unl_set (mem_ready.1 hr').1]
      exact wpT_first ho (Region.noSelect_spec hsel) _ listed a w hr' hv hC hcl (waitB_spec hwt) (Region.free_spec ho hf) (ih hB' hK (closed_set hcl hr'))
/-- what alone is ready -/
theorem stepS {i : Nat} {o : Oper} {listed : Array Bool} {a : Act} {w : World} (hi : ops[i]? = some o) (hr : Region.ready md ops listed = [i])
    (h : ∀ K : Act → World → Prop, (∀ a' w', (i ∉ U → C w') ∧ stepT P md ops C U Q (listed.setIfInBounds i true) a' w' → K a' w') → if Region.wanted o (yielded ops a.tmps) = true then o.wp P a w K (onlyNormal Q) else K (a.put o.dst undef) w) : stepT P md ops C U Q listed a w := by
  have hun := (mem_ready.1 (show i ∈ Region.ready md ops listed by rw [hr]; simp)).1
  unfold stepT
  rw [unl_set hun]
  refine ⟨fun h0 => (by rw [hr] at h0; cases h0), fun j hj => ?_⟩
  rw [hr] at hj
  obtain rfl := List.mem_singleton.1 hj
  have h1 := h _ fun a' w' h' => h'
  unfold wpOp
  simp only [hi]
  split
  · rename_i hw; rw [if_pos hw] at h1; exact .inl h1
  · rename_i hw; rw [if_neg hw] at h1; exact h1
/-- two are ready -/
theorem stepS2 {i j : Nat} {o o' : Oper} {listed : Array Bool} {a : Act} {w : World} (hi : ops[i]? = some o) (hj : ops[j]? = some o') (hr : Region.ready md ops listed = [i, j])
    (h : ∀ K : Act → World → Prop, (∀ a' w', (i ∉ U → C w') ∧ stepT P md ops C U Q (listed.setIfInBounds i true) a' w' → K a' w') → if Region.wanted o (yielded ops a.tmps) = true then o.wp P a w K (onlyNormal Q) else K (a.put o.dst undef) w)
    (h' : ∀ K : Act → World → Prop, (∀ a' w', (j ∉ U → C w') ∧ stepT P md ops C U Q (listed.setIfInBounds j true) a' w' → K a' w') → if Region.wanted o' (yielded ops a.tmps) = true then o'.wp P a w K (onlyNormal Q) else K (a.put o'.dst undef) w) : stepT P md ops C U Q listed a w := by
  have hun := (mem_ready.1 (show i ∈ Region.ready md ops listed by rw [hr]; simp)).1
  have hun' := (mem_ready.1 (show j ∈ Region.ready md ops listed by rw [hr]; simp)).1
  have e1 := unl_set hun
  have e2 := unl_set hun'
  unfold stepT at h h' ⊢
  rw [e1]
  refine ⟨fun h0 => (by rw [h0] at hr; cases hr), fun k hk => ?_⟩
  rw [hr] at hk
  rcases List.mem_cons.1 hk with rfl | hk
  · have h1 := h _ fun a' w' h' => h'
    unfold wpOp
    simp only [hi]
    split
    · rename_i hw; rw [if_pos hw] at h1; exact .inl h1
    · rename_i hw; rw [if_neg hw] at h1; exact h1
  · obtain rfl := List.mem_singleton.1 hk
    have e3 : unl (listed.setIfInBounds i true) = unl (listed.setIfInBounds k true) := by omega
    rw [e3]
    have h1 := h' _ fun a' w' h' => h'
    unfold wpOp
    simp only [hj]
    split
    · rename_i hw; rw [if_pos hw] at h1; exact .inl h1
    · rename_i hw; rw [if_neg hw] at h1; exact h1
theorem stepT_end {listed : Array Bool} {a : Act} {w : World} (hr : Region.ready md ops listed = []) (h : Q .normal a w) : stepT P md ops C U Q listed a w := by
  unfold stepT
  cases unl listed with
  | zero => exact ⟨hr, h⟩
  | succ f => exact ⟨fun _ => h, by rw [hr]; simp⟩
/-- the class of worlds behind w -/
def Grown (w w' : World) : Prop := ∃ p : Regrown, w' = grow (redrawn w p.d) p.os
theorem Grown.of_below {w w' : World} (h : Below w.heap.size w w') : ∃ p : Regrown, w' = grow (redrawn w p.d) p.os := regrown_of_below h
theorem stepT_base {listed : Array Bool} {a : Act} {w w0 w1 : World} (hb : Below w0.heap.size w0 w1) (h : stepT P md ops (fun w' => ∃ p : Regrown, w' = grow (redrawn w1 p.d) p.os) U Q listed a w) : stepT P md ops (fun w' => ∃ p : Regrown, w' = grow (redrawn w0 p.d) p.os) U Q listed a w :=
  wpT_weak (fun w' ⟨p, hp⟩ => by
    refine regrown_of_below (hb.trans ?_)
    rw [hp]
    exact (below_regrown w1 p.d p.os).mono hb.size) _ _ _ _ h
theorem wp_region_T {id : Nat} {a : Act} {w : World} (U : List Nat) (hm : P.follows .mixedOrders = true)
    (h : ∀ W, Below w.heap.size w W → stepT P .any ops (fun w' => ∃ p : Regrown, w' = grow (redrawn W p.d) p.os) U Q (Array.replicate ops.size false) a W) : (Code.region id ops true).wp P Q a w := by
  refine wp_region_any hm (wpAny_only _ _ _ _ ?_)
  have h1 := h { w with drawn := w.drawn + 1 } ⟨rfl, rfl, rfl, Nat.le_refl _, fun _ _ => rfl⟩
  unfold stepT at h1
  rw [unl_rep] at h1
  exact wpAny_of_wpT _ _ _ _ h1
end
end Go.Proofs.YtgkpgjbgcimijaaDoor
