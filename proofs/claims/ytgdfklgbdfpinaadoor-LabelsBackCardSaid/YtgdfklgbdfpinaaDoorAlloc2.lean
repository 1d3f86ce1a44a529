/-
  A region that draws its order, whose first operations lay new variables among others: the lemma itself. Conditions: the lemma says its own.
-/
import Derived.Test.YtgdfklgbdfpinaaDoorAlloc
namespace Go.Proofs.YtgdfklgbdfpinaaDoor
set_option linter.unusedVariables false
open Go.RowKit Go.Sort

/-- no other operation looks at a new variable's slot, or writes it -/
def aloneB (ops : Array Oper) (n : Nat) : Bool := (List.range n).all fun i => match ops[i]? with
  | some oi => !isAlloc oi || (match oi.dst with
    | some d => (List.range n).all fun j => j == i || (match ops[j]? with
      | some oj => !(oj.looksAt ops).contains d && oj.dst != some d
      | none => true)
    | none => false)
  | none => true
theorem aloneB_spec {ops : Array Oper} {n i j : Nat} {oi oj : Oper} {d : Tmp} (h : aloneB ops n = true) (hi : i < n) (ei : ops[i]? = some oi) (ha : isAlloc oi = true) (hd : oi.dst = some d) (hj : j < n) (ej : ops[j]? = some oj) (hne : j ≠ i) :
    d ∉ oj.looksAt ops ∧ oj.dst ≠ some d := by
  have h1 := List.all_eq_true.1 h i (List.mem_range.2 hi)
  simp only [ei, ha, hd, Bool.not_true, Bool.false_or] at h1
  have h2 := List.all_eq_true.1 h1 j (List.mem_range.2 hj)
  simp only [ej, Bool.or_eq_true, beq_iff_eq, hne, false_or, Bool.and_eq_true, Bool.not_eq_true', bne_iff_ne, ne_eq] at h2
  exact ⟨by simpa using h2.1, h2.2⟩

section
variable {P : Program} {ops : Array Oper} {md : Region.Mode}

/-- what is known while the first operations run -/
structure Laid (ops : Array Oper) (n : Nat) (zc : TypeId → Array Value) (w0 : World) (listed : Array Bool) (g : Tmp → Option Nat) (w : World) : Prop where
  below : Below w0.heap.size w0 w
  at_ : ∀ t b, g t = some b → w0.heap.size ≤ b ∧ b < w.heap.size ∧ ∃ i o T, i < n ∧ ops[i]? = some o ∧ isAlloc o = true ∧ o.dst = some t ∧ o.op = .alloc T ∧ w.heap[b]? = some (.cells (zc T) T (0, 0))
  one : ∀ t t' b, g t = some b → g t' = some b → t = t'
  all : ∀ i o d, i < n → ops[i]? = some o → isAlloc o = true → o.dst = some d → listed.getD i false = true → g d ≠ none

theorem Laid.step {n : Nat} {zc : TypeId → Array Value} {w0 w w' : World} {listed : Array Bool} {g : Tmp → Option Nat} (h : Laid ops n zc w0 listed g w) (hb : Below w.heap.size w w') (i : Nat) (o : Oper) (hi : ops[i]? = some o) (hna : isAlloc o = false) :
    Laid ops n zc w0 (listed.setIfInBounds i true) g w' where
  below := h.below.trans (hb.mono h.below.size)
  at_ := fun t b hg => by
    obtain ⟨h1, h2, j, o', T, h3, h4, h5, h6, h7, h8⟩ := h.at_ t b hg
    exact ⟨h1, Nat.lt_of_lt_of_le h2 hb.size, j, o', T, h3, h4, h5, h6, h7, (hb.block b h2).trans h8⟩
  one := h.one
  all := fun j o' d hj ho' ha hd hl => by
    refine h.all j o' d hj ho' ha hd ?_
    by_cases e : i = j
    · subst e
      rw [hi] at ho'
      cases ho'
      rw [hna] at ha
      cases ha
    · rwa [getD_set_ne false e] at hl

theorem Laid.lay {n : Nat} {zc : TypeId → Array Value} {w0 w : World} {listed : Array Bool} {g : Tmp → Option Nat} (h : Laid ops n zc w0 listed g w) (i : Nat) (o : Oper) (d : Tmp) (T : TypeId) (hin : i < n) (hi : ops[i]? = some o) (ha : isAlloc o = true) (hd : o.dst = some d) (hT : o.op = .alloc T)
    (hap : ∀ j oj d', j < n → ops[j]? = some oj → j ≠ i → oj.dst = some d' → d' ≠ d) :
    Laid ops n zc w0 (listed.setIfInBounds i true) (fun t => if t = d then some w.heap.size else g t) (w.alloc (.cells (zc T) T)) where
  below := h.below.alloc h.below.size _
  at_ := fun t b hg => by
    by_cases e : t = d
    · subst e
      rw [if_pos rfl] at hg
      cases hg
      exact ⟨h.below.size, by simp, i, o, T, hin, hi, ha, hd, hT, heap_alloc_new w _⟩
    · rw [if_neg e] at hg
      obtain ⟨h1, h2, j, o', T', h3, h4, h5, h6, h7, h8⟩ := h.at_ t b hg
      exact ⟨h1, by simp; omega, j, o', T', h3, h4, h5, h6, h7, (Below.heap_alloc w _ b h2).trans h8⟩
  one := fun t t' b hg hg' => by
    by_cases e : t = d <;> by_cases e' : t' = d
    · rw [e, e']
    · rw [if_pos e] at hg
      rw [if_neg e'] at hg'
      have := (h.at_ t' b hg').2.1
      cases hg
      omega
    · rw [if_neg e] at hg
      rw [if_pos e'] at hg'
      have := (h.at_ t b hg).2.1
      cases hg'
      omega
    · rw [if_neg e] at hg
      rw [if_neg e'] at hg'
      exact h.one t t' b hg hg'
  all := fun j o' d' hj ho' ha' hd' hl => by
    by_cases e : d' = d
    · rw [if_pos e]; simp
    · rw [if_neg e]
      refine h.all j o' d' hj ho' ha' hd' ?_
      by_cases e2 : i = j
      · subst e2
        rw [hi] at ho'
        cases ho'
        rw [hd] at hd'
        cases hd'
        exact absurd rfl e
      · rwa [getD_set_ne false e2] at hl

theorem seqB_shade : ∀ (g k : Nat) (listed : Array Bool), Region.seqB md (ops.map shade) g k listed = Region.seqB md ops g k listed
  | 0, k, listed => by simp only [Region.seqB, ready_shade]
  | g + 1, k, listed => by simp only [Region.seqB, ready_shade, seqB_shade g]

theorem sim_head {n gg : Nat} {zc : TypeId → Array Value} {w0 : World} {aF : Act} {Q' : Exit → Act → World → Prop} (hA : aloneB ops n = true) (hsel : ∀ (j : Nat) (o : Oper) cs b, ops[j]? = some o → o.op ≠ .select cs b)
    (hz : ∀ i o T, i < n → ops[i]? = some o → isAlloc o = true → o.op = .alloc T → ∀ ρ w, (execOp ρ o).run P w = .ok (.value (.pointer (some ⟨w.heap.size, 0, none⟩))) (w.alloc (.cells (zc T) T)))
    (hend : ∀ listed g w, HeadInv md (ops.map shade) n listed → Laid ops n zc w0 listed g w → Region.seqB md ops gg n listed = true → wpAny P md ops Q' gg listed (over g aF) w) :
    ∀ (f : Nat) (listed : Array Bool) (g : Tmp → Option Nat) (a : Act) (w : World), HeadInv md (ops.map shade) n listed → Laid ops n zc w0 listed g w →
      headT P md (ops.map shade) (fun w => Below w0.heap.size w0 w) n (fun listed' a' => Region.seqB md (ops.map shade) gg n listed' = true ∧ a' = aF) f listed a →
      wpAny P md ops Q' (f + gg) listed (over g a) w
  | 0, listed, g, a, w, inv, hl, h => by
    obtain ⟨h1, h2⟩ : Region.seqB md (ops.map shade) gg n listed = true ∧ a = aF := h
    subst h2
    rw [Nat.zero_add]
    rw [seqB_shade] at h1
    exact hend listed g w inv hl h1
  | f + 1, listed, g, a, w, inv, hl, h => by
    rw [show f + 1 + gg = (f + gg) + 1 by omega]
    obtain ⟨h0, hall⟩ := h
    rw [ready_shade] at h0
    refine ⟨fun e => absurd e h0, fun i hi => ?_⟩
    have hi' : i ∈ Region.ready md (ops.map shade) listed := by rw [ready_shade]; exact hi
    obtain ⟨hin, ht⟩ := hall i hi'
    obtain ⟨_, o, ho, _⟩ := mem_ready.1 hi
    have hS : (ops.map shade)[i]? = some (shade o) := by rw [Array.getElem?_map, ho]; rfl
    have inv' := inv.set hi' hin
    unfold wpOp
    unfold tOp at ht
    simp only [ho]
    simp only [hS] at ht
    cases ha : isAlloc o with
    | true =>
      obtain ⟨T, hT⟩ : ∃ T, o.op = .alloc T := by
        unfold isAlloc at ha
        split at ha
        · exact ⟨_, by assumption⟩
        · cases ha
      have hg : o.guard = none := by
        unfold isAlloc at ha
        rw [hT] at ha
        simp at ha
        exact ha.1
      obtain ⟨d, hd⟩ : ∃ d, o.dst = some d := by
        unfold isAlloc at ha
        rw [hT] at ha
        simp at ha
        exact Option.isSome_iff_exists.1 ha.2
      have hw1 : Region.wanted (shade o) (yielded (ops.map shade) a.tmps) = true := by simp [Region.wanted, shade_guard, hg]
      have hw2 : Region.wanted o (yielded ops (over g a).tmps) = true := by simp [Region.wanted, hg]
      rw [if_pos hw1] at ht
      rw [if_pos hw2]
      obtain ⟨v, _, hK⟩ := ht
      rw [shade_dst, hd] at hK
      refine .inl ?_
      unfold Oper.wp
      rw [hz i o T hin ho ha hT, Oper.upon_value, hd, over_alloc g a d w.heap.size v]
      exact sim_head hA hsel hz hend f _ _ _ _ inv' (hl.lay i o d T hin ho ha hd hT (fun j oj d' hj hoj hne hd' e => by
        subst e
        exact (aloneB_spec hA hin ho ha hd hj hoj hne).2 hd')) hK
    | false =>
      rw [shade_det ha] at ht
      have hgn : ∀ d, g d ≠ none → d ∉ o.looksAt ops ∧ o.dst ≠ some d := fun d hg => by
        cases hgd : g d with
        | none => exact absurd hgd hg
        | some b =>
          obtain ⟨_, _, j, o', T, h3, h4, h5, h6, _, _⟩ := hl.at_ d b hgd
          refine aloneB_spec hA h3 h4 h5 h6 hin ho (fun e => ?_)
          subst e
          rw [ho] at h4
          cases h4
          rw [ha] at h5
          cases h5
      have hexec : execOp (over g a).eval o = execOp a.eval o := execOp_congr o (fun cs b => hsel i o cs b ho) fun x hx => over_eval g a x fun d hxd => by
        cases hgd : g d with
        | none => rfl
        | some b =>
          refine absurd ?_ (hgn d (by rw [hgd]; simp)).1
          subst hxd
          exact List.mem_append_left _ (List.mem_filterMap.2 ⟨.tmp d, by simpa using hx, rfl⟩)
      have hput : ∀ v, (over g a).put o.dst v = over g (a.put o.dst v) := fun v => over_put g a o.dst v fun d hd => by
        cases hgd : g d with
        | none => rfl
        | some b => exact absurd hd (hgn d (by rw [hgd]; simp)).2
      have hwant : Region.wanted o (yielded ops (over g a).tmps) = Region.wanted o (yielded (ops.map shade) a.tmps) := by
        rw [yielded_shade]
        unfold Region.wanted
        cases hg : o.guard with
        | none => rfl
        | some gw =>
          obtain ⟨q, want⟩ := gw
          have hy : yielded ops (over g a).tmps q = yielded ops a.tmps q := by
            unfold yielded
            cases hq : (ops[q]?).bind (·.dst) with
            | none => rfl
            | some t =>
              have : g t = none := by
                cases hgt : g t with
                | none => rfl
                | some b =>
                  refine absurd ?_ (hgn t (by rw [hgt]; simp)).1
                  simp [Oper.looksAt, hg, hq]
              simp only [Option.bind_some, over_get g a t this]
          simp only [hy]
      rw [hwant]
      by_cases hw : Region.wanted o (yielded (ops.map shade) a.tmps) = true
      · rw [if_pos hw] at ht ⊢
        obtain ⟨v, hq, hK⟩ := ht
        refine .inl ?_
        have hq' := hq w hl.below
        unfold Oper.wp
        rw [hexec]
        unfold Oper.quietAt at hq'
        generalize (execOp a.eval o).run P w = r at hq'
        cases r with
        | ok nx w' =>
          cases nx <;> simp only [Oper.quietUpon] at hq' <;> simp only [Oper.upon]
          case value u =>
            obtain ⟨e1, e2⟩ := hq'
            rw [e1, e2, hput]
            exact sim_head hA hsel hz hend f _ _ _ _ inv' (hl.step (Below.refl _ _) i o ho ha) hK
          case skip =>
            obtain ⟨e1, e2⟩ := hq'
            rw [e1, ← e2, hput]
            exact sim_head hA hsel hz hend f _ _ _ _ inv' (hl.step (Below.refl _ _) i o ho ha) hK
          case enter fn args =>
            obtain ⟨e1, hc⟩ := hq'
            rw [e1]
            exact hc.mono fun e w'' ⟨he, hb⟩ => by
              subst he
              simp only [hput]
              exact sim_head hA hsel hz hend f _ _ _ _ inv' (hl.step hb i o ho ha) hK
        | halt x w' => simp only [Oper.quietUpon] at hq'
      · rw [if_neg hw] at ht ⊢
        rw [hput]
        exact sim_head hA hsel hz hend f _ _ _ _ inv' (hl.step (Below.refl _ _) i o ho ha) ht

/-- the new variables' slots, and their types -/
def allocsOf (l : List Oper) : List (Tmp × TypeId) := l.filterMap fun o => match o.op, o.dst with
  | .alloc T, some d => if o.guard.isNone then some (d, T) else none
  | _, _ => none
theorem mem_allocsOf {l : List Oper} {d : Tmp} {T : TypeId} : (d, T) ∈ allocsOf l ↔ ∃ o ∈ l, isAlloc o = true ∧ o.dst = some d ∧ o.op = .alloc T := by
  unfold allocsOf
  rw [List.mem_filterMap]
  constructor
  · rintro ⟨o, ho, h⟩
    refine ⟨o, ho, ?_⟩
    obtain ⟨dst, op, type, pos, after, guard⟩ := o
    cases op <;> cases dst <;> simp at h
    obtain ⟨h1, rfl, rfl⟩ := h
    exact ⟨by simp [isAlloc, h1], rfl, rfl⟩
  · rintro ⟨o, ho, h1, h2, h3⟩
    refine ⟨o, ho, ?_⟩
    obtain ⟨dst, op, type, pos, after, guard⟩ := o
    simp only at h2 h3
    subst h2 h3
    simp [isAlloc] at h1
    simp [h1]

/-- pointers put into slots -/
def putAll (ds : List (Tmp × TypeId)) (β : Tmp → Nat) (a : Act) : Act := ds.foldl (fun a d => a.put (some d.1) (.pointer (some ⟨β d.1, 0, none⟩))) a
theorem over_putAll (β : Tmp → Nat) : ∀ (ds : List (Tmp × TypeId)) (g : Tmp → Option Nat) (a : Act), (∀ t, (∃ T, (t, T) ∈ ds) → g t = some (β t)) → (∀ t, ¬ (∃ T, (t, T) ∈ ds) → g t = none) → over g a = putAll ds β a
  | [], g, a, h1, h2 => by
    have hg : g = fun _ => none := funext fun t => h2 t (by rintro ⟨T, h⟩; cases h)
    subst hg
    unfold over putAll
    simp only [List.foldl_nil]
    obtain ⟨tmps, defers⟩ := a
    simp only [Act.mk.injEq, and_true]
    apply Array.ext_getElem?
    intro i
    simp
  | (d, T) :: ds, g, a, h1, h2 => by
    have hd := h1 d ⟨T, by simp⟩
    have e : putAll ((d, T) :: ds) β a = putAll ds β (a.put (some d) (.pointer (some ⟨β d, 0, none⟩))) := rfl
    rw [e]
    by_cases hmem : ∃ T, (d, T) ∈ ds
    · have ih := over_putAll β ds g (a.put (some d) (.pointer (some ⟨β d, 0, none⟩))) (fun t ⟨T', ht⟩ => h1 t ⟨T', by simp [ht]⟩) (fun t ht => by
        by_cases e2 : t = d
        · subst e2; exact absurd hmem ht
        · exact h2 t (by rintro ⟨T', hT'⟩; simp [e2] at hT'; exact ht ⟨T', hT'⟩))
      rw [← ih]
      unfold over Act.put
      simp only [Act.mk.injEq, and_true]
      apply Array.ext_getElem?
      intro i
      simp only [Array.getElem?_mapIdx, Array.getElem?_setIfInBounds]
      by_cases e3 : d = i
      · subst e3
        by_cases hlt : d < a.tmps.size <;> simp [hlt, hd]
      · simp [e3]
    · have ih := over_putAll β ds (fun t => if t = d then none else g t) (a.put (some d) (.pointer (some ⟨β d, 0, none⟩))) (fun t ht => by
        by_cases e2 : t = d
        · subst e2; exact absurd ht hmem
        · show (if t = d then none else g t) = _
          rw [if_neg e2]; obtain ⟨T', ht⟩ := ht; exact h1 t ⟨T', by simp [ht]⟩) (fun t ht => by
        by_cases e2 : t = d
        · show (if t = d then none else g t) = _
          rw [if_pos e2]
        · show (if t = d then none else g t) = _
          rw [if_neg e2]; exact h2 t (by rintro ⟨T', hT'⟩; simp [e2] at hT'; exact ht ⟨T', hT'⟩))
      rw [← ih]
      unfold over Act.put
      simp only [Act.mk.injEq, and_true]
      apply Array.ext_getElem?
      intro i
      simp only [Array.getElem?_mapIdx, Array.getElem?_setIfInBounds]
      by_cases e3 : d = i
      · subst e3
        by_cases hlt : d < a.tmps.size <;> simp [hlt, hd]
      · have e4 : ¬ i = d := fun h => e3 h.symm
        simp [e3, e4]

/-- the region as a whole -/
theorem wp_region_alloc {id : Nat} {Q : Exit → Act → World → Prop} {a : Act} {w : World} {l : List Oper} (n : Nat) (zc : TypeId → Array Value) (aF : Act) (hm : P.follows .mixedOrders = true) (hB : Region.lexTailB .any (l.map shade).toArray n = true)
    (hA : aloneB l.toArray n = true) (hD : dstsB ((l.map shade).take n) a.tmps.size = true) (hP : apartB ((l.map shade).take n) = true)
    (hz : ∀ o T, (o.dst.getD 0, T) ∈ allocsOf (l.take n) → o.op = .alloc T → ∀ ρ w, (execOp ρ o).run P w = .ok (.value (.pointer (some ⟨w.heap.size, 0, none⟩))) (w.alloc (.cells (zc T) T)))
    (hwalk : ∀ w1, Below w.heap.size w w1 → wpQuiet P (l.map shade).toArray (fun w' => ∃ p : Regrown, w' = grow (redrawn w1 p.d) p.os) (fun a' => a' = aF) ((l.map shade).take n) a)
    (hrest : ∀ (β : Tmp → Nat) (w' : World), Below w.heap.size w w' → (∀ d T, (d, T) ∈ allocsOf (l.take n) → w.heap.size ≤ β d ∧ w'.heap[β d]? = some (.cells (zc T) T (0, 0))) →
      (∀ d T d' T', (d, T) ∈ allocsOf (l.take n) → (d', T') ∈ allocsOf (l.take n) → d ≠ d' → β d ≠ β d') → wpList P l.toArray Q (l.drop n) (putAll (allocsOf (l.take n)) β aF) w') :
    (Code.region id l.toArray true).wp P Q a w := by
  simp only [Region.lexTailB, Bool.and_eq_true, decide_eq_true_eq] at hB
  obtain ⟨⟨⟨⟨hsel, hn⟩, hs⟩, hc⟩, hlex⟩ := hB
  have hn' : n < l.length := by simpa using hn
  have htl : ((l.map shade).take n).length = n := by simp; omega
  have hmap : (l.map shade).toArray = l.toArray.map shade := by simp
  have hseln : ∀ (j : Nat) (o : Oper) cs b, l.toArray[j]? = some o → o.op ≠ .select cs b := fun j o cs b hj e => by
    have := Region.noSelect_spec hsel j (shade o) cs b (by simp at hj; simp [hj])
    cases ha : isAlloc o with
    | true => unfold isAlloc at ha; rw [e] at ha; cases ha
    | false => rw [shade_det ha] at this; exact this e
  have inv0 : HeadInv .any (l.map shade).toArray n (Array.replicate (l.map shade).toArray.size false) :=
    ⟨by simp, fun j oj _ hl => (by rw [getD_replicate_false] at hl; cases hl), fun t _ ht => getD_in (by simpa using ht) (getD_replicate_false _ _)⟩
  have bd : ∀ w1, Below ({ w with drawn := w.drawn + 1 } : World).heap.size { w with drawn := w.drawn + 1 } w1 → Below w.heap.size w w1 := fun w1 h => ⟨h.os, h.tape, h.output, h.size, h.block⟩
  have H := headT_lex (P := P) (md := .any) (g := (l.map shade).toArray.size - n) { w with drawn := w.drawn + 1 } aF hsel hs hc hn ((l.map shade).take n) 0 _ a (fun j hj => by
    have hj' : j < n := by rw [htl] at hj; exact hj
    simp [hj']) (by simpa using htl) inv0 (by rw [htl]; exact hlex) hD hP (fun w1 h1 => hwalk w1 (bd w1 h1))
  refine wp_region_any hm ?_
  rw [hmap] at H inv0
  have hsz : (l.toArray.map shade).size = l.toArray.size := by simp
  rw [hsz] at H inv0
  have := sim_head (P := P) (md := .any) (ops := l.toArray) (n := n) (gg := l.toArray.size - n) (zc := zc) (w0 := { w with drawn := w.drawn + 1 }) (aF := aF) (Q' := Q) hA hseln (fun i o T hin ho ha hT => by
      have hd : ∃ d, o.dst = some d := by
        unfold isAlloc at ha
        rw [hT] at ha
        simp at ha
        exact Option.isSome_iff_exists.1 ha.2
      obtain ⟨d, hd⟩ := hd
      refine hz o T (mem_allocsOf.2 ⟨o, ?_, ha, by rw [hd]; rfl, hT⟩) hT
      have ho' : l[i]? = some o := by simpa using ho
      exact List.mem_of_getElem? (i := i) (by rw [List.getElem?_take, if_pos hin]; exact ho'))
    (fun listed g w' inv hl hseq => by
      have hready : Region.ready .any l.toArray listed = [n] := by
        have hpos : l.toArray.size - n = (l.toArray.size - n - 1) + 1 := by simp at hn; simp; omega
        rw [hpos] at hseq
        simp only [Region.seqB, Bool.and_eq_true, decide_eq_true_eq] at hseq
        exact hseq.1
      have hall : ∀ i, i < n → listed.getD i false = true := fun i hi => by
        cases hh : listed.getD i false with
        | true => rfl
        | false =>
          have hin : i < listed.size := by rw [inv.size, hsz]; simp; omega
          refine absurd ?_ (tail_waits (md := .any) (ops := l.toArray.map shade) (by rw [← hmap]; exact hs) (by rw [← hmap]; exact hc) (by rw [hsz]; simp; omega) inv _ i rfl hi (getD_in hin hh) n (Nat.le_refl _))
          rw [ready_shade, hready]
          simp
      have hg : ∀ d T, (d, T) ∈ allocsOf (l.take n) → ∃ b, g d = some b := fun d T hm => by
        obtain ⟨o, ho, ha, hd, hT⟩ := mem_allocsOf.1 hm
        obtain ⟨i, hi⟩ := List.mem_iff_getElem?.1 ho
        have hin : i < n := by
          rcases Nat.lt_or_ge i n with h | h
          · exact h
          · rw [List.getElem?_take, if_neg (by omega)] at hi; cases hi
        have hi' : l.toArray[i]? = some o := by
          rw [List.getElem?_take, if_pos hin] at hi
          simpa using hi
        cases hgd : g d with
        | some b => exact ⟨b, rfl⟩
        | none => exact absurd hgd (hl.all i o d hin hi' ha hd (hall i hin))
      have hover : over g aF = putAll (allocsOf (l.take n)) (fun d => (g d).getD 0) aF := over_putAll _ _ g aF (fun t ⟨T, ht⟩ => by
        obtain ⟨b, hb⟩ := hg t T ht
        simp [hb]) (fun t ht => by
        cases hgt : g t with
        | none => rfl
        | some b =>
          obtain ⟨_, _, i, o, T, h3, h4, h5, h6, h7, _⟩ := hl.at_ t b hgt
          refine absurd ⟨T, mem_allocsOf.2 ⟨o, ?_, h5, h6, h7⟩⟩ ht
          have h4' : l[i]? = some o := by simpa using h4
          exact List.mem_of_getElem? (i := i) (by rw [List.getElem?_take, if_pos h3]; exact h4'))
      rw [hover]
      have hw := hrest (fun d => (g d).getD 0) w' (bd w' hl.below) (fun d T hm => by
        obtain ⟨b, hb⟩ := hg d T hm
        obtain ⟨h1, _, i, o, T', h3, h4, h5, h6, h7, h8⟩ := hl.at_ d b hb
        simp only [hb, Option.getD_some]
        refine ⟨h1, ?_⟩
        obtain ⟨o2, ho2, ha2, hd2, hT2⟩ := mem_allocsOf.1 hm
        obtain ⟨i2, hi2⟩ := List.mem_iff_getElem?.1 ho2
        have hin2 : i2 < n := by
          rcases Nat.lt_or_ge i2 n with h | h
          · exact h
          · rw [List.getElem?_take, if_neg (by omega)] at hi2; cases hi2
        have hi2' : l.toArray[i2]? = some o2 := by
          rw [List.getElem?_take, if_pos hin2] at hi2
          simpa using hi2
        have e : i2 = i := Classical.byContradiction fun hne => (aloneB_spec hA h3 h4 h5 h6 hin2 hi2' hne).2 hd2
        subst e
        rw [h4] at hi2'
        cases hi2'
        rw [h7] at hT2
        cases hT2
        exact h8) (fun d T d' T' hm hm' hne e => by
        obtain ⟨b, hb⟩ := hg d T hm
        obtain ⟨b', hb'⟩ := hg d' T' hm'
        simp only [hb, hb', Option.getD_some] at e
        subst e
        exact hne (hl.one d d' b hb hb'))
      have := wpAny_of_seq (md := .any) (Q' := Q) (l.drop n) n listed (putAll (allocsOf (l.take n)) (fun d => (g d).getD 0) aF) w' (fun j => by simp [List.getElem?_drop]) (by simpa using hseq) hw
      simpa using this)
    _ _ (fun _ => none) a { w with drawn := w.drawn + 1 } inv0 ⟨Below.refl _ _, fun t b h => by (cases h), fun t t' b h => by (cases h), fun i o d _ _ _ _ hl => by (rw [getD_replicate_false] at hl; cases hl)⟩ H
  rw [htl, show n + (l.toArray.size - n) = l.toArray.size by simp at hn ⊢; omega] at this
  have e0 : over (fun _ => none) a = a := over_putAll (fun _ => 0) [] _ a (fun t ⟨T, h⟩ => by cases h) (fun _ _ => rfl)
  rw [e0] at this
  exact this
end
end Go.Proofs.YtgdfklgbdfpinaaDoor
