/-
  What block K leads into the class that is handled, as it is gathered: the order of the classes met, and their groups. Conditions: each lemma says its own.
-/
import Derived.Test.YtgkpgjbgcimijaaDoorAuGrp
namespace Go.Proofs.YtgkpgjbgcimijaaDoor
set_option linter.unusedVariables false
set_option linter.unusedSimpArgs false
open Go.RowKit Go.Maps Go.Sort Go.ChangeShapes Go.WideShapes

theorem orderL_snoc (cls : Nat → Nat) (l : List Nat) (n : Nat) : orderL cls (l ++ [n]) = addN (orderL cls l) (cls n) := by simp [orderL]
theorem metL_snoc (cls : Nat → Nat) (l : List Nat) (n : Nat) : metL cls (l ++ [n]) = fun a => if a = cls n then metL cls l (cls n) ++ [n] else metL cls l a := by
  funext a
  unfold metL
  rw [List.filter_append]
  by_cases h : a = cls n
  · subst h; simp
  · have h2 : ¬ cls n = a := fun e => h e.symm
    simp [h, h2]
theorem metL_nil_iff (cls : Nat → Nat) (l : List Nat) (a : Nat) : (metL cls l a).length = 0 ↔ a ∉ orderL cls l := by
  have hm : a ∈ orderL cls l ↔ ∃ n ∈ l, cls n = a := by
    have := fold_mem cls l [] a
    simpa [orderL] using this
  rw [hm, metL, List.length_eq_zero_iff, List.filter_eq_nil_iff]
  simp
theorem orderL_len (cls : Nat → Nat) (l : List Nat) : (orderL cls l).length ≤ l.length := by
  have key : ∀ (l o : List Nat), (l.foldl (fun o n => addN o (cls n)) o).length ≤ o.length + l.length := by
    intro l
    induction l with
    | nil => intro o; simp
    | cons x l ih =>
      intro o
      have h1 := ih (addN o (cls x))
      have h2 : (addN o (cls x)).length ≤ o.length + 1 := by unfold addN; split <;> simp
      simp only [List.foldl_cons, List.length_cons]
      omega
  have := key l []
  simpa [orderL] using this
theorem intoL_snoc (d : Aut) (R : List Nat) (K : Nat) {s : List Nat} {i x : Nat} (h : s[i]? = some x) : intoL d R K (s.take (i + 1)) = intoL d R K (s.take i) ++ fromL d R K x := by
  have ht : s.take (i + 1) = s.take i ++ [x] := by rw [List.take_add_one, h]; rfl
  rw [ht]
  simp [intoL]
theorem grown_of_alloc {w w5 : World} {o : Obj} {row : Option Nat} (h : (w.alloc o).grownBy w5 row) : w.grownBy w5 row :=
  ⟨h.os, h.tape, h.output, by have := h.size; simp at this; omega, fun k hk hne => (h.block k (by simp; omega) hne).trans (Below.heap_alloc w o k hk)⟩
/-- the order and the groups as they are gathered: the map's block is b, all lies behind it -/
structure Gath (w0 w : World) (cls : Nat → Nat) (l : List Nat) (c18 : Value) : Prop where
  ord : w.ownsRow (w0.heap.size + 1) 3 1 c18 (orderL cls l).length (natCells (orderL cls l))
  grp : GrpAt w (w0.heap.size + 1) w0.heap.size l.length (metL cls l) fun g => c18.ownBlock = some g
  bel : Below w0.heap.size w0 w
theorem Gath.start (w0 : World) (cls : Nat → Nat) : Gath w0 (w0.alloc (.map #[] 0)) cls [] (.slice none 0 0) :=
  ⟨World.ownsRow_nil _ _ _ _, GrpAt.made w0 _, (Below.refl _ w0).alloc (Nat.le_refl _) _⟩
/-- a class that was not met yet goes into the order -/
theorem Gath.order {w0 w w5 : World} {cls : Nat → Nat} {l : List Nat} {c18 : Value} {o : Obj} {g cap a : Nat} (h : Gath w0 w cls l c18) (hgrow : (w.alloc o).grownBy w5 c18.ownBlock) (hat : c18.ownBlock = some g ∨ g = (w.alloc o).heap.size) :
    GrpAt w5 (w0.heap.size + 1) w0.heap.size l.length (metL cls l) (fun k => (Value.slice (some ⟨g, 0, none⟩) (l.length + 1) cap).ownBlock = some k) ∧ Below w0.heap.size w0 w5 := by
  have hbs := h.bel.size
  have hg1 := grown_of_alloc hgrow
  refine ⟨?_, h.bel.grown hg1 (by omega) fun k e => by have := (h.ord.lt k e).1; omega⟩
  have h1 : GrpAt w (w0.heap.size + 1) w0.heap.size l.length (metL cls l) (fun k => c18.ownBlock = some k ∨ w.heap.size ≤ k) := h.grp.reno fun k hk => hk
  have h2 := h1.kept hg1 (fun e => by have := (h.ord.lt _ e.symm).1; omega) (fun j e => .inl (.inl e))
  refine h2.reno fun k hk => ?_
  have hk' : g = k := Option.some.inj hk
  subst hk'
  rcases hat with e | e
  · exact .inl (.inl e)
  · exact .inl (.inr (by simp at e; omega))
/-- one more in its group -/
theorem Gath.push {w0 w : World} {cls : Nat → Nat} {l : List Nat} {c18 : Value} {n : Nat} (hb : Below w0.heap.size w0 w) {os : List Nat} (hos : w.ownsRow (w0.heap.size + 1) 3 1 c18 os.length (natCells os)) (hg : GrpAt w (w0.heap.size + 1) w0.heap.size l.length (metL cls l) fun g => c18.ownBlock = some g)
    (hn : n ≤ maxLen) (hcn : cls n ≤ maxLen) (hl : l.length < maxLen) (hord : orderL cls (l ++ [n]) = os) :
    ∃ v, (Instr.lookup 65 (.map (some w0.heap.size)) (.int .i64 (cls n : Int)) false).run Tryd.prog w = .ok v w ∧ w.ownsRow (w0.heap.size + 1) 3 1 v (metL cls l (cls n)).length (natCells (metL cls l (cls n))) ∧ (metL cls l (cls n)).length ≤ l.length ∧
      ∀ (w5 : World) (o : Obj) (g cap : Nat), (w.alloc o).grownBy w5 v.ownBlock → w5.ownsRow (w0.heap.size + 1) 3 1 (.slice (some ⟨g, 0, none⟩) ((metL cls l (cls n)).length + 1) cap) ((metL cls l (cls n)).length + 1) (natCells (metL cls l (cls n)) ++ [.int .i64 (n : Int)]) → (v.ownBlock = some g ∨ g = (w.alloc o).heap.size) →
        ∃ w6, (Instr.mapUpdate 65 (.map (some w0.heap.size)) (.int .i64 (cls n : Int)) (.slice (some ⟨g, 0, none⟩) ((metL cls l (cls n)).length + 1) cap)).run Tryd.prog w5 = .ok () w6 ∧ Gath w0 w6 cls (l ++ [n]) c18 := by
  obtain ⟨v, hrun, hown, hle, hno, hback⟩ := hg.look hcn hl
  refine ⟨v, hrun, hown, hle, fun w5 o g cap hgrow hown5 hat => ?_⟩
  have hg1 := grown_of_alloc hgrow
  have hbs := hb.size
  have hat2 : (Value.slice (some ⟨g, 0, none⟩) ((metL cls l (cls n)).length + 1) cap).ownBlock = v.ownBlock ∨ ∃ k, (Value.slice (some ⟨g, 0, none⟩) ((metL cls l (cls n)).length + 1) cap).ownBlock = some k ∧ w.heap.size ≤ k := by
    rcases hat with e | e
    · exact .inl e.symm
    · exact .inr ⟨g, rfl, by simp at e; omega⟩
  obtain ⟨w6, hrun6, hg6, hgr6⟩ := hback w5 _ n hn hg1 hown5 hat2 fun k hk hk' => by
    have e1 : g = k := Option.some.inj hk
    subst e1
    rcases hat with e | e
    · exact hno g e hk'
    · have := own_lt hos hk'; simp at e; omega
  refine ⟨w6, hrun6, ?_, ?_, ?_⟩
  · rw [hord]
    refine World.ownsRow.kept (w := w5) (World.ownsRow.kept hos hg1 ?_) hgr6 (.inr fun e => ?_)
    · cases hc : c18.ownBlock with
      | none => exact .inl rfl
      | some k => exact .inr fun e => hno k e.symm hc
    · have := (hos.lt _ e).1; omega
  · rw [List.length_append, metL_snoc]
    exact hg6
  · refine (hb.grown hg1 (by omega) fun k e => by have := (hown.lt k e).1; omega).grown hgr6 (by have := hg1.size; omega) fun k e => ?_
    cases e
    exact Nat.le_refl _
end Go.Proofs.YtgkpgjbgcimijaaDoor
