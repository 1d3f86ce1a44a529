/-
  The groups stay, whatever else turns. Conditions: each lemma says its own.
-/
import Derived.Test.YtgkpgjbgcimijaaDoorAuGrp2
import Derived.Test.YtgkpgjbgcimijaaDoorAuRows
namespace Go.Proofs.YtgkpgjbgcimijaaDoor
set_option linter.unusedVariables false
set_option linter.unusedSimpArgs false
open Go.RowKit Go.Maps Go.Sort Go.ChangeShapes Go.WideShapes

theorem own_same {w w' : World} {N : Nat → Prop} {B : Nat} {e : TypeId} {size n : Nat} {v : Value} {xs : List Value} (h : w.ownsRow B e size v n xs) (hs : Same N w w') (hn : ∀ g, v.ownBlock = some g → N g) : w'.ownsRow B e size v n xs := by
  refine ⟨h.1, ?_⟩
  rcases h.2 with h0 | ⟨g, cap, cur, rfl, hb, hg, h3⟩
  · exact .inl h0
  · have hlt : g < w.heap.size := by
      rcases Nat.lt_or_ge g w.heap.size with hlt | hge
      · exact hlt
      · rw [Array.getElem?_eq_none hge] at hg; cases hg
    exact .inr ⟨g, cap, cur, rfl, hb, (hs.2 g hlt (hn g rfl)).trans hg, h3⟩
theorem groups_same {w w' : World} {N : Nat → Prop} {base b n : Nat} {D : DataW Unit} (h : w.ownsGroups Tryd.prog 3 base 3 .i64 b n D) (hs : Same N w w') (hb' : N b) (hrow : ∀ k, base ≤ k → k < w.heap.size → N k) : w'.ownsGroups Tryd.prog 3 base 3 .i64 b n D := by
  obtain ⟨es, clock, hb, F, hsz, rfl, hbb, hlen, hap⟩ := h
  have hblt : b < w.heap.size := (Array.getElem?_eq_some_iff.1 hb).1
  have kept : ∀ (v : Value) (zs : List Int), w.ownsInts base 3 .i64 v zs → w'.ownsInts base 3 .i64 v zs := fun v zs ho => ⟨own_same ho.1 hs fun g hg => hrow g (ho.1.lt g hg).1 (ho.1.lt g hg).2, ho.2⟩
  have hst : ∀ x ∈ es.toList, ∀ z, rowElem (H := Unit) w base 3 .i64 x.val = some z → rowElem w' base 3 .i64 x.val = some z := fun x hx z hz => by
    obtain ⟨zs, ho, rfl⟩ := rowElem_inv hz
    exact rowElem_mk (kept _ _ ho)
  obtain ⟨F1, hmap, _⟩ := F.stay hst
  refine ⟨es, clock, (hs.2 b hblt hb').trans hb, F1, hsz, by rw [hmap], hbb, fun x hx zs ho => ?_, hap⟩
  obtain ⟨y, hy⟩ := F.reads x hx
  obtain ⟨z, hz, _⟩ := Go.WideElems.rd_val hy
  obtain ⟨zs0, ho0, _⟩ := rowElem_inv hz
  rw [ho.unique (kept _ _ ho0)]
  exact hlen x hx zs0 ho0
/-- a look-up later on -/
theorem Gath.later {w0 w w' : World} {cls : Nat → Nat} {l : List Nat} {c18 : Value} {N : Nat → Prop} (h : Gath w0 w cls l c18) (hs : Same N w w') (hN : ∀ k, w0.heap.size ≤ k → k < w.heap.size → N k) {a : Nat} (ha : a ≤ maxLen) (hl : l.length < maxLen) :
    ∃ v, (Instr.lookup 65 (.map (some w0.heap.size)) (.int .i64 (a : Int)) false).run Tryd.prog w' = .ok v w' ∧ NatsAt w' v (metL cls l a) ∧ ∀ k, v.ownBlock = some k → w0.heap.size ≤ k ∧ k < w.heap.size := by
  have hb := h.grp.lt.1
  obtain ⟨D, h1, h2, h3⟩ := h.grp.reno (No' := fun k => c18.ownBlock = some k ∨ w.heap.size ≤ k) fun k hk => hk
  have h1' := groups_same h1 hs (hN _ (Nat.le_refl _) hb) (fun k hk hk' => hN k (by omega) hk')
  have h2' : w'.Shuns w0.heap.size fun k => c18.ownBlock = some k ∨ w.heap.size ≤ k := fun es clock hbe => h2 es clock ((hs.2 _ hb (hN _ (Nat.le_refl _) hb)).symm.trans hbe)
  have hG : GrpAt w' (w0.heap.size + 1) w0.heap.size l.length (metL cls l) fun k => c18.ownBlock = some k ∨ w.heap.size ≤ k := ⟨D, h1', h2', h3⟩
  obtain ⟨v, hrun, hown, -, hno, -⟩ := hG.look ha hl
  refine ⟨v, hrun, .of_own hown, fun k hk => ?_⟩
  have h4 := hno k hk
  have h5 := (hown.lt k hk).1
  exact ⟨by omega, Nat.lt_of_not_le fun h6 => h4 (.inr h6)⟩
end Go.Proofs.YtgkpgjbgcimijaaDoor
