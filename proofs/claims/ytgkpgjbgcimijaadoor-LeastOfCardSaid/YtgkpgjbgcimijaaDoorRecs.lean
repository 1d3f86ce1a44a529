/-
  A slice of structs that came in, each field one cell: opened at every element and field; a list out of what holds at each index. Conditions: each lemma says its own.
-/
import Derived.Test.YtgkpgjbgcimijaaDoorKit
import Derived.Deep.Slices
import Derived.Deep.Fields
import Derived.ChangeSame
namespace Go.Proofs.YtgkpgjbgcimijaaDoor
set_option linter.unusedVariables false
open Go.ChangeShapes Go.WideShapes Go.ChangeAt Go.RowKit Go.Deep

theorem list_of {α : Type} (len : Nat) (R : Nat → α → Prop) (h : ∀ i, i < len → ∃ x, R i x) : ∃ l : List α, l.length = len ∧ ∀ j x, l[j]? = some x → R j x := by
  induction len with
  | zero => exact ⟨[], rfl, fun j x hx => by simp at hx⟩
  | succ n ih =>
    obtain ⟨l, hl, hr⟩ := ih fun i hi => h i (by omega)
    obtain ⟨x, hx⟩ := h n (by omega)
    refine ⟨l ++ [x], by simp [hl], fun j y hy => ?_⟩
    by_cases hj : j < l.length
    · rw [List.getElem?_append_left hj] at hy
      exact hr j y hy
    · rw [List.getElem?_append_right (by omega)] at hy
      have hz : j - l.length = 0 := by
        rcases Nat.lt_or_ge (j - l.length) 1 with h1 | h1
        · omega
        · rw [List.getElem?_eq_none (by simpa using h1)] at hy; cases hy
      have : j = n := by omega
      subst this
      rw [hz] at hy
      simp at hy
      subst hy
      exact hx

theorem open_recs {P : Program} {W : World} {H : Type} {enc : TypeId × Value → H} {base : Nat} {held : Bool} {t e : TypeId} {fs : Array Field} {a : Option Addr} {len cap : Nat} {d : DataW H} {ps : List MemPlace}
    (ht : P.underlying t = some (.slice e)) (he : P.underlying e = some (.struct fs)) (hone : oneCellFields P fs = true) (hC : P.cellsOf e = fs.size) (hpos : 0 < fs.size)
    (h : DataW.Trod enc P W base (fun _ => true) held t (.slice a len cap) d ps) :
    len ≤ cap ∧ cap ≤ maxLen ∧ (len = 0 ∨ ∃ b off, a = some ⟨b, off, none⟩ ∧ b < W.heap.size ∧
      ∀ i, i < len → ∀ (j : Nat) (f : Field), fs[j]? = some f → ∃ (v : Value) (y : DataW H × List MemPlace) (n : Nat), W.cell? ⟨b, off + (i * fs.size + j), none⟩ = some v ∧ DataW.trod enc P W base (fun _ => true) held n f.type [v] = some y) := by
  obtain ⟨fuel, hf⟩ := h
  rcases open_slice ht hf with ⟨h0, _⟩ | ⟨x, l, c, m, n, D, Pl, hcs, hb, hl, hm, hmm, hx, hi⟩
  · simp [Value.cells] at h0
    obtain ⟨rfl, rfl, rfl⟩ := h0
    exact ⟨Nat.le_refl _, Nat.zero_le _, .inl rfl⟩
  · simp [Value.cells] at hcs
    obtain ⟨rfl, rfl, rfl⟩ := hcs
    refine ⟨hl, hm, ?_⟩
    rcases Nat.eq_zero_or_pos len with h0 | h0
    · exact .inl h0
    right
    have hmc : m = cap := by simpa using hmm
    have key : ∀ i, i < len → ∀ (j : Nat) (f : Field), fs[j]? = some f → ∃ (v : Value) (y : DataW H × List MemPlace) (n : Nat), W.cell? (x.add (i * fs.size + j)) = some v ∧ DataW.trod enc P W base (fun _ => true) held n f.type [v] = some y := by
      intro i hil j f hj
      obtain ⟨cs', hc, ht'⟩ := hi i (by omega)
      rw [hC] at hc
      obtain ⟨ys, n', hn', hy, hlen, hyl, hg⟩ := DataW.trod_struct he ht'
      obtain ⟨_, hcl, hat⟩ := World.cells?_some hc
      obtain ⟨ho, hk⟩ := hone_of hone j f hj
      have hjl : j < fs.size := (Array.getElem?_eq_some_iff.1 hj).1
      have hcell := hat j hjl
      have h1 := hg j f hj
      rw [ho, hk] at h1
      have e1 : (cs'.drop j).take 1 = [cs'[j]'(by omega)] := by
        rw [List.drop_eq_getElem_cons (by omega)]
        rfl
      rw [e1] at h1
      have hys : ys[j]? = some (ys[j]'(by omega)) := List.getElem?_eq_getElem (by omega)
      refine ⟨cs'[j]'(by omega), _, n', ?_, h1.trans hys⟩
      rw [← Go.Deep.add_add, hcell]
      exact List.getElem?_eq_getElem (by omega)
    obtain ⟨b, off, spot⟩ := x
    obtain ⟨v0, _, _, hc0, _⟩ := key 0 h0 0 (fs[0]'hpos) (Array.getElem?_eq_getElem hpos)
    have hspot : spot = none := by simpa [Addr.add] using World.cell?_spot hc0
    subst hspot
    have hc0' : W.cell? ⟨b, off, none⟩ = some v0 := by simpa [Addr.add] using hc0
    refine ⟨b, off, rfl, World.block_lt_of_cell? W _ hc0', fun i hil j f hj => ?_⟩
    obtain ⟨v, y, n, hc, hy⟩ := key i hil j f hj
    rw [Addr.add_lit] at hc
    exact ⟨v, y, n, hc, hy⟩
end Go.Proofs.YtgkpgjbgcimijaaDoor
