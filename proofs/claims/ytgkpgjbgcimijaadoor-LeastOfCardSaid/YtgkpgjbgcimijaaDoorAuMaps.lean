/-
  Maps from numbers: a set that was seen; a function's table. Conditions: each lemma says its own.
-/
import Derived.Test.YtgkpgjbgcimijaaDoorAuMem
import Derived.Maps.OwnSet
namespace Go.Proofs.YtgkpgjbgcimijaaDoor
set_option linter.unusedVariables false
set_option linter.unusedSimpArgs false
open Go.RowKit Go.Maps Go.Sort

theorem lawI : Keyed Tryd.prog 3 := int_keyed Tryd.underlying3
theorem wf_nat {n : Nat} (h : n ≤ maxLen) : (Lit.int .i64 (n : Int)).wf = true := by
  unfold maxLen at h
  simp [Lit.wf, IntKind.min, IntKind.max, IntKind.signed, IntKind.bits]
  omega
theorem int_key {n : Nat} (h : n ≤ maxLen) : keyOf Tryd.prog 3 (.int .i64 (n : Int)) = some (.int .i64 (n : Int)) := keyOf_int_mk Tryd.underlying3 (wf_nat h)
theorem zeroB (w : World) : (zeroValue 4).run Tryd.prog w = .ok (.bool false) w := by kernel_rfl
theorem zeroI (w : World) : (zeroValue 3).run Tryd.prog w = .ok (.int .i64 0) w := by kernel_rfl

theorem plainElem_bool_inv {P : Program} {e : TypeId} (he : P.underlying e = some .bool) {v : Value} {z : DataW Unit × List MemPlace} (h : plainElem P e v = some z) : ∃ b, v = .bool b ∧ z = (.lit (.bool b), []) := by
  unfold plainElem at h
  rw [he] at h
  cases v <;> simp at h
  exact ⟨_, rfl, h.symm⟩

/-- numbers that were seen: map[int]bool -/
def SeenAt (w : World) (b n : Nat) (S : List Nat) : Prop :=
  ∃ D : DataW Unit, w.ownsMap Tryd.prog 3 (plainElem Tryd.prog 4) b n D ∧ ∀ x : Nat, D.atKey (.int .i64 (x : Int)) (.lit (.bool false)) = .lit (.bool (decide (x ∈ S)))
theorem SeenAt.none (w : World) : SeenAt (w.alloc (.map #[] 0)) w.heap.size 0 [] := ⟨.map [], World.ownsMap_made _ _ _ _, fun x => by simp; rfl⟩
theorem SeenAt.kept {w w' : World} {b n : Nat} {S : List Nat} {row : Option Nat} (h : SeenAt w b n S) (hg : w.grownBy w' row) (hne : some b ≠ row) : SeenAt w' b n S := by
  obtain ⟨D, h1, h2⟩ := h
  exact ⟨D, h1.kept hg hne, h2⟩
theorem SeenAt.lt {w : World} {b n : Nat} {S : List Nat} (h : SeenAt w b n S) : b < w.heap.size := by obtain ⟨D, h1, -⟩ := h; exact h1.lt
theorem SeenAt.look {w : World} {b n : Nat} {S : List Nat} (h : SeenAt w b n S) {x : Nat} (hx : x ≤ maxLen) : (Instr.lookup 78 (.map (some b)) (.int .i64 (x : Int)) false).run Tryd.prog w = .ok (.bool (decide (x ∈ S))) w := by
  obtain ⟨D, h1, h2⟩ := h
  obtain ⟨v, ps, hrun, hv⟩ := h1.lookup lawI Tryd.underlying78 (zeroB w) (plainElem_bool Tryd.underlying4 false) (int_key hx)
  obtain ⟨c, rfl, hc⟩ := plainElem_bool_inv Tryd.underlying4 hv
  rw [h2] at hc
  simp at hc
  rw [hrun, hc.1]
theorem SeenAt.put {w : World} {b n : Nat} {S : List Nat} (h : SeenAt w b n S) {x : Nat} (hx : x ≤ maxLen) (hn : n < maxLen) : ∃ w', (Instr.mapUpdate 78 (.map (some b)) (.int .i64 (x : Int)) (.bool true)).run Tryd.prog w = .ok () w' ∧ SeenAt w' b (n + 1) (x :: S) ∧ w.grownBy w' (some b) := by
  obtain ⟨D, h1, h2⟩ := h
  obtain ⟨w', hrun, r1, r2⟩ := h1.update lawI Tryd.underlying78 hn (int_key hx) (plainElem_bool Tryd.underlying4 true)
  refine ⟨w', hrun, ⟨_, r1, fun y => ?_⟩, r2⟩
  have hM := h1.isMap
  by_cases e : y = x
  · subst e
    rw [atKey_put_same hM (lawI.key (int_key hx))]
    simp
  · have hne : (Lit.int .i64 (y : Int)) ≠ .int .i64 (x : Int) := by intro e'; simp at e'; exact e (by exact_mod_cast e')
    rw [atKey_put_other hne, h2]
    simp [e]
end Go.Proofs.YtgkpgjbgcimijaaDoor
