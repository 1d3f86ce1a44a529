/-
  Numbers in groups: a map from numbers to rows of numbers. Conditions: each lemma says its own.
-/
import Derived.Test.YtgkpgjbgcimijaaDoorAuMaps
import Derived.Test.YtgkpgjbgcimijaaDoorAuMem
namespace Go.Proofs.YtgkpgjbgcimijaaDoor
set_option linter.unusedVariables false
set_option linter.unusedSimpArgs false
open Go.RowKit Go.Maps Go.Sort Go.ChangeShapes Go.WideShapes

theorem zeroR (w : World) : (zeroValue 23).run Tryd.prog w = .ok (.slice none 0 0) w := by kernel_rfl
def intsOf (l : List Nat) : List Int := l.map fun (n : Nat) => (n : Int)
theorem intsOf_cells (l : List Nat) : (intsOf l).map (Value.int .i64) = natCells l := by simp [intsOf, natCells]
theorem intsOf_len (l : List Nat) : (intsOf l).length = l.length := by simp [intsOf]
theorem lits_inj : ∀ {zs zs' : List Int}, lits (H := Unit) .i64 zs = lits .i64 zs' → zs = zs'
  | [], [], _ => rfl
  | [], _ :: _, h => by simp [lits] at h
  | _ :: _, [], h => by simp [lits] at h
  | a :: zs, b :: zs', h => by
    have h' := List.cons.inj (show (DataW.lit (.int .i64 a) :: lits (H := Unit) .i64 zs) = DataW.lit (.int .i64 b) :: lits .i64 zs' from h)
    have h1 : a = b := by simpa using h'.1
    rw [h1, lits_inj h'.2]
/-- group a holds l -/
def IsG (D : DataW Unit) (a : Nat) (l : List Nat) : Prop := (D.atKey (.int .i64 (a : Int)) .nil = .nil ∧ l = []) ∨ D.atKey (.int .i64 (a : Int)) .nil = .slice (lits .i64 (intsOf l)) []
theorem IsG.eq {w : World} {base : Nat} {v : Value} {zs : List Int} {D : DataW Unit} {a : Nat} {l : List Nat} (h : IsG D a l) (hat : D.atKey (.int .i64 (a : Int)) .nil = rowDatum .i64 v zs) (hz : w.ownsInts base 3 .i64 v zs) : zs = intsOf l := by
  rcases h with ⟨h1, rfl⟩ | h1
  · rcases hz.datum (H := Unit) with ⟨h2, rfl⟩ | h2
    · rfl
    · rw [h1, h2] at hat; cases hat
  · rcases hz.datum (H := Unit) with ⟨h2, h3⟩ | h2
    · rw [h1, h2] at hat; cases hat
    · rw [h1, h2] at hat
      exact (lits_inj (DataW.slice.inj hat).1).symm
/-- the groups in memory: the map's block b, n stores so far, rows off the blocks No -/
def GrpAt (w : World) (base b n : Nat) (F : Nat → List Nat) (No : Nat → Prop) : Prop :=
  ∃ D : DataW Unit, w.ownsGroups Tryd.prog 3 base 3 .i64 b n D ∧ w.Shuns b No ∧ ∀ a : Nat, IsG D a (F a)
theorem GrpAt.made (w : World) (No : Nat → Prop) : GrpAt (w.alloc (.map #[] 0)) (w.heap.size + 1) w.heap.size 0 (fun _ => []) No :=
  ⟨.map [], World.ownsGroups_made w _ _ _ _, World.Shuns_made w No, fun a => .inl ⟨rfl, rfl⟩⟩
theorem GrpAt.lt {w : World} {base b n : Nat} {F : Nat → List Nat} {No : Nat → Prop} (h : GrpAt w base b n F No) : b < w.heap.size ∧ b < base := by
  obtain ⟨D, ⟨es, clock, hb, _, _, _, hbb, _⟩, _⟩ := h
  exact ⟨(Array.getElem?_eq_some_iff.1 hb).1, hbb⟩
theorem GrpAt.kept {w w' : World} {base b n : Nat} {F : Nat → List Nat} {No : Nat → Prop} {row : Option Nat} (h : GrpAt w base b n F No) (hg : w.grownBy w' row) (hb : some b ≠ row) (hr : ∀ j, row = some j → No j ∨ j < base) : GrpAt w' base b n F No := by
  have hlt := h.lt.1
  obtain ⟨D, h1, h2, h3⟩ := h
  refine ⟨D, h1.kept hg hb fun es clock hbe x hx => ?_, h2.kept hg hlt hb, h3⟩
  cases hrow : row with
  | none =>
    cases hx' : x.val.ownBlock with
    | none => exact .inl rfl
    | some g => exact .inr (by simp)
  | some j =>
    rcases hr j hrow with h4 | h4
    · exact h2.rowsOff (row := some j) (fun i hi => by cases hi; exact h4) es clock hbe x hx
    · exact h1.rowsAbove (row := some j) (fun i hi => by cases hi; exact h4) es clock hbe x hx
theorem GrpAt.reno {w : World} {base b n : Nat} {F : Nat → List Nat} {No No' : Nat → Prop} (h : GrpAt w base b n F No) (hn : ∀ g, No' g → No g ∨ w.heap.size ≤ g) : GrpAt w base b n F No' := by
  obtain ⟨D, h1, h2, h3⟩ := h
  exact ⟨D, h1, h2.reno h1 hn, h3⟩
/-- a look-up, and a store behind it -/
theorem GrpAt.look {w : World} {base b n : Nat} {F : Nat → List Nat} {No : Nat → Prop} (h : GrpAt w base b n F No) {a : Nat} (ha : a ≤ maxLen) (hn : n < maxLen) :
    ∃ v, (Instr.lookup 65 (.map (some b)) (.int .i64 (a : Int)) false).run Tryd.prog w = .ok v w ∧ w.ownsRow base 3 1 v (F a).length (natCells (F a)) ∧ (F a).length ≤ n ∧ (∀ g, v.ownBlock = some g → ¬ No g) ∧
      ∀ (w1 : World) (v' : Value) (x : Nat), x ≤ maxLen → w.grownBy w1 v.ownBlock → w1.ownsRow base 3 1 v' ((F a).length + 1) (natCells (F a) ++ [.int .i64 (x : Int)]) → (v'.ownBlock = v.ownBlock ∨ ∃ g, v'.ownBlock = some g ∧ w.heap.size ≤ g) → (∀ g, v'.ownBlock = some g → ¬ No g) →
        ∃ w2, (Instr.mapUpdate 65 (.map (some b)) (.int .i64 (a : Int)) v').run Tryd.prog w1 = .ok () w2 ∧ GrpAt w2 base b (n + 1) (fun i => if i = a then F a ++ [x] else F i) No ∧ w1.grownBy w2 (some b) := by
  obtain ⟨D, h1, h2, h3⟩ := h
  have hkey := int_key ha
  obtain ⟨v, zs, hrun, hat, hoi, hzl, hback⟩ := h1.at lawI Tryd.underlying65 (zeroR w) hn hkey
  have hsh : ∀ g, v.ownBlock = some g → ¬ No g := by
    obtain ⟨es, clock, hb, F, _⟩ := h1
    rcases Maps.fit_look false lawI Tryd.underlying65 (zeroR w) hb F hkey with ⟨hrun', _, _⟩ | ⟨e0, y, hm0, _, hrun', _, _, _⟩
    · rw [hrun] at hrun'
      obtain rfl : v = .slice none 0 0 := by simpa using hrun'
      intro g hg'
      cases hg'
    · rw [hrun] at hrun'
      obtain rfl : v = e0.val := by simpa using hrun'
      exact fun g hg' => h2 es clock hb e0 hm0 g hg'
  obtain rfl := (h3 a).eq hat hoi
  refine ⟨v, hrun, ?_, by rw [intsOf_len] at hzl; exact hzl, hsh, fun w1 v' x hx hgr hown hloc hno => ?_⟩
  · have := hoi.1
    rw [intsOf_len, intsOf_cells] at this
    exact this
  · have hown' : w1.ownsInts base 3 .i64 v' (intsOf (F a ++ [x])) := by
      refine ⟨?_, fun z hz => ?_⟩
      · rw [intsOf_len, intsOf_cells, natCells_snoc, List.length_append]
        exact hown
      · have e : intsOf (F a ++ [x]) = intsOf (F a) ++ [(x : Int)] := by simp [intsOf]
        rw [e] at hz
        rcases List.mem_append.1 hz with h4 | h4
        · exact hoi.2 z h4
        · obtain rfl := List.mem_singleton.1 h4
          exact wf_nat hx
    obtain ⟨w2, hrun2, r1, r2⟩ := hback w1 v' _ hgr hown' (by rw [intsOf_len, List.length_append]; rw [intsOf_len] at hzl; simp; omega) hloc
    have r3 : w2.Shuns b No := by
      obtain ⟨es, clock, hb, F, hs, _, hbb, _⟩ := h1
      have hblt : b < w.heap.size := (Array.getElem?_eq_some_iff.1 hb).1
      have hb1 : w1.heap[b]? = some (.map es clock) := (hgr.block b hblt (fun e1 => by have := (hoi.1.lt b e1.symm).1; omega)).trans hb
      obtain ⟨es', clock', hb2, hwho⟩ := stored_who lawI Tryd.underlying65 hb1 F (Nat.lt_of_le_of_lt hs hn) hkey hrun2
      intro es2 clock2 hb2' y hy g hyg
      obtain ⟨rfl, rfl⟩ : es' = es2 ∧ clock' = clock2 := by rw [hb2] at hb2'; simpa using hb2'
      rcases hwho y hy with ⟨hy0, _⟩ | ⟨_, hval⟩
      · exact h2 es clock hb y hy0 g hyg
      · exact hno g (hval ▸ hyg)
    refine ⟨w2, hrun2, ⟨_, r1, r3, fun y => ?_⟩, r2⟩
    have hM : IsMap D := by obtain ⟨es, clock, _, _, _, rfl, _⟩ := h1; exact ⟨_, rfl⟩
    by_cases e : y = a
    · subst e
      show IsG _ y (if y = y then F y ++ [x] else F y)
      rw [if_pos rfl]
      refine .inr ?_
      rw [atKey_put_same hM (lawI.key hkey)]
      rcases hown'.1.2 with ⟨_, h0⟩ | ⟨g, cap, cur, hv, _⟩
      · rw [intsOf_len, List.length_append] at h0; simp at h0
      · rw [hv]; rfl
    · show IsG _ y (if y = a then F a ++ [x] else F y)
      rw [if_neg e]
      have hne : (Lit.int .i64 (y : Int)) ≠ .int .i64 (a : Int) := by intro e'; simp at e'; exact e (by exact_mod_cast e')
      unfold IsG
      rw [atKey_put_other hne]
      exact h3 y
end Go.Proofs.YtgkpgjbgcimijaaDoor
