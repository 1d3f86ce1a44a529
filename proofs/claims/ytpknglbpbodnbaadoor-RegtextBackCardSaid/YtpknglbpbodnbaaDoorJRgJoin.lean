/-
  Rows of parts; the walk of join. Conditions: the parts lie in memory; there are not too many.
-/
import Derived.Test.YtpknglbpbodnbaaDoorJRgNodes
namespace Go.Proofs.YtpknglbpbodnbaaDoor
set_option linter.unusedVariables false
set_option linter.unusedSimpArgs false
open Go.RowKit Go.Sort Cs Rg Go.ChangeShapes Go.WideShapes

theorem own_below {base : Nat} {e : TypeId} {size n : Nat} {v : Value} {xs : List Value} {w w' : World} (h : w.ownsRow base e size v n xs) (b : Below w.heap.size w w') : w'.ownsRow base e size v n xs :=
  h.kept (row := none) ⟨b.os, b.tape, b.output, b.size, fun k hk _ => b.block k hk⟩ (Classical.em _)
theorem own_ge {w : World} {B : Nat} {e : TypeId} {size n j : Nat} {v : Value} {xs : List Value} (h : w.ownsRow B e size v n xs) (hj : v.ownBlock = some j) : B ≤ j := by
  rcases h.2 with ⟨rfl, _⟩ | ⟨g, cap, cur, rfl, hBg, _⟩
  · simp [Value.ownBlock] at hj
  · have : g = j := by simpa [Value.ownBlock] using hj
    omega
theorem own_nil (w : World) (base : Nat) (e : TypeId) (size : Nat) : w.ownsRow base e size (.slice none 0 0) 0 [] := ⟨by simp, .inl ⟨rfl, rfl⟩⟩
theorem info_parts {o : Option TypeInfo} {z : Value} {s b : Nat} (h : o.map (fun i => (i.zero, i.size, i.bytes)) = some (some z, s, b)) : ∃ i, o = some i ∧ i.zero = some z ∧ i.size = s ∧ i.bytes = b := by
  cases o with
  | none => cases h
  | some i =>
    simp at h
    exact ⟨i, rfl, h.1, h.2.1, h.2.2⟩
abbrev zeroNd : Value := .agg #[.int .i64 0, .int .u64 0, .int .u64 0, .int .u64 0, .int .u64 0, .slice none 0 0, .int .i64 0, .int .i64 0]
theorem infoNode : (Tryd.prog.info? 27).map (fun i => (i.zero, i.size, i.bytes)) = some (some zeroNd, 8, 80) := by kernel_rfl
/-- parts that are only read -/
structure Src (P : Nat → Prop) (w : World) (A : Option Addr) (ps : List Nd) : Prop where
  ex : ∃ L : NRow, L.map (·.1) = ps ∧ (ps = [] ∨ ∃ pb o, A = some ⟨pb, o, none⟩ ∧ pb < w.heap.size ∧ ∀ j u, (cellsL L)[j]? = some u → w.cell? ⟨pb, o + j, none⟩ = some u) ∧ ∀ e ∈ L, NdP P w e.2.1 e.1
theorem Src.below {P : Nat → Prop} {w w' : World} {A : Option Addr} {ps : List Nd} (h : Src P w A ps) (hb : Below w.heap.size w w') : Src P w' A ps := by
  obtain ⟨L, h1, h2, h3⟩ := h
  refine ⟨L, h1, h2.imp id ?_, fun e he => NdP.keep hb.size (fun b hb2 hp => ⟨hp, hb.block b hb2⟩) e.1 (h3 e he)⟩
  rintro ⟨pb, o, e, h4, h5⟩
  exact ⟨pb, o, e, by have := hb.size; omega, fun j u hu => (hb.cell (p := ⟨pb, o + j, none⟩) h4).trans (h5 j u hu)⟩
/-- one of them -/
theorem Src.get {P : Nat → Prop} {w : World} {A : Option Addr} {ps : List Nd} {i : Nat} {m : Nd} (h : Src P w A ps) (hi : ps[i]? = some m) :
    ∃ pb o a c, A = some ⟨pb, o, none⟩ ∧ pb < w.heap.size ∧ Lies w pb (o + i * 8) (cellsN m.kind m.set (.slice a m.kids.length c) m.lo m.hi) ∧ NdP P w a m := by
  obtain ⟨L, h1, h2, h3⟩ := h
  rcases h2 with rfl | ⟨pb, o, rfl, h4, h5⟩
  · simp at hi
  · rw [← h1, List.getElem?_map] at hi
    cases he : L[i]? with
    | none => rw [he] at hi; cases hi
    | some e =>
      rw [he] at hi
      simp at hi
      subst hi
      refine ⟨pb, o, e.2.1, e.2.2, rfl, h4, fun j v hj => ?_, h3 e (List.mem_of_getElem? he)⟩
      have := h5 (i * 8 + j) v (cellsL_at he hj)
      rw [Nat.add_assoc]
      exact this
/-- a node's own parts -/
theorem NdP.src {P : Nat → Prop} {w : World} {a : Option Addr} {n : Nd} (h : NdP P w a n) : Src P w a n.kids := by
  cases n with
  | mk k s l x y =>
    rw [NdP] at h
    rcases h.2 with h2 | ⟨b, o, rfl, hp, h1, h2⟩
    · exact ⟨[], by show [] = l; rw [h2], .inl h2, fun e he => by cases he⟩
    · obtain ⟨L, e1, e2, e3⟩ := h2.list
      exact ⟨L, e1, .inr ⟨b, o, rfl, h1, e3⟩, e2⟩
theorem NdP.len {P : Nat → Prop} {w : World} {a : Option Addr} {n : Nd} (h : NdP P w a n) : n.kids.length ≤ maxLen := by
  cases n with
  | mk k s l x y => rw [NdP] at h; exact h.1
/-- as an append reads it -/
theorem Src.reads {P : Nat → Prop} {w : World} {A : Option Addr} {ps : List Nd} (h : Src P w A ps) :
    ∃ L : NRow, L.map (·.1) = ps ∧ Reads w w.heap.size 8 A ps.length (cellsL L) ∧ ∀ e ∈ L, NdP P w e.2.1 e.1 := by
  obtain ⟨L, h1, h2, h3⟩ := h
  refine ⟨L, h1, ⟨by rw [cellsL_len, ← h1, List.length_map], fun hn => ?_⟩, h3⟩
  rcases h2 with rfl | ⟨pb, o, rfl, h4, h5⟩
  · simp at hn
  · refine ⟨_, rfl, h4, fun j u hu => ?_⟩
    have h6 := h5 j u hu
    unfold Addr.add
    split
    · rename_i e; rw [e, Nat.add_zero] at h6; exact h6
    · exact h6
/-- a growing row of parts: its nodes lie apart from it -/
def Grows (P : Nat → Prop) (w : World) (base : Nat) (v : Value) (ps : List Nd) : Prop :=
  ∃ L : NRow, L.map (·.1) = ps ∧ w.ownsRow base 27 8 v ps.length (cellsL L) ∧ ∀ e ∈ L, NdP (fun b => P b ∧ v.ownBlock ≠ some b) w e.2.1 e.1
theorem Grows.below {P : Nat → Prop} {w w' : World} {base : Nat} {v : Value} {ps : List Nd} (h : Grows P w base v ps) (hb : Below w.heap.size w w') : Grows P w' base v ps := by
  obtain ⟨L, h1, h2, h3⟩ := h
  exact ⟨L, h1, own_below h2 hb, fun e he => NdP.keep hb.size (fun b hb2 hp => ⟨hp, hb.block b hb2⟩) e.1 (h3 e he)⟩
theorem Grows.nil (P : Nat → Prop) (w : World) (base : Nat) : Grows P w base (.slice none 0 0) [] := ⟨[], rfl, own_nil _ _ _ _, fun e he => by cases he⟩
/-- a row that grows, read -/
theorem Grows.src {P : Nat → Prop} {w : World} {base : Nat} {v : Value} {ps : List Nd} (h : Grows P w base v ps) : ∃ A c, v = .slice A ps.length c ∧ Src P w A ps := by
  obtain ⟨L, h1, h2, h3⟩ := h
  have h4 : ∀ e ∈ L, NdP P w e.2.1 e.1 := fun e he => NdP.keep (Nat.le_refl _) (fun b _ hp => ⟨hp.1, rfl⟩) e.1 (h3 e he)
  rcases Nat.eq_zero_or_pos ps.length with hz | hz
  · have hp : ps = [] := List.eq_nil_of_length_eq_zero hz
    rcases h2.2 with ⟨rfl, h0⟩ | ⟨g, cap, cur, rfl, _⟩
    · exact ⟨none, 0, by rw [hz], L, h1, .inl hp, h4⟩
    · exact ⟨some ⟨g, 0, none⟩, cap, rfl, L, h1, .inl hp, h4⟩
  · obtain ⟨g, cap, rfl, _, hlt⟩ := h2.form hz
    refine ⟨some ⟨g, 0, none⟩, cap, rfl, L, h1, .inr ⟨g, 0, rfl, hlt, fun j u hu => ?_⟩, h4⟩
    have h5 := h2.cells (g := g) rfl j u hu
    rw [Nat.zero_add]
    unfold Addr.add at h5
    split at h5
    · rename_i e; rw [e]; exact h5
    · simpa using h5
/-- one part more -/
theorem Grows.push {P : Nat → Prop} {w w' : World} {base : Nat} {v v' : Value} {ps : List Nd} {L M : NRow} {ms : List Nd} (h1 : L.map (·.1) = ps) (hM : M.map (·.1) = ms) (hown : w'.ownsRow base 27 8 v' (ps.length + ms.length) (cellsL L ++ cellsL M))
    (hg : w.grownBy w' v.ownBlock) (hat : v'.ownBlock = v.ownBlock ∨ v'.ownBlock = some w.heap.size)
    (h3 : ∀ e ∈ L, NdP (fun b => P b ∧ v.ownBlock ≠ some b) w e.2.1 e.1) (hm : ∀ e ∈ M, NdP (fun b => P b ∧ v.ownBlock ≠ some b) w e.2.1 e.1) : Grows P w' base v' (ps ++ ms) := by
  refine ⟨L ++ M, by rw [List.map_append, h1, hM], by rw [List.length_append, cellsL_app]; exact hown, fun e he => ?_⟩
  have h4 : NdP (fun b => P b ∧ v.ownBlock ≠ some b) w e.2.1 e.1 := by
    rcases List.mem_append.1 he with h | h
    · exact h3 e h
    · exact hm e h
  refine NdP.keep hg.size (fun b hb hp => ⟨⟨hp.1, ?_⟩, hg.block b hb (fun e => hp.2 e.symm)⟩) e.1 h4
  rcases hat with h | h
  · rw [h]; exact hp.2
  · rw [h]; intro e; have := Option.some.inj e; omega
theorem flat_take {k : Int} {ps : List Nd} {i : Nat} {m : Nd} (h : ps[i]? = some m) : flatN k (ps.take (i + 1)) = flatN k (ps.take i) ++ (if m.kind = k then m.kids else [m]) := by
  have e : ps.take (i + 1) = ps.take i ++ [m] := by rw [List.take_add_one, h]; rfl
  rw [e]
  simp [flatN]
theorem flat_take_le (k : Int) (ps : List Nd) (i : Nat) : (flatN k (ps.take i)).length ≤ (flatN k ps).length := by
  have h : flatN k ps = flatN k (ps.take i) ++ flatN k (ps.drop i) := by
    unfold flatN
    rw [← List.flatMap_append, List.take_append_drop]
  rw [h, List.length_append]
  omega
end Go.Proofs.YtpknglbpbodnbaaDoor
