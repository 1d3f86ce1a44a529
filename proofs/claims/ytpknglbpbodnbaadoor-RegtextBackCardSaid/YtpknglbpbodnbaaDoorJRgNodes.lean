/-
  Trees in memory whose rows lie in certain blocks; rows of parts. Conditions: each lemma says its own.
-/
import Derived.Test.YtpknglbpbodnbaaDoorJRgRd
namespace Go.Proofs.YtpknglbpbodnbaaDoor
set_option linter.unusedVariables false
set_option linter.unusedSimpArgs false
open Go.RowKit Go.Sort Cs Rg Go.ChangeShapes Go.WideShapes

mutual
/-- the row of a node's parts lies there, in a block of P -/
def NdP (P : Nat → Prop) (w : World) : Option Addr → Nd → Prop
  | a, .mk k s l x y => l.length ≤ maxLen ∧ (l = [] ∨ ∃ b o, a = some ⟨b, o, none⟩ ∧ P b ∧ b < w.heap.size ∧ RowP P w b o l)
def RowP (P : Nat → Prop) (w : World) (b : Nat) : Nat → List Nd → Prop
  | _, [] => True
  | o, n :: l => (∃ (a : Option Addr) (c : Nat), Lies w b o (cellsN n.kind n.set (.slice a n.kids.length c) n.lo n.hi) ∧ NdP P w a n) ∧ RowP P w b (o + 8) l
end
theorem Lies.keep {w w' : World} {b o : Nat} {cs : List Value} (h : Lies w b o cs) (hb : w'.heap[b]? = w.heap[b]?) : Lies w' b o cs := fun j v hj => by
  have h1 := h j v hj
  exact (World.cell?_of_block (a := ⟨b, o + j, none⟩) hb).trans h1
theorem RowP.keep_of {P Q : Nat → Prop} {w w' : World} {b : Nat} (hb : w'.heap[b]? = w.heap[b]?) {l : List Nd} (hl : ∀ n ∈ l, ∀ a, NdP P w a n → NdP Q w' a n) : ∀ {o : Nat}, RowP P w b o l → RowP Q w' b o l := by
  induction l with
  | nil => intro o _; trivial
  | cons m l ih =>
    intro o h
    rw [RowP] at h ⊢
    obtain ⟨⟨a, c, h1, h2⟩, h3⟩ := h
    exact ⟨⟨a, c, h1.keep hb, hl m (List.mem_cons_self ..) a h2⟩, ih (fun n hn => hl n (List.mem_cons_of_mem _ hn)) h3⟩
/-- what is kept of a tree -/
theorem NdP.keep {P Q : Nat → Prop} {w w' : World} (hsz : w.heap.size ≤ w'.heap.size) (hPQ : ∀ b, b < w.heap.size → P b → Q b ∧ w'.heap[b]? = w.heap[b]?) (n : Nd) : ∀ {a : Option Addr}, NdP P w a n → NdP Q w' a n := by
  refine Nd.ind (P := fun n => ∀ {a : Option Addr}, NdP P w a n → NdP Q w' a n) (fun k s l x y ih a h => ?_) n
  rw [NdP] at h ⊢
  refine ⟨h.1, h.2.imp id ?_⟩
  rintro ⟨b, o, e, hp, h1, h2⟩
  obtain ⟨h3, h4⟩ := hPQ b h1 hp
  exact ⟨b, o, e, h3, by omega, h2.keep_of h4 (fun n hn a => ih n hn)⟩
theorem RowP.at_of {P : Nat → Prop} {w : World} {b : Nat} {l : List Nd} (hl : ∀ n ∈ l, ∀ a, NdP P w a n → NdIn w a n) : ∀ {o : Nat}, RowP P w b o l → RowAt w b o l := by
  induction l with
  | nil => intro o _; trivial
  | cons m l ih =>
    intro o h
    rw [RowP] at h
    rw [RowAt]
    obtain ⟨⟨a, c, h1, h2⟩, h3⟩ := h
    exact ⟨⟨a, c, h1, hl m (List.mem_cons_self ..) a h2⟩, ih (fun n hn => hl n (List.mem_cons_of_mem _ hn)) h3⟩
theorem NdP.in_ {P : Nat → Prop} {w : World} (n : Nd) : ∀ {a : Option Addr}, NdP P w a n → NdIn w a n := by
  refine Nd.ind (P := fun n => ∀ {a : Option Addr}, NdP P w a n → NdIn w a n) (fun k s l x y ih a h => ?_) n
  rw [NdP] at h
  rw [NdIn]
  refine ⟨h.1, h.2.imp id ?_⟩
  rintro ⟨b, o, e, hp, h1, h2⟩
  exact ⟨b, o, e, h1, h2.at_of (fun n hn a => ih n hn)⟩
/-- nodes with where their rows lie -/
abbrev NRow := List (Nd × Option Addr × Nat)
def cellsE (e : Nd × Option Addr × Nat) : List Value := cellsN e.1.kind e.1.set (.slice e.2.1 e.1.kids.length e.2.2) e.1.lo e.1.hi
def cellsL (L : NRow) : List Value := L.flatMap cellsE
theorem cellsE_len (e : Nd × Option Addr × Nat) : (cellsE e).length = 8 := rfl
theorem cellsL_len (L : NRow) : (cellsL L).length = L.length * 8 := by
  induction L with
  | nil => rfl
  | cons e L ih =>
    show (cellsE e ++ cellsL L).length = _
    rw [List.length_append, cellsE_len, ih, List.length_cons]
    omega
theorem cellsL_app (L M : NRow) : cellsL (L ++ M) = cellsL L ++ cellsL M := by simp [cellsL]
theorem cellsL_one (e : Nd × Option Addr × Nat) : cellsL [e] = cellsE e := by simp [cellsL]
theorem cellsE_plain (e : Nd × Option Addr × Nat) : ∀ u ∈ cellsE e, u.oneCell' = true := by
  intro u hu
  simp only [cellsE, cellsN, List.mem_cons, List.not_mem_nil, or_false] at hu
  rcases hu with rfl | rfl | rfl | rfl | rfl | rfl | rfl | rfl <;> rfl
theorem cellsL_plain (L : NRow) : ∀ u ∈ cellsL L, u.oneCell' = true := by
  intro u hu
  obtain ⟨e, _, h⟩ := List.mem_flatMap.1 hu
  exact cellsE_plain e u h
/-- cell by cell -/
theorem cellsL_at {L : NRow} {i j : Nat} {e : Nd × Option Addr × Nat} {u : Value} (hi : L[i]? = some e) (hj : (cellsE e)[j]? = some u) : (cellsL L)[i * 8 + j]? = some u := by
  induction L generalizing i with
  | nil => simp at hi
  | cons d L ih =>
    show (cellsE d ++ cellsL L)[i * 8 + j]? = _
    have hj8 : j < 8 := by have := (List.getElem?_eq_some_iff.1 hj).1; rw [cellsE_len] at this; exact this
    cases i with
    | zero =>
      simp at hi
      subst hi
      rw [Nat.zero_mul, Nat.zero_add, List.getElem?_append_left (by rw [cellsE_len]; exact hj8)]
      exact hj
    | succ i =>
      rw [List.getElem?_append_right (by rw [cellsE_len]; omega), cellsE_len]
      rw [show (i + 1) * 8 + j - 8 = i * 8 + j by omega]
      exact ih (by simpa using hi)
/-- a row that is laid out is a row of nodes -/
theorem RowP.of {P : Nat → Prop} {w : World} {b : Nat} {L : NRow} (hN : ∀ e ∈ L, NdP P w e.2.1 e.1) : ∀ {o : Nat}, (∀ j u, (cellsL L)[j]? = some u → w.cell? ⟨b, o + j, none⟩ = some u) → RowP P w b o (L.map (·.1)) := by
  induction L with
  | nil => intro o _; trivial
  | cons e L ih =>
    intro o h
    show RowP P w b o (e.1 :: L.map (·.1))
    rw [RowP]
    refine ⟨⟨e.2.1, e.2.2, fun j v hj => h j v ?_, hN e (List.mem_cons_self ..)⟩, ih (fun d hd => hN d (List.mem_cons_of_mem _ hd)) fun j u hu => ?_⟩
    · have := cellsL_at (L := e :: L) (i := 0) (j := j) (e := e) (u := v) rfl hj
      simpa using this
    · have := h (j + 8) u (by
        show (cellsE e ++ cellsL L)[j + 8]? = _
        rw [List.getElem?_append_right (by rw [cellsE_len]; omega), cellsE_len, Nat.add_sub_cancel]
        exact hu)
      rw [show o + 8 + j = o + (j + 8) by omega]
      exact this
/-- and back -/
theorem RowP.list {P : Nat → Prop} {w : World} {b : Nat} {l : List Nd} : ∀ {o : Nat}, RowP P w b o l → ∃ L : NRow, L.map (·.1) = l ∧ (∀ e ∈ L, NdP P w e.2.1 e.1) ∧ ∀ j u, (cellsL L)[j]? = some u → w.cell? ⟨b, o + j, none⟩ = some u := by
  induction l with
  | nil => intro o _; exact ⟨[], rfl, fun e he => (by cases he), fun j u hu => (by simp [cellsL] at hu)⟩
  | cons n l ih =>
    intro o h
    rw [RowP] at h
    obtain ⟨⟨a, c, h1, h2⟩, h3⟩ := h
    obtain ⟨L, e1, e2, e3⟩ := ih h3
    refine ⟨(n, a, c) :: L, by rw [List.map_cons, e1], fun e he => ?_, fun j u hu => ?_⟩
    · rcases List.mem_cons.1 he with rfl | he
      · exact h2
      · exact e2 e he
    · have hu2 : (cellsE (n, a, c) ++ cellsL L)[j]? = some u := hu
      by_cases hj : j < 8
      · rw [List.getElem?_append_left (by rw [cellsE_len]; exact hj)] at hu2
        exact h1 j u hu2
      · rw [List.getElem?_append_right (by rw [cellsE_len]; omega), cellsE_len] at hu2
        have := e3 (j - 8) u hu2
        rw [show o + 8 + (j - 8) = o + j by omega] at this
        exact this
/-- a node's value, its rows in blocks of P -/
def NdV (P : Nat → Prop) (w : World) (v : Value) (n : Nd) : Prop := ∃ (a : Option Addr) (c : Nat), v = nodeV n.kind n.set (.slice a n.kids.length c) n.lo n.hi ∧ NdP P w a n
theorem NdV.at_ {P : Nat → Prop} {w : World} {v : Value} {n : Nd} (h : NdV P w v n) : NdAt w v n := by
  obtain ⟨a, c, e, h⟩ := h
  exact ⟨a, c, e, h.in_⟩
theorem NdV.keep {P Q : Nat → Prop} {w w' : World} {v : Value} {n : Nd} (h : NdV P w v n) (hsz : w.heap.size ≤ w'.heap.size) (hPQ : ∀ b, b < w.heap.size → P b → Q b ∧ w'.heap[b]? = w.heap[b]?) : NdV Q w' v n := by
  obtain ⟨a, c, e, h⟩ := h
  exact ⟨a, c, e, NdP.keep hsz hPQ n h⟩
/-- a growing row of parts -/
structure PartsAt (P : Nat → Prop) (w : World) (base : Nat) (v : Value) (ps : List Nd) : Prop where
  ex : ∃ L : NRow, L.map (·.1) = ps ∧ w.ownsRow base 27 8 v ps.length (cellsL L) ∧ ∀ e ∈ L, NdP (fun b => P b ∧ v.ownBlock ≠ some b) w e.2.1 e.1
end Go.Proofs.YtpknglbpbodnbaaDoor
