/-
  Trees in memory. Conditions: each lemma says its own.
-/
import Derived.Test.YtpknglbpbodnbaaDoorJRgBack
import Derived.Test.YtpknglbpbodnbaaDoorJKit
import Derived.Test.YtpknglbpbodnbaaDoorJCsOpen
import Derived.Test.YtpknglbpbodnbaaDoorJCsEq
namespace Go.Proofs.YtpknglbpbodnbaaDoor
set_option linter.unusedVariables false
set_option linter.unusedSimpArgs false
open Go.RowKit Go.Sort Cs Rg

theorem Blk.c8 {w : World} {g : Nat} {t : TypeId} {a0 a1 a2 a3 a4 a5 a6 a7 : Value} (h : Blk w g t #[a0, a1, a2, a3, a4, a5, a6, a7]) :
    (w.cell? ⟨g, 0, none⟩ = some a0 ∧ w.cell? ⟨g, 1, none⟩ = some a1 ∧ w.cell? ⟨g, 2, none⟩ = some a2 ∧ w.cell? ⟨g, 3, none⟩ = some a3 ∧ w.cell? ⟨g, 4, none⟩ = some a4 ∧ w.cell? ⟨g, 5, none⟩ = some a5 ∧ w.cell? ⟨g, 6, none⟩ = some a6 ∧ w.cell? ⟨g, 7, none⟩ = some a7) ∧
    (w.frozen? ⟨g, 0, none⟩ = false ∧ w.frozen? ⟨g, 1, none⟩ = false ∧ w.frozen? ⟨g, 2, none⟩ = false ∧ w.frozen? ⟨g, 3, none⟩ = false ∧ w.frozen? ⟨g, 4, none⟩ = false ∧ w.frozen? ⟨g, 5, none⟩ = false ∧ w.frozen? ⟨g, 6, none⟩ = false ∧ w.frozen? ⟨g, 7, none⟩ = false) :=
  ⟨⟨h.cell 0, h.cell 1, h.cell 2, h.cell 3, h.cell 4, h.cell 5, h.cell 6, h.cell 7⟩, h.frozen 0, h.frozen 1, h.frozen 2, h.frozen 3, h.frozen 4, h.frozen 5, h.frozen 6, h.frozen 7⟩
/-- a node's eight cells -/
def cellsN (k : Int) (s : S4) (kv : Value) (x y : Int) : List Value := [.int .i64 k, .int .u64 s.a, .int .u64 s.b, .int .u64 s.c, .int .u64 s.d, kv, .int .i64 x, .int .i64 y]
/-- a node's value -/
def nodeV (k : Int) (s : S4) (kv : Value) (x y : Int) : Value := .agg #[.int .i64 k, .int .u64 s.a, .int .u64 s.b, .int .u64 s.c, .int .u64 s.d, kv, .int .i64 x, .int .i64 y]
/-- they lie there -/
def Lies (w : World) (b o : Nat) (cs : List Value) : Prop := ∀ j v, cs[j]? = some v → w.cell? ⟨b, o + j, none⟩ = some v
mutual
/-- the row of a node's parts lies there -/
def NdIn (w : World) : Option Addr → Nd → Prop
  | a, .mk k s l x y => l.length ≤ maxLen ∧ (l = [] ∨ ∃ b o, a = some ⟨b, o, none⟩ ∧ b < w.heap.size ∧ RowAt w b o l)
/-- nodes that lie one behind the other -/
def RowAt (w : World) (b : Nat) : Nat → List Nd → Prop
  | _, [] => True
  | o, n :: l => (∃ (a : Option Addr) (c : Nat), Lies w b o (cellsN n.kind n.set (.slice a n.kids.length c) n.lo n.hi) ∧ NdIn w a n) ∧ RowAt w b (o + 8) l
end
def NdAt (w : World) (v : Value) (n : Nd) : Prop := ∃ (a : Option Addr) (c : Nat), v = nodeV n.kind n.set (.slice a n.kids.length c) n.lo n.hi ∧ NdIn w a n
theorem RowAt.get {w : World} {b : Nat} {l : List Nd} : ∀ {o i : Nat} {n : Nd}, RowAt w b o l → l[i]? = some n → ∃ (a : Option Addr) (c : Nat), Lies w b (o + i * 8) (cellsN n.kind n.set (.slice a n.kids.length c) n.lo n.hi) ∧ NdIn w a n := by
  induction l with
  | nil => intro o i n _ h; simp at h
  | cons m l ih =>
    intro o i n hr h
    rw [RowAt] at hr
    cases i with
    | zero =>
      simp at h
      rw [← h]
      exact hr.1
    | succ i =>
      have := ih hr.2 (by simpa using h)
      have e : o + 8 + i * 8 = o + (i + 1) * 8 := by omega
      rw [e] at this
      exact this
theorem Lies.below {w w' : World} {b o : Nat} {cs : List Value} (h : Lies w b o cs) (hb : Below w.heap.size w w') : Lies w' b o cs := fun j v hj => by
  have h1 := h j v hj
  have h2 : b < w.heap.size := World.block_lt_of_cell? w ⟨b, o + j, none⟩ h1
  exact (hb.cell (p := ⟨b, o + j, none⟩) h2).trans h1
theorem RowAt.below_of {w w' : World} (hb : Below w.heap.size w w') {b : Nat} {l : List Nd} (hl : ∀ n ∈ l, ∀ a, NdIn w a n → NdIn w' a n) : ∀ {o : Nat}, RowAt w b o l → RowAt w' b o l := by
  induction l with
  | nil => intro o _; trivial
  | cons m l ih =>
    intro o h
    rw [RowAt] at h ⊢
    obtain ⟨⟨a, c, h1, h2⟩, h3⟩ := h
    exact ⟨⟨a, c, h1.below hb, hl m (List.mem_cons_self ..) a h2⟩, ih (fun n hn => hl n (List.mem_cons_of_mem _ hn)) h3⟩
theorem NdIn.below {w w' : World} (hb : Below w.heap.size w w') (n : Nd) : ∀ {a : Option Addr}, NdIn w a n → NdIn w' a n := by
  refine Nd.ind (P := fun n => ∀ {a : Option Addr}, NdIn w a n → NdIn w' a n) (fun k s l x y ih a h => ?_) n
  rw [NdIn] at h ⊢
  refine ⟨h.1, h.2.imp id ?_⟩
  rintro ⟨b, o, e, h1, h2⟩
  exact ⟨b, o, e, by have := hb.size; omega, RowAt.below_of hb (fun n hn a => ih n hn) h2⟩
theorem NdAt.below {w w' : World} {v : Value} {n : Nd} (h : NdAt w v n) (hb : Below w.heap.size w w') : NdAt w' v n := by
  obtain ⟨a, c, e, h⟩ := h
  exact ⟨a, c, e, h.below hb⟩
/-- the parts, one by one -/
theorem NdIn.kid {w : World} {a : Option Addr} {n m : Nd} {i : Nat} (h : NdIn w a n) (hi : n.kids[i]? = some m) : ∃ (b o : Nat) (a' : Option Addr) (c' : Nat), a = some ⟨b, o, none⟩ ∧ b < w.heap.size ∧ Lies w b (o + i * 8) (cellsN m.kind m.set (.slice a' m.kids.length c') m.lo m.hi) ∧ NdIn w a' m := by
  cases n with
  | mk k s l x y =>
    rw [NdIn] at h
    rcases h.2 with rfl | ⟨b, o, rfl, hb, hr⟩
    · simp [Nd.kids] at hi
    · obtain ⟨a', c', h1, h2⟩ := hr.get hi
      exact ⟨b, o, a', c', rfl, hb, h1, h2⟩
theorem NdIn.len {w : World} {a : Option Addr} {n : Nd} (h : NdIn w a n) : n.kids.length ≤ maxLen := by
  cases n with
  | mk k s l x y => rw [NdIn] at h; exact h.1
theorem Lies.c8 {w : World} {b o : Nat} {a0 a1 a2 a3 a4 a5 a6 a7 : Value} (h : Lies w b o [a0, a1, a2, a3, a4, a5, a6, a7]) :
    w.cell? ⟨b, o, none⟩ = some a0 ∧ w.cell? ⟨b, o + 1, none⟩ = some a1 ∧ w.cell? ⟨b, o + 2, none⟩ = some a2 ∧ w.cell? ⟨b, o + 3, none⟩ = some a3 ∧ w.cell? ⟨b, o + 4, none⟩ = some a4 ∧ w.cell? ⟨b, o + 5, none⟩ = some a5 ∧ w.cell? ⟨b, o + 6, none⟩ = some a6 ∧ w.cell? ⟨b, o + 7, none⟩ = some a7 :=
  ⟨h 0 _ rfl, h 1 _ rfl, h 2 _ rfl, h 3 _ rfl, h 4 _ rfl, h 5 _ rfl, h 6 _ rfl, h 7 _ rfl⟩
theorem sizeL_take {l : List Nd} {i : Nat} {n : Nd} (h : l[i]? = some n) : sizeL (l.take (i + 1)) = sizeL (l.take i) + sizeN n ∧ deepL (l.take (i + 1)) = max (deepL (l.take i)) (deepN n) := by
  induction l generalizing i with
  | nil => simp at h
  | cons m l ih =>
    cases i with
    | zero =>
      simp at h
      subst h
      simp [sizeL, deepL]
    | succ i =>
      obtain ⟨h1, h2⟩ := ih (i := i) (by simpa using h)
      rw [List.take_succ_cons, List.take_succ_cons, sizeL, sizeL, deepL, deepL, h1, h2]
      exact ⟨by omega, by omega⟩
theorem sizeL_le (l : List Nd) (i : Nat) : sizeL (l.take i) ≤ sizeL l := by
  induction l generalizing i with
  | nil => simp
  | cons m l ih =>
    cases i with
    | zero => simp [sizeL]
    | succ i =>
      rw [List.take_succ_cons, sizeL, sizeL]
      have := ih i
      omega
mutual
theorem deepN_le : ∀ n : Nd, deepN n ≤ sizeN n
  | .mk _ _ l _ _ => by
    rw [deepN, sizeN]
    have := deepL_le l
    omega
theorem deepL_le : ∀ l : List Nd, deepL l ≤ sizeL l
  | [] => Nat.le_refl _
  | n :: l => by
    rw [deepL, sizeL]
    have := deepN_le n
    have := deepL_le l
    omega
end
theorem sizeN_kid {n m : Nd} {i : Nat} (h : n.kids[i]? = some m) : sizeN m < sizeN n := by
  cases n with
  | mk k s l x y =>
    rw [sizeN]
    have h1 := (sizeL_take (l := l) h).1
    have h2 := sizeL_le l (i + 1)
    omega
end Go.Proofs.YtpknglbpbodnbaaDoor
