/-
  Lists of numbers in memory; the classes of states in memory. Conditions: each lemma says its own.
-/
import Derived.Test.YtgkpgjbgcimijaaDoorAuHop2
import Derived.Test.YtgkpgjbgcimijaaDoorChecked
import Derived.Test.YtgkpgjbgcimijaaDoorRecs
import Derived.Test.YtgkpgjbgcimijaaDoorOnly
import Derived.Test.YtgkpgjbgcimijaaDoorTail
import Derived.Deep.AppendLies
import Derived.Laws.OwnMore
import Derived.Maps.GroupsBeside
import Derived.StillTailTactics
namespace Go.Proofs.YtgkpgjbgcimijaaDoor
set_option linter.unusedVariables false
set_option linter.unusedSimpArgs false
open Go.RowKit Go.Maps Go.Sort Go.ChangeShapes Go.WideShapes

def natCells (l : List Nat) : List Value := l.map fun (n : Nat) => Value.int .i64 (n : Int)
theorem natCells_len (l : List Nat) : (natCells l).length = l.length := by simp [natCells]
theorem natCells_snoc (l : List Nat) (x : Nat) : natCells (l ++ [x]) = natCells l ++ [.int .i64 (x : Int)] := by simp [natCells]
theorem natCells_at {l : List Nat} {j x : Nat} (h : l[j]? = some x) : (natCells l)[j]? = some (.int .i64 (x : Int)) := by simp [natCells, h]

theorem grown_set (w : World) (a : Addr) (u : Value) : w.grownBy (w.setCell a u) (some a.block) :=
  ⟨rfl, rfl, rfl, by simp, fun k hk hne => Below.heap_setCell w a u k (fun e => hne (by rw [e]))⟩
theorem grown_alloc (w : World) (o : Obj) : w.grownBy (w.alloc o) none :=
  ⟨rfl, rfl, rfl, by simp, fun k hk _ => Below.heap_alloc w o k hk⟩
theorem grown_below {w w' : World} (h : Below w.heap.size w w') : w.grownBy w' none := ⟨h.os, h.tape, h.output, h.size, fun k hk _ => h.block k hk⟩
/-- a slice of numbers that is read -/
def NatsAt (w : World) (v : Value) (l : List Nat) : Prop :=
  ∃ a cap, v = .slice a l.length cap ∧ (l = [] ∨ ∃ b off, a = some ⟨b, off, none⟩ ∧ b < w.heap.size ∧ ∀ (j x : Nat), l[j]? = some x → w.cell? ⟨b, off + j, none⟩ = some (.int .i64 (x : Int)))
theorem NatsAt.kept {w w' : World} {v : Value} {l : List Nat} {row : Option Nat} (h : NatsAt w v l) (hg : w.grownBy w' row) (hn : ∀ b, v.ownBlock = some b → row ≠ some b) : NatsAt w' v l := by
  obtain ⟨a, cap, rfl, h0 | ⟨b, off, rfl, hb, hc⟩⟩ := h
  · exact ⟨a, cap, rfl, .inl h0⟩
  · refine ⟨_, cap, rfl, .inr ⟨b, off, rfl, by have := hg.size; omega, fun j x hj => ?_⟩⟩
    exact (World.cell?_of_block (hg.block b hb fun e => hn b rfl e.symm)).trans (hc j x hj)
theorem NatsAt.of_own {w : World} {B n : Nat} {v : Value} {l : List Nat} (h : w.ownsRow B 3 1 v n (natCells l)) : NatsAt w v l := by
  have hn : l.length = n := by have := h.1; rw [natCells_len] at this; omega
  subst hn
  rcases h.2 with ⟨rfl, h0⟩ | ⟨g, cap, cur, rfl, hB, hg, -⟩
  · exact ⟨none, 0, by rw [h0], .inl (List.eq_nil_of_length_eq_zero h0)⟩
  · refine ⟨_, cap, rfl, .inr ⟨g, 0, rfl, ?_, fun j x hj => ?_⟩⟩
    · rcases Nat.lt_or_ge g w.heap.size with hlt | hge
      · exact hlt
      · rw [Array.getElem?_eq_none hge] at hg; cases hg
    · rw [Nat.zero_add, h.cellAt j (by have := (List.getElem?_eq_some_iff.1 hj).1; omega)]
      exact natCells_at hj

/-- block g is no row's of these -/
def Off (g : Nat) (vs : List Value) : Prop := ∀ v ∈ vs, v.ownBlock ≠ some g
def clsCells (f : Nat → Nat) (M : Nat) : List Value := (List.range M).map fun (n : Nat) => Value.int .i64 (f n : Int)
/-- the classes in memory: the struct at block p, its four rows, each class's members -/
structure PartsAt (w : World) (B p M : Nat) (P : Parts) (cv mv wv kv : Value) (ms : List Value) : Prop where
  blk : Blk w p 59 #[cv, mv, wv, kv]
  base : B ≤ p
  cls : w.ownsRow B 3 1 cv M (clsCells P.cls M)
  mem : w.ownsRow B 23 1 mv P.mem.length ms
  wai : w.ownsRow B 4 1 wv P.wai.length (P.wai.map .bool)
  work : w.ownsRow B 3 1 kv P.work.length (natCells P.work)
  offp : Off p [cv, mv, wv, kv]
  offc : ∀ g, cv.ownBlock = some g → Off g [mv, wv, kv]
  offm : ∀ g, mv.ownBlock = some g → Off g [wv, kv]
  offw : ∀ g, wv.ownBlock = some g → Off g [kv]
  rows : ∀ (c : Nat) (s : List Nat), P.mem[c]? = some s → ∃ v, ms[c]? = some v ∧ NatsAt w v s ∧ ∀ g, v.ownBlock = some g → g < w.heap.size ∧ g ≠ p ∧ Off g [cv, mv, wv, kv]
/-- what is turned: the struct and its four rows -/
def partS (p : Nat) (cv mv wv kv : Value) : List Nat := p :: [cv, mv, wv, kv].filterMap Value.ownBlock
theorem partS_mem {p k : Nat} {cv mv wv kv : Value} : k ∈ partS p cv mv wv kv ↔ k = p ∨ cv.ownBlock = some k ∨ mv.ownBlock = some k ∨ wv.ownBlock = some k ∨ kv.ownBlock = some k := by
  simp [partS]
/-- a row stays where it was, or moves to a new block -/
def Moved (w : World) (v v' : Value) : Prop := v'.ownBlock = v.ownBlock ∨ ∃ g, v'.ownBlock = some g ∧ w.heap.size ≤ g
theorem Moved.same (w : World) (v : Value) : Moved w v v := .inl rfl
theorem own_lt {w : World} {B : Nat} {e : TypeId} {size n : Nat} {v : Value} {xs : List Value} (h : w.ownsRow B e size v n xs) {g : Nat} (hg : v.ownBlock = some g) : g < w.heap.size := (h.lt g hg).2
theorem own_set {w : World} {B : Nat} {e : TypeId} {size n : Nat} {v : Value} {xs : List Value} (h : w.ownsRow B e size v n xs) {a : Addr} (u : Value) (hn : v.ownBlock ≠ some a.block) : (w.setCell a u).ownsRow B e size v n xs :=
  h.kept (grown_set w a u) (.inr hn)
theorem only_grown {w w' : World} {row : Option Nat} (h : w.grownBy w' row) : Only row.toList w w' :=
  ⟨h.os, h.tape, h.output, h.size, fun k hk hS => h.block k hk fun e => hS (by rw [← e]; simp)⟩
theorem own_only {w w' : World} {S : List Nat} {B : Nat} {e : TypeId} {size n : Nat} {v : Value} {xs : List Value} (h : w.ownsRow B e size v n xs) (ho : Only S w w') (hn : ∀ g, v.ownBlock = some g → g ∉ S) : w'.ownsRow B e size v n xs := by
  refine ⟨h.1, ?_⟩
  rcases h.2 with h0 | ⟨g, cap, cur, rfl, hb, hg, h3⟩
  · exact .inl h0
  · have hlt : g < w.heap.size := by
      rcases Nat.lt_or_ge g w.heap.size with hlt | hge
      · exact hlt
      · rw [Array.getElem?_eq_none hge] at hg; cases hg
    exact .inr ⟨g, cap, cur, rfl, hb, (ho.block g hlt (hn g rfl)).trans hg, h3⟩
theorem NatsAt.only {w w' : World} {v : Value} {l : List Nat} {S : List Nat} (h : NatsAt w v l) (ho : Only S w w') (hn : ∀ g, v.ownBlock = some g → g ∉ S) : NatsAt w' v l := by
  obtain ⟨a, cap, rfl, h0 | ⟨b, off, rfl, hb, hc⟩⟩ := h
  · exact ⟨a, cap, rfl, .inl h0⟩
  · refine ⟨_, cap, rfl, .inr ⟨b, off, rfl, by have := ho.size; omega, fun j x hj => ?_⟩⟩
    exact (World.cell?_of_block (ho.block b hb (hn b rfl))).trans (hc j x hj)
theorem only_set1 (w : World) (a : Addr) (u : Value) : Only [a.block] w (w.setCell a u) := (Only.refl _ w).setCell (by simp) u
theorem only_alloc (w : World) (o : Obj) : Only [] w (w.alloc o) := (Only.refl _ w).alloc o
theorem ne_of_off {g : Nat} {vs : List Value} (h : Off g vs) {v : Value} (hv : v ∈ vs) : v.ownBlock ≠ some g := h v hv
theorem Off.at_ {g : Nat} {vs : List Value} (h : Off g vs) {v : Value} (hv : v ∈ vs) {k : Nat} (hk : v.ownBlock = some k) : g ≠ k := fun e => h v hv (by rw [hk, e])
theorem Off.mk4 {g : Nat} {a b c d : Value} (ha : a.ownBlock ≠ some g) (hb : b.ownBlock ≠ some g) (hc : c.ownBlock ≠ some g) (hd : d.ownBlock ≠ some g) : Off g [a, b, c, d] := fun v hv => by
  simp at hv
  rcases hv with rfl | rfl | rfl | rfl <;> assumption
theorem Off.mk3 {g : Nat} {b c d : Value} (hb : b.ownBlock ≠ some g) (hc : c.ownBlock ≠ some g) (hd : d.ownBlock ≠ some g) : Off g [b, c, d] := fun v hv => by
  simp at hv
  rcases hv with rfl | rfl | rfl <;> assumption
theorem Off.mk2 {g : Nat} {c d : Value} (hc : c.ownBlock ≠ some g) (hd : d.ownBlock ≠ some g) : Off g [c, d] := fun v hv => by
  simp at hv
  rcases hv with rfl | rfl <;> assumption
theorem Off.mk1 {g : Nat} {d : Value} (hd : d.ownBlock ≠ some g) : Off g [d] := fun v hv => by
  simp at hv
  subst hv
  assumption
end Go.Proofs.YtgkpgjbgcimijaaDoor
