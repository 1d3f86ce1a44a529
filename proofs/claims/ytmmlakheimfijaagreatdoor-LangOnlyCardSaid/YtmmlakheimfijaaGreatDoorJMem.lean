/-
  Lists of numbers in memory; the classes of states in memory. Conditions: each lemma says its own.
  Maps from numbers: a set that was seen; a function's table. Conditions: each lemma says its own.
  The classes in memory, one of their rows replaced: plain lemmas. Conditions: each says its own.
  The classes in memory: kept by what turns other blocks; a class's members replaced. Plain lemmas. Conditions: each says its own.
  The walk of least's (*parts).wait. Conditions: the classes lie in memory; the class is one of them.
  The walk of least's (*parts).open. Conditions: the classes lie in memory; the states are right.
  The walk of least's (*parts).apart. Conditions: the classes lie in memory; the states are right.
  Lists of lists of numbers in memory. Conditions: each lemma says its own.
  The walk of least's ahead. Conditions: the rows and the states lie as Go's.
  The classes in memory, beside blocks that stay: the contracts of wait, open, apart once more. Conditions: as theirs.
  A class is taken from those that wait, in memory; the rows of what leads where. Conditions: each lemma says its own.
  Numbers in groups: a map from numbers to rows of numbers. Conditions: each lemma says its own.
  What block K leads into the class that is handled, as it is gathered: the order of the classes met, and their groups. Conditions: each lemma says its own.
  The groups stay, whatever else turns. Conditions: each lemma says its own.
  The walk of least's met. Conditions: the closure's own contract.
  A table from numbers to numbers, and a table that numbers texts, in memory. Conditions: each lemma says its own.
  The contracts of blocks.Right and Count, and of their references (the blocks seat's, with these names). Conditions: the numbers' cells.
-/
import Derived.Test.YtmmlakheimfijaaGreatDoorJPlain
import Derived.Test.YtmmlakheimfijaaGreatDoorChecked
import Derived.Test.YtmmlakheimfijaaGreatDoorJKit
import Derived.Deep.AppendLies
import Derived.Laws.OwnMore
import Derived.Maps.GroupsBeside
import Derived.StillTailTactics
import Derived.Maps.OwnSet
import Derived.OwnWalk
import Derived.Deep.RegionLaw
import Derived.WalkSmall
import Derived.Lib.SmallJoins
import Derived.MapViews
import Derived.DeepKeys4
namespace Go.Proofs.YtmmlakheimfijaaGreatDoor
set_option linter.unusedVariables false
set_option linter.unusedSimpArgs false
open Go.RowKit Go.Maps Go.Sort Go.ChangeShapes Go.WideShapes

def natCells (l : List Nat) : List Value := l.map fun (n : Nat) => Value.int .i64 (n : Int)
theorem natCells_len (l : List Nat) : (natCells l).length = l.length := by simp [natCells]
theorem natCells_snoc (l : List Nat) (x : Nat) : natCells (l ++ [x]) = natCells l ++ [.int .i64 (x : Int)] := by simp [natCells]
theorem natCells_at {l : List Nat} {j x : Nat} (h : l[j]? = some x) : (natCells l)[j]? = some (.int .i64 (x : Int)) := by simp [natCells, h]

theorem grown_set (w : World) (a : Addr) (u : Value) : w.grownBy (w.setCell a u) (some a.block) :=
  ⟨rfl, rfl, rfl, by simp, fun k hk hne => Below.heap_setCell w a u k (fun e => hne (by rw [e]))⟩
theorem grown_alloc (w : World) (o : Obj) : w.grownBy (w.alloc o) none :=
  ⟨rfl, rfl, rfl, by simp, fun k hk _ => Below.heap_alloc w o k hk⟩
theorem grown_below {w w' : World} (h : Below w.heap.size w w') : w.grownBy w' none := ⟨h.os, h.tape, h.output, h.size, fun k hk _ => h.block k hk⟩
/-- a slice of numbers that is read -/
def NatsAt (w : World) (v : Value) (l : List Nat) : Prop :=
  ∃ a cap, v = .slice a l.length cap ∧ (l = [] ∨ ∃ b off, a = some ⟨b, off, none⟩ ∧ b < w.heap.size ∧ ∀ (j x : Nat), l[j]? = some x → w.cell? ⟨b, off + j, none⟩ = some (.int .i64 (x : Int)))
theorem NatsAt.kept {w w' : World} {v : Value} {l : List Nat} {row : Option Nat} (h : NatsAt w v l) (hg : w.grownBy w' row) (hn : ∀ b, v.ownBlock = some b → row ≠ some b) : NatsAt w' v l := by
  obtain ⟨a, cap, rfl, h0 | ⟨b, off, rfl, hb, hc⟩⟩ := h
  · exact ⟨a, cap, rfl, .inl h0⟩
  · refine ⟨_, cap, rfl, .inr ⟨b, off, rfl, by have := hg.size; omega, fun j x hj => ?_⟩⟩
    exact (World.cell?_of_block (hg.block b hb fun e => hn b rfl e.symm)).trans (hc j x hj)
theorem NatsAt.of_own {w : World} {B n : Nat} {v : Value} {l : List Nat} (h : w.ownsRow B 3 1 v n (natCells l)) : NatsAt w v l := by
  have hn : l.length = n := by have := h.1; rw [natCells_len] at this; omega
  subst hn
  rcases h.2 with ⟨rfl, h0⟩ | ⟨g, cap, cur, rfl, hB, hg, -⟩
  · exact ⟨none, 0, by rw [h0], .inl (List.eq_nil_of_length_eq_zero h0)⟩
  · refine ⟨_, cap, rfl, .inr ⟨g, 0, rfl, ?_, fun j x hj => ?_⟩⟩
    · rcases Nat.lt_or_ge g w.heap.size with hlt | hge
      · exact hlt
      · rw [Array.getElem?_eq_none hge] at hg; cases hg
    · rw [Nat.zero_add, h.cellAt j (by have := (List.getElem?_eq_some_iff.1 hj).1; omega)]
      exact natCells_at hj

/-- block g is no row's of these -/
def Off (g : Nat) (vs : List Value) : Prop := ∀ v ∈ vs, v.ownBlock ≠ some g
def clsCells (f : Nat → Nat) (M : Nat) : List Value := (List.range M).map fun (n : Nat) => Value.int .i64 (f n : Int)
/-- the classes in memory: the struct at block p, its four rows, each class's members -/
structure PartsAt (w : World) (B p M : Nat) (P : Parts) (cv mv wv kv : Value) (ms : List Value) : Prop where
  blk : Blk w p 106 #[cv, mv, wv, kv]
  base : B ≤ p
  cls : w.ownsRow B 3 1 cv M (clsCells P.cls M)
  mem : w.ownsRow B 23 1 mv P.mem.length ms
  wai : w.ownsRow B 4 1 wv P.wai.length (P.wai.map .bool)
  work : w.ownsRow B 3 1 kv P.work.length (natCells P.work)
  offp : Off p [cv, mv, wv, kv]
  offc : ∀ g, cv.ownBlock = some g → Off g [mv, wv, kv]
  offm : ∀ g, mv.ownBlock = some g → Off g [wv, kv]
  offw : ∀ g, wv.ownBlock = some g → Off g [kv]
  rows : ∀ (c : Nat) (s : List Nat), P.mem[c]? = some s → ∃ v, ms[c]? = some v ∧ NatsAt w v s ∧ ∀ g, v.ownBlock = some g → g < w.heap.size ∧ g ≠ p ∧ Off g [cv, mv, wv, kv]
/-- what is turned: the struct and its four rows -/
def partS (p : Nat) (cv mv wv kv : Value) : List Nat := p :: [cv, mv, wv, kv].filterMap Value.ownBlock
theorem partS_mem {p k : Nat} {cv mv wv kv : Value} : k ∈ partS p cv mv wv kv ↔ k = p ∨ cv.ownBlock = some k ∨ mv.ownBlock = some k ∨ wv.ownBlock = some k ∨ kv.ownBlock = some k := by
  simp [partS]
/-- a row stays where it was, or moves to a new block -/
def Moved (w : World) (v v' : Value) : Prop := v'.ownBlock = v.ownBlock ∨ ∃ g, v'.ownBlock = some g ∧ w.heap.size ≤ g
theorem Moved.same (w : World) (v : Value) : Moved w v v := .inl rfl
theorem own_lt {w : World} {B : Nat} {e : TypeId} {size n : Nat} {v : Value} {xs : List Value} (h : w.ownsRow B e size v n xs) {g : Nat} (hg : v.ownBlock = some g) : g < w.heap.size := (h.lt g hg).2
theorem own_set {w : World} {B : Nat} {e : TypeId} {size n : Nat} {v : Value} {xs : List Value} (h : w.ownsRow B e size v n xs) {a : Addr} (u : Value) (hn : v.ownBlock ≠ some a.block) : (w.setCell a u).ownsRow B e size v n xs :=
  h.kept (grown_set w a u) (.inr hn)
theorem only_grown {w w' : World} {row : Option Nat} (h : w.grownBy w' row) : Only row.toList w w' :=
  ⟨h.os, h.tape, h.output, h.size, fun k hk hS => h.block k hk fun e => hS (by rw [← e]; simp)⟩
theorem own_only {w w' : World} {S : List Nat} {B : Nat} {e : TypeId} {size n : Nat} {v : Value} {xs : List Value} (h : w.ownsRow B e size v n xs) (ho : Only S w w') (hn : ∀ g, v.ownBlock = some g → g ∉ S) : w'.ownsRow B e size v n xs := by
  refine ⟨h.1, ?_⟩
  rcases h.2 with h0 | ⟨g, cap, cur, rfl, hb, hg, h3⟩
  · exact .inl h0
  · have hlt : g < w.heap.size := by
      rcases Nat.lt_or_ge g w.heap.size with hlt | hge
      · exact hlt
      · rw [Array.getElem?_eq_none hge] at hg; cases hg
    exact .inr ⟨g, cap, cur, rfl, hb, (ho.block g hlt (hn g rfl)).trans hg, h3⟩
theorem NatsAt.only {w w' : World} {v : Value} {l : List Nat} {S : List Nat} (h : NatsAt w v l) (ho : Only S w w') (hn : ∀ g, v.ownBlock = some g → g ∉ S) : NatsAt w' v l := by
  obtain ⟨a, cap, rfl, h0 | ⟨b, off, rfl, hb, hc⟩⟩ := h
  · exact ⟨a, cap, rfl, .inl h0⟩
  · refine ⟨_, cap, rfl, .inr ⟨b, off, rfl, by have := ho.size; omega, fun j x hj => ?_⟩⟩
    exact (World.cell?_of_block (ho.block b hb (hn b rfl))).trans (hc j x hj)
theorem only_set1 (w : World) (a : Addr) (u : Value) : Only [a.block] w (w.setCell a u) := (Only.refl _ w).setCell (by simp) u
theorem only_alloc (w : World) (o : Obj) : Only [] w (w.alloc o) := (Only.refl _ w).alloc o
theorem ne_of_off {g : Nat} {vs : List Value} (h : Off g vs) {v : Value} (hv : v ∈ vs) : v.ownBlock ≠ some g := h v hv
theorem Off.at_ {g : Nat} {vs : List Value} (h : Off g vs) {v : Value} (hv : v ∈ vs) {k : Nat} (hk : v.ownBlock = some k) : g ≠ k := fun e => h v hv (by rw [hk, e])
theorem Off.mk4 {g : Nat} {a b c d : Value} (ha : a.ownBlock ≠ some g) (hb : b.ownBlock ≠ some g) (hc : c.ownBlock ≠ some g) (hd : d.ownBlock ≠ some g) : Off g [a, b, c, d] := fun v hv => by
  simp at hv
  rcases hv with rfl | rfl | rfl | rfl <;> assumption
theorem Off.mk3 {g : Nat} {b c d : Value} (hb : b.ownBlock ≠ some g) (hc : c.ownBlock ≠ some g) (hd : d.ownBlock ≠ some g) : Off g [b, c, d] := fun v hv => by
  simp at hv
  rcases hv with rfl | rfl | rfl <;> assumption
theorem Off.mk2 {g : Nat} {c d : Value} (hc : c.ownBlock ≠ some g) (hd : d.ownBlock ≠ some g) : Off g [c, d] := fun v hv => by
  simp at hv
  rcases hv with rfl | rfl <;> assumption
theorem Off.mk1 {g : Nat} {d : Value} (hd : d.ownBlock ≠ some g) : Off g [d] := fun v hv => by
  simp at hv
  subst hv
  assumption
end Go.Proofs.YtmmlakheimfijaaGreatDoor
namespace Go.Proofs.YtmmlakheimfijaaGreatDoor
set_option linter.unusedVariables false
set_option linter.unusedSimpArgs false
open Go.RowKit Go.Maps Go.Sort

theorem lawI : Keyed Tryz.prog 3 := int_keyed Tryz.underlying3
theorem wf_nat {n : Nat} (h : n ≤ maxLen) : (Lit.int .i64 (n : Int)).wf = true := by
  unfold maxLen at h
  simp [Lit.wf, IntKind.min, IntKind.max, IntKind.signed, IntKind.bits]
  omega
theorem int_key {n : Nat} (h : n ≤ maxLen) : keyOf Tryz.prog 3 (.int .i64 (n : Int)) = some (.int .i64 (n : Int)) := keyOf_int_mk Tryz.underlying3 (wf_nat h)
theorem zeroB (w : World) : (zeroValue 4).run Tryz.prog w = .ok (.bool false) w := by kernel_rfl
theorem zeroI (w : World) : (zeroValue 3).run Tryz.prog w = .ok (.int .i64 0) w := by kernel_rfl

theorem plainElem_bool_inv {P : Program} {e : TypeId} (he : P.underlying e = some .bool) {v : Value} {z : DataW Unit × List MemPlace} (h : plainElem P e v = some z) : ∃ b, v = .bool b ∧ z = (.lit (.bool b), []) := by
  unfold plainElem at h
  rw [he] at h
  cases v <;> simp at h
  exact ⟨_, rfl, h.symm⟩

/-- numbers that were seen: map[int]bool -/
def SeenAt (w : World) (b n : Nat) (S : List Nat) : Prop :=
  ∃ D : DataW Unit, w.ownsMap Tryz.prog 3 (plainElem Tryz.prog 4) b n D ∧ ∀ x : Nat, D.atKey (.int .i64 (x : Int)) (.lit (.bool false)) = .lit (.bool (decide (x ∈ S)))
theorem SeenAt.none (w : World) : SeenAt (w.alloc (.map #[] 0)) w.heap.size 0 [] := ⟨.map [], World.ownsMap_made _ _ _ _, fun x => by simp; rfl⟩
theorem SeenAt.kept {w w' : World} {b n : Nat} {S : List Nat} {row : Option Nat} (h : SeenAt w b n S) (hg : w.grownBy w' row) (hne : some b ≠ row) : SeenAt w' b n S := by
  obtain ⟨D, h1, h2⟩ := h
  exact ⟨D, h1.kept hg hne, h2⟩
theorem SeenAt.lt {w : World} {b n : Nat} {S : List Nat} (h : SeenAt w b n S) : b < w.heap.size := by obtain ⟨D, h1, -⟩ := h; exact h1.lt
theorem SeenAt.look {w : World} {b n : Nat} {S : List Nat} (h : SeenAt w b n S) {x : Nat} (hx : x ≤ maxLen) : (Instr.lookup 125 (.map (some b)) (.int .i64 (x : Int)) false).run Tryz.prog w = .ok (.bool (decide (x ∈ S))) w := by
  obtain ⟨D, h1, h2⟩ := h
  obtain ⟨v, ps, hrun, hv⟩ := h1.lookup lawI Tryz.underlying125 (zeroB w) (plainElem_bool Tryz.underlying4 false) (int_key hx)
  obtain ⟨c, rfl, hc⟩ := plainElem_bool_inv Tryz.underlying4 hv
  rw [h2] at hc
  simp at hc
  rw [hrun, hc.1]
theorem SeenAt.put {w : World} {b n : Nat} {S : List Nat} (h : SeenAt w b n S) {x : Nat} (hx : x ≤ maxLen) (hn : n < maxLen) : ∃ w', (Instr.mapUpdate 125 (.map (some b)) (.int .i64 (x : Int)) (.bool true)).run Tryz.prog w = .ok () w' ∧ SeenAt w' b (n + 1) (x :: S) ∧ w.grownBy w' (some b) := by
  obtain ⟨D, h1, h2⟩ := h
  obtain ⟨w', hrun, r1, r2⟩ := h1.update lawI Tryz.underlying125 hn (int_key hx) (plainElem_bool Tryz.underlying4 true)
  refine ⟨w', hrun, ⟨_, r1, fun y => ?_⟩, r2⟩
  have hM := h1.isMap
  by_cases e : y = x
  · subst e
    rw [atKey_put_same hM (lawI.key (int_key hx))]
    simp
  · have hne : (Lit.int .i64 (y : Int)) ≠ .int .i64 (x : Int) := by intro e'; simp at e'; exact e (by exact_mod_cast e')
    rw [atKey_put_other hne, h2]
    simp [e]
end Go.Proofs.YtmmlakheimfijaaGreatDoor
namespace Go.Proofs.YtmmlakheimfijaaGreatDoor
set_option linter.unusedVariables false
set_option linter.unusedSimpArgs false
open Go.RowKit Go.Maps Go.Sort Go.ChangeShapes Go.WideShapes

theorem put_mem {w w' : World} {B p M : Nat} {P : Parts} {cv mv wv kv x : Value} {ms : List Value} {sv : Value} {s : List Nat} (h : PartsAt w B p M P cv mv wv kv ms) (hsv : NatsAt w sv s) (hso : ∀ k, sv.ownBlock = some k → k < w.heap.size ∧ k ≠ p ∧ Off k [cv, mv, wv, kv]) (ho : Only (p :: mv.ownBlock.toList) w w') (hb : Blk w' p 106 #[cv, x, wv, kv])
    (hown : w'.ownsRow B 23 1 x (P.mem.length + 1) (ms ++ [sv])) (hat : ∀ g, x.ownBlock = some g → mv.ownBlock = some g ∨ w.heap.size ≤ g) : PartsAt w' B p M { P with mem := P.mem ++ [s] } cv x wv kv (ms ++ [sv]) := by
  have gne : ∀ k, k < w.heap.size → mv.ownBlock ≠ some k → x.ownBlock ≠ some k := fun k hk hn e => by
    rcases hat k e with h1 | h1
    · exact hn h1
    · omega
  have keep : ∀ {v : Value} {k : Nat}, v.ownBlock = some k → k ≠ p → mv.ownBlock ≠ some k → k ∉ p :: mv.ownBlock.toList := fun {v k} hk h1 h2 hm => by
    simp at hm
    rcases hm with e | e
    · exact h1 e
    · exact h2 e
  have np : ∀ v, v ∈ [cv, mv, wv, kv] → ∀ k, v.ownBlock = some k → k ≠ p := fun v hv k hk e => h.offp v hv (by rw [hk, e])
  have f0 := own_only h.cls ho fun k hk => keep hk (np cv (by simp) k hk) (h.offc k hk mv (by simp))
  have f1 : w'.ownsRow B 23 1 x (P.mem ++ [s]).length (ms ++ [sv]) := by rw [List.length_append]; exact hown
  have f2 := own_only h.wai ho fun k hk => keep hk (np wv (by simp) k hk) (fun e => h.offm k e wv (by simp) hk)
  have f3 := own_only h.work ho fun k hk => keep hk (np kv (by simp) k hk) (fun e => h.offm k e kv (by simp) hk)
  have xp : x.ownBlock ≠ some p := gne p h.blk.lt (h.offp mv (by simp))
  have x0 : ∀ k, cv.ownBlock = some k → x.ownBlock ≠ some k := fun k hk => gne k (own_lt h.cls hk) (h.offc k hk mv (by simp))
  have x2 : ∀ k, wv.ownBlock = some k → x.ownBlock ≠ some k := fun k hk => gne k (own_lt h.wai hk) (fun e => h.offm k e wv (by simp) hk)
  have x3 : ∀ k, kv.ownBlock = some k → x.ownBlock ≠ some k := fun k hk => gne k (own_lt h.work hk) (fun e => h.offm k e kv (by simp) hk)
  refine ⟨hb, h.base, f0, f1, f2, f3, .mk4 (h.offp cv (by simp)) xp (h.offp wv (by simp)) (h.offp kv (by simp)), ?_, ?_, ?_, ?_⟩
  · intro k hk
    exact .mk3 (x0 k hk) (h.offc k hk wv (by simp)) (h.offc k hk kv (by simp))
  · intro k hk
    exact .mk2 (fun e => x2 k e hk) (fun e => x3 k e hk)
  · intro k hk
    exact .mk1 (h.offw k hk kv (by simp))
  · intro c r hc
    have hml : ms.length = P.mem.length := by have := h.mem.1; omega
    by_cases e : c < P.mem.length
    · have hc : P.mem[c]? = some r := by rw [List.getElem?_append_left e] at hc; exact hc
      obtain ⟨v, hv, hn, hoff⟩ := h.rows c r hc
      refine ⟨v, (by rw [List.getElem?_append_left (by omega)]; exact hv), hn.only ho fun k hk => ?_, fun k hk => ?_⟩
      · obtain ⟨h1, h2, h3⟩ := hoff k hk
        exact keep hk h2 (h3 mv (by simp))
      · obtain ⟨h1, h2, h3⟩ := hoff k hk
        exact ⟨Nat.lt_of_lt_of_le h1 ho.size, h2, .mk4 (h3 cv (by simp)) (gne k h1 (h3 mv (by simp))) (h3 wv (by simp)) (h3 kv (by simp))⟩
    · have h0 := (List.getElem?_eq_some_iff.1 hc).1
      obtain rfl : c = P.mem.length := by simp at h0; omega
      rw [List.getElem?_append_right (Nat.le_refl _), Nat.sub_self] at hc
      obtain rfl : s = r := Option.some.inj hc
      refine ⟨sv, ?_, hsv.only ho fun k hk => ?_, fun k hk => ?_⟩
      · rw [← hml, List.getElem?_append_right (Nat.le_refl _), Nat.sub_self]; rfl
      · obtain ⟨h1, h2, h3⟩ := hso k hk
        exact keep hk h2 (h3 mv (by simp))
      · obtain ⟨h1, h2, h3⟩ := hso k hk
        exact ⟨Nat.lt_of_lt_of_le h1 ho.size, h2, .mk4 (h3 cv (by simp)) (gne k h1 (h3 mv (by simp))) (h3 wv (by simp)) (h3 kv (by simp))⟩

theorem put_wai {w w' : World} {B p M : Nat} {P : Parts} {cv mv wv kv x : Value} {ms : List Value} {l : List Bool} (h : PartsAt w B p M P cv mv wv kv ms) (ho : Only (p :: wv.ownBlock.toList) w w') (hb : Blk w' p 106 #[cv, mv, x, kv])
    (hown : w'.ownsRow B 4 1 x l.length (l.map .bool)) (hat : ∀ g, x.ownBlock = some g → wv.ownBlock = some g ∨ w.heap.size ≤ g) : PartsAt w' B p M { P with wai := l } cv mv x kv ms := by
  have gne : ∀ k, k < w.heap.size → wv.ownBlock ≠ some k → x.ownBlock ≠ some k := fun k hk hn e => by
    rcases hat k e with h1 | h1
    · exact hn h1
    · omega
  have keep : ∀ {v : Value} {k : Nat}, v.ownBlock = some k → k ≠ p → wv.ownBlock ≠ some k → k ∉ p :: wv.ownBlock.toList := fun {v k} hk h1 h2 hm => by
    simp at hm
    rcases hm with e | e
    · exact h1 e
    · exact h2 e
  have np : ∀ v, v ∈ [cv, mv, wv, kv] → ∀ k, v.ownBlock = some k → k ≠ p := fun v hv k hk e => h.offp v hv (by rw [hk, e])
  have f0 := own_only h.cls ho fun k hk => keep hk (np cv (by simp) k hk) (h.offc k hk wv (by simp))
  have f1 := own_only h.mem ho fun k hk => keep hk (np mv (by simp) k hk) (h.offm k hk wv (by simp))
  have f2 := hown
  have f3 := own_only h.work ho fun k hk => keep hk (np kv (by simp) k hk) (fun e => h.offw k e kv (by simp) hk)
  have xp : x.ownBlock ≠ some p := gne p h.blk.lt (h.offp wv (by simp))
  have x0 : ∀ k, cv.ownBlock = some k → x.ownBlock ≠ some k := fun k hk => gne k (own_lt h.cls hk) (h.offc k hk wv (by simp))
  have x1 : ∀ k, mv.ownBlock = some k → x.ownBlock ≠ some k := fun k hk => gne k (own_lt h.mem hk) (h.offm k hk wv (by simp))
  have x3 : ∀ k, kv.ownBlock = some k → x.ownBlock ≠ some k := fun k hk => gne k (own_lt h.work hk) (fun e => h.offw k e kv (by simp) hk)
  refine ⟨hb, h.base, f0, f1, f2, f3, .mk4 (h.offp cv (by simp)) (h.offp mv (by simp)) xp (h.offp kv (by simp)), ?_, ?_, ?_, ?_⟩
  · intro k hk
    exact .mk3 (h.offc k hk mv (by simp)) (x0 k hk) (h.offc k hk kv (by simp))
  · intro k hk
    exact .mk2 (x1 k hk) (h.offm k hk kv (by simp))
  · intro k hk
    exact .mk1 (fun e => x3 k e hk)
  · intro c r hc
    obtain ⟨v, hv, hn, hoff⟩ := h.rows c r hc
    refine ⟨v, hv, hn.only ho fun k hk => ?_, fun k hk => ?_⟩
    · obtain ⟨h1, h2, h3⟩ := hoff k hk
      exact keep hk h2 (h3 wv (by simp))
    · obtain ⟨h1, h2, h3⟩ := hoff k hk
      exact ⟨Nat.lt_of_lt_of_le h1 ho.size, h2, .mk4 (h3 cv (by simp)) (h3 mv (by simp)) (gne k h1 (h3 wv (by simp))) (h3 kv (by simp))⟩

theorem put_work {w w' : World} {B p M : Nat} {P : Parts} {cv mv wv kv x : Value} {ms : List Value} {l : List Nat} (h : PartsAt w B p M P cv mv wv kv ms) (ho : Only (p :: kv.ownBlock.toList) w w') (hb : Blk w' p 106 #[cv, mv, wv, x])
    (hown : w'.ownsRow B 3 1 x l.length (natCells l)) (hat : ∀ g, x.ownBlock = some g → kv.ownBlock = some g ∨ w.heap.size ≤ g) : PartsAt w' B p M { P with work := l } cv mv wv x ms := by
  have gne : ∀ k, k < w.heap.size → kv.ownBlock ≠ some k → x.ownBlock ≠ some k := fun k hk hn e => by
    rcases hat k e with h1 | h1
    · exact hn h1
    · omega
  have keep : ∀ {v : Value} {k : Nat}, v.ownBlock = some k → k ≠ p → kv.ownBlock ≠ some k → k ∉ p :: kv.ownBlock.toList := fun {v k} hk h1 h2 hm => by
    simp at hm
    rcases hm with e | e
    · exact h1 e
    · exact h2 e
  have np : ∀ v, v ∈ [cv, mv, wv, kv] → ∀ k, v.ownBlock = some k → k ≠ p := fun v hv k hk e => h.offp v hv (by rw [hk, e])
  have f0 := own_only h.cls ho fun k hk => keep hk (np cv (by simp) k hk) (h.offc k hk kv (by simp))
  have f1 := own_only h.mem ho fun k hk => keep hk (np mv (by simp) k hk) (h.offm k hk kv (by simp))
  have f2 := own_only h.wai ho fun k hk => keep hk (np wv (by simp) k hk) (h.offw k hk kv (by simp))
  have f3 := hown
  have xp : x.ownBlock ≠ some p := gne p h.blk.lt (h.offp kv (by simp))
  have x0 : ∀ k, cv.ownBlock = some k → x.ownBlock ≠ some k := fun k hk => gne k (own_lt h.cls hk) (h.offc k hk kv (by simp))
  have x1 : ∀ k, mv.ownBlock = some k → x.ownBlock ≠ some k := fun k hk => gne k (own_lt h.mem hk) (h.offm k hk kv (by simp))
  have x2 : ∀ k, wv.ownBlock = some k → x.ownBlock ≠ some k := fun k hk => gne k (own_lt h.wai hk) (h.offw k hk kv (by simp))
  refine ⟨hb, h.base, f0, f1, f2, f3, .mk4 (h.offp cv (by simp)) (h.offp mv (by simp)) (h.offp wv (by simp)) xp, ?_, ?_, ?_, ?_⟩
  · intro k hk
    exact .mk3 (h.offc k hk mv (by simp)) (h.offc k hk wv (by simp)) (x0 k hk)
  · intro k hk
    exact .mk2 (h.offm k hk wv (by simp)) (x1 k hk)
  · intro k hk
    exact .mk1 (x2 k hk)
  · intro c r hc
    obtain ⟨v, hv, hn, hoff⟩ := h.rows c r hc
    refine ⟨v, hv, hn.only ho fun k hk => ?_, fun k hk => ?_⟩
    · obtain ⟨h1, h2, h3⟩ := hoff k hk
      exact keep hk h2 (h3 kv (by simp))
    · obtain ⟨h1, h2, h3⟩ := hoff k hk
      exact ⟨Nat.lt_of_lt_of_le h1 ho.size, h2, .mk4 (h3 cv (by simp)) (h3 mv (by simp)) (h3 wv (by simp)) (gne k h1 (h3 kv (by simp)))⟩

/-- a state's class is stored -/
theorem put_cls {w : World} {B p M : Nat} {P : Parts} {mv wv kv : Value} {ms : List Value} {gc capc n c : Nat} (h : PartsAt w B p M P (.slice (some ⟨gc, 0, none⟩) M capc) mv wv kv ms) (hn : n < M) :
    PartsAt (w.setCell ⟨gc, n, none⟩ (.int .i64 (c : Int))) B p M { P with cls := fun m => if m = n then c else P.cls m } (.slice (some ⟨gc, 0, none⟩) M capc) mv wv kv ms ∧ Only [gc] w (w.setCell ⟨gc, n, none⟩ (.int .i64 (c : Int))) := by
  have ho : Only [gc] w (w.setCell ⟨gc, n, none⟩ (.int .i64 (c : Int))) := only_set1 w ⟨gc, n, none⟩ _
  have hcv : (Value.slice (some ⟨gc, 0, none⟩) M capc).ownBlock = some gc := rfl
  have hc := h.offc gc rfl
  have hp : p ≠ gc := h.offp.at_ (v := .slice (some ⟨gc, 0, none⟩) M capc) (by simp) rfl
  have hst := (h.cls.stored n (.int .i64 (c : Int))).1
  have he : (clsCells P.cls M).set n (.int .i64 (c : Int)) = clsCells (fun m => if m = n then c else P.cls m) M := by
    apply List.ext_getElem?
    intro j
    rw [List.getElem?_set]
    simp only [clsCells, List.length_map, List.length_range, List.getElem?_map]
    by_cases hj : j < M
    · rw [List.getElem?_range hj]
      by_cases e : n = j
      · subst e; simp [hj]
      · rw [if_neg e]
        have e' : ¬ j = n := fun e2 => e e2.symm
        simp [e']
    · rw [List.getElem?_eq_none (by simp; omega)]
      by_cases e : n = j
      · omega
      · rw [if_neg e]; rfl
  rw [he] at hst
  have kk : ∀ {v : Value}, v.ownBlock ≠ some gc → ∀ k, v.ownBlock = some k → k ∉ [gc] := fun {v} hv k hk hm => by
    simp at hm
    exact hv (by rw [hk, hm])
  refine ⟨⟨h.blk.only ho (by simpa using hp), h.base, hst, own_only h.mem ho (kk (hc mv (by simp))), own_only h.wai ho (kk (hc wv (by simp))), own_only h.work ho (kk (hc kv (by simp))), h.offp, h.offc, h.offm, h.offw, fun x r hx => ?_⟩, ho⟩
  obtain ⟨v, hv, hn, hoff⟩ := h.rows x r hx
  refine ⟨v, hv, hn.only ho fun k hk hm => ?_, fun k hk => ?_⟩
  · simp at hm
    exact (hoff k hk).2.2 (.slice (some ⟨gc, 0, none⟩) M capc) (by simp) (by rw [hcv, hm])
  · obtain ⟨h1, h2, h3⟩ := hoff k hk
    exact ⟨Nat.lt_of_lt_of_le h1 ho.size, h2, h3⟩
end Go.Proofs.YtmmlakheimfijaaGreatDoor
namespace Go.Proofs.YtmmlakheimfijaaGreatDoor
set_option linter.unusedVariables false
set_option linter.unusedSimpArgs false
open Go.RowKit Go.Maps Go.Sort Go.ChangeShapes Go.WideShapes

theorem PartsAt.only {w w' : World} {B p M : Nat} {P : Parts} {cv mv wv kv : Value} {ms : List Value} {S : List Nat} (h : PartsAt w B p M P cv mv wv kv ms) (ho : Only S w w') (hp : ∀ k ∈ partS p cv mv wv kv, k ∉ S)
    (hr : ∀ v ∈ ms, ∀ k, v.ownBlock = some k → k ∉ S) : PartsAt w' B p M P cv mv wv kv ms := by
  refine ⟨h.blk.only ho (hp p (partS_mem.2 (.inl rfl))), h.base, own_only h.cls ho fun g hg => hp g (partS_mem.2 (.inr (.inl hg))), own_only h.mem ho fun g hg => hp g (partS_mem.2 (.inr (.inr (.inl hg)))), own_only h.wai ho fun g hg => hp g (partS_mem.2 (.inr (.inr (.inr (.inl hg))))), own_only h.work ho fun g hg => hp g (partS_mem.2 (.inr (.inr (.inr (.inr hg))))), h.offp, h.offc, h.offm, h.offw, fun c s hc => ?_⟩
  obtain ⟨v, hv, hn, hoff⟩ := h.rows c s hc
  exact ⟨v, hv, hn.only ho (hr v (List.mem_of_getElem? hv)), fun k hk => ⟨Nat.lt_of_lt_of_le (hoff k hk).1 ho.size, (hoff k hk).2⟩⟩
theorem PartsAt.lt {w : World} {B p M : Nat} {P : Parts} {cv mv wv kv : Value} {ms : List Value} (h : PartsAt w B p M P cv mv wv kv ms) : ∀ k ∈ partS p cv mv wv kv, k < w.heap.size := fun k hk => by
  rcases partS_mem.1 hk with rfl | e | e | e | e
  · exact h.blk.lt
  · exact own_lt h.cls e
  · exact own_lt h.mem e
  · exact own_lt h.wai e
  · exact own_lt h.work e
theorem PartsAt.row_lt {w : World} {B p M : Nat} {P : Parts} {cv mv wv kv : Value} {ms : List Value} (h : PartsAt w B p M P cv mv wv kv ms) : ∀ v ∈ ms, ∀ k, v.ownBlock = some k → k < w.heap.size ∧ k ∉ partS p cv mv wv kv := fun v hv k hk => by
  obtain ⟨c, hc⟩ := List.getElem?_of_mem hv
  have hl : ms.length = P.mem.length := by have := h.mem.1; omega
  have hcl : c < P.mem.length := by have := (List.getElem?_eq_some_iff.1 hc).1; omega
  obtain ⟨v', hv', -, hoff⟩ := h.rows c _ (List.getElem?_eq_getElem hcl)
  obtain rfl := Option.some.inj (hv'.symm.trans hc)
  obtain ⟨h1, h2, h3⟩ := hoff k hk
  refine ⟨h1, fun hm => ?_⟩
  rcases partS_mem.1 hm with e | e | e | e | e
  · exact h2 e
  · exact h3 cv (by simp) e
  · exact h3 mv (by simp) e
  · exact h3 wv (by simp) e
  · exact h3 kv (by simp) e
theorem PartsAt.below {w w' : World} {B p M : Nat} {P : Parts} {cv mv wv kv : Value} {ms : List Value} (h : PartsAt w B p M P cv mv wv kv ms) (hb : Below w.heap.size w w') : PartsAt w' B p M P cv mv wv kv ms :=
  h.only (S := []) (Only.of_below hb) (by simp) (by simp)
/-- a class's members are stored -/
theorem put_memat {w : World} {B p M : Nat} {P : Parts} {cv wv kv rv : Value} {ms : List Value} {gm capm c : Nat} {r : List Nat} (h : PartsAt w B p M P cv (.slice (some ⟨gm, 0, none⟩) P.mem.length capm) wv kv ms) (hc : c < P.mem.length)
    (hrv : NatsAt w rv r) (hro : ∀ k, rv.ownBlock = some k → k < w.heap.size ∧ k ≠ p ∧ Off k [cv, .slice (some ⟨gm, 0, none⟩) P.mem.length capm, wv, kv]) :
    PartsAt (w.setCell ⟨gm, c, none⟩ rv) B p M { P with mem := P.mem.set c r } cv (.slice (some ⟨gm, 0, none⟩) P.mem.length capm) wv kv (ms.set c rv) ∧ Only [gm] w (w.setCell ⟨gm, c, none⟩ rv) := by
  have ho : Only [gm] w (w.setCell ⟨gm, c, none⟩ rv) := only_set1 w ⟨gm, c, none⟩ _
  have hmv : (Value.slice (some ⟨gm, 0, none⟩) P.mem.length capm).ownBlock = some gm := rfl
  have hp : p ≠ gm := h.offp.at_ (v := .slice (some ⟨gm, 0, none⟩) P.mem.length capm) (by simp) rfl
  have hst := (h.mem.stored c rv).1
  have kk : ∀ {v : Value}, v.ownBlock ≠ some gm → ∀ k, v.ownBlock = some k → k ∉ [gm] := fun {v} hv k hk hm => by
    simp at hm
    exact hv (by rw [hk, hm])
  have hl : ms.length = P.mem.length := by have := h.mem.1; omega
  refine ⟨⟨h.blk.only ho (by simpa using hp), h.base, own_only h.cls ho (kk fun e => h.offc gm e (.slice (some ⟨gm, 0, none⟩) P.mem.length capm) (by simp) hmv), ?_, own_only h.wai ho (kk (h.offm gm rfl wv (by simp))), own_only h.work ho (kk (h.offm gm rfl kv (by simp))), h.offp, h.offc, h.offm, h.offw, fun x t hx => ?_⟩, ho⟩
  · simp only [List.length_set]
    exact hst
  · simp only at hx
    rw [List.getElem?_set] at hx
    by_cases e : c = x
    · subst e
      rw [if_pos rfl, if_pos hc] at hx
      obtain rfl := Option.some.inj hx
      refine ⟨rv, by rw [List.getElem?_set, if_pos rfl, if_pos (by omega)], hrv.only ho fun k hk hm => ?_, fun k hk => ?_⟩
      · simp at hm
        exact (hro k hk).2.2 (.slice (some ⟨gm, 0, none⟩) P.mem.length capm) (by simp) (by rw [hmv, hm])
      · obtain ⟨h1, h2, h3⟩ := hro k hk
        exact ⟨Nat.lt_of_lt_of_le h1 ho.size, h2, h3⟩
    · rw [if_neg e] at hx
      obtain ⟨v, hv, hn, hoff⟩ := h.rows x t hx
      refine ⟨v, by rw [List.getElem?_set, if_neg e]; exact hv, hn.only ho fun k hk hm => ?_, fun k hk => ?_⟩
      · simp at hm
        exact (hoff k hk).2.2 (.slice (some ⟨gm, 0, none⟩) P.mem.length capm) (by simp) (by rw [hmv, hm])
      · obtain ⟨h1, h2, h3⟩ := hoff k hk
        exact ⟨Nat.lt_of_lt_of_le h1 ho.size, h2, h3⟩
/-- what is turned behind a move: the old rows and what is new -/
theorem Moved.trans {w w' : World} {v v' v'' : Value} (h : Moved w v v') (h' : Moved w' v' v'') (hs : w.heap.size ≤ w'.heap.size) : Moved w v v'' := by
  rcases h' with e | ⟨g, e, hg⟩
  · rcases h with e2 | ⟨g, e2, hg⟩
    · exact .inl (e.trans e2)
    · exact .inr ⟨g, e.trans e2, hg⟩
  · exact .inr ⟨g, e, by omega⟩
theorem Only.moved {w w' w'' : World} {S T : List Nat} (h : Only S w w') (h' : Only T w' w'') (ht : ∀ k ∈ T, k ∈ S ∨ w.heap.size ≤ k) : Only S w w'' :=
  ⟨h'.os.trans h.os, h'.tape.trans h.tape, h'.output.trans h.output, Nat.le_trans h.size h'.size, fun k hk hS => (h'.block k (Nat.lt_of_lt_of_le hk h.size) fun hT => by
    rcases ht k hT with e | e
    · exact hS e
    · omega).trans (h.block k hk hS)⟩
end Go.Proofs.YtmmlakheimfijaaGreatDoor
namespace Go.Proofs.YtmmlakheimfijaaGreatDoor
set_option linter.unusedVariables false
set_option linter.unusedSimpArgs false
open Go.RowKit Go.Maps Go.Sort Go.ChangeShapes Go.WideShapes

theorem infoInt : (Tryz.prog.info? 3).map (fun i => (i.zero, i.size, i.bytes)) = some (some (.int .i64 0), 1, 8) := by kernel_rfl
theorem one_at {w : World} {u : Value} {t : TypeId} : ∀ j v, [u][j]? = some v → (w.alloc (.cells #[u] t)).cell? ((⟨w.heap.size, 0, none⟩ : Addr).add j) = some v := by
  intro j v hj
  have h0 := (List.getElem?_eq_some_iff.1 hj).1
  obtain rfl : j = 0 := by simp at h0; omega
  rw [Addr.add_lit, (Blk.new w t #[u]).cell 0]
  exact hj

theorem wait_end {w w3 : World} {B p M : Nat} {P : Parts} {cv mv kv : Value} {ms : List Value} {gw capw c g cap : Nat} (h : PartsAt w B p M P cv mv (.slice (some ⟨gw, 0, none⟩) P.wai.length capw) kv ms) (hc : c < P.wai.length)
    (hown : w3.ownsRow B 3 1 (.slice (some ⟨g, 0, none⟩) (P.work.length + 1) cap) (P.work.length + 1) (natCells P.work ++ [.int .i64 (c : Int)]))
    (hgrow : ((w.setCell ⟨gw, c, none⟩ (.bool true)).alloc (.cells #[.int .i64 (c : Int)] 3)).grownBy w3 kv.ownBlock) (hat : kv.ownBlock = some g ∨ g = ((w.setCell ⟨gw, c, none⟩ (.bool true)).alloc (.cells #[.int .i64 (c : Int)] 3)).heap.size) :
    PartsAt (w3.setCell ⟨p, 3, none⟩ (.slice (some ⟨g, 0, none⟩) (P.work.length + 1) cap)) B p M { P with wai := P.wai.set c true, work := P.work ++ [c] } cv mv (.slice (some ⟨gw, 0, none⟩) P.wai.length capw) (.slice (some ⟨g, 0, none⟩) (P.work.length + 1) cap) ms ∧
      Only (partS p cv mv (.slice (some ⟨gw, 0, none⟩) P.wai.length capw) kv) w (w3.setCell ⟨p, 3, none⟩ (.slice (some ⟨g, 0, none⟩) (P.work.length + 1) cap)) ∧ Moved w kv (.slice (some ⟨g, 0, none⟩) (P.work.length + 1) cap) := by
  have o1 := only_set1 w ⟨gw, c, none⟩ (.bool true)
  have o2 := only_alloc (w.setCell ⟨gw, c, none⟩ (.bool true)) (.cells #[.int .i64 (c : Int)] 3)
  have o3 := only_grown hgrow
  have o4 := only_set1 w3 ⟨p, 3, none⟩ (.slice (some ⟨g, 0, none⟩) (P.work.length + 1) cap)
  have hz : ((w.setCell ⟨gw, c, none⟩ (.bool true)).alloc (.cells #[.int .i64 (c : Int)] 3)).heap.size = w.heap.size + 1 := by simp
  rw [hz] at hat
  have hwv : (Value.slice (some ⟨gw, 0, none⟩) P.wai.length capw).ownBlock = some gw := rfl
  -- what turned behind the first store, and in all
  have t1 : Only (kv.ownBlock.toList ++ [p]) (w.setCell ⟨gw, c, none⟩ (.bool true)) (w3.setCell ⟨p, 3, none⟩ (.slice (some ⟨g, 0, none⟩) (P.work.length + 1) cap)) :=
    ((o2.more (by simp)).trans (o3.more fun k hk => List.mem_append_left _ hk)).trans (o4.more (by simp))
  have t0 : Only (gw :: (kv.ownBlock.toList ++ [p])) w (w3.setCell ⟨p, 3, none⟩ (.slice (some ⟨g, 0, none⟩) (P.work.length + 1) cap)) :=
    (o1.more (by simp)).trans (t1.more fun k hk => List.mem_cons_of_mem _ hk)
  have offc : ∀ k, cv.ownBlock = some k → k ∉ gw :: (kv.ownBlock.toList ++ [p]) := fun k hk hm => by
    have h1 := h.offc k hk
    simp at hm
    rcases hm with e | e | e
    · exact h1 (.slice (some ⟨gw, 0, none⟩) P.wai.length capw) (by simp) (by rw [hwv, e])
    · exact h1 kv (by simp) e
    · exact h.offp cv (by simp) (by rw [hk, e])
  have offm : ∀ k, mv.ownBlock = some k → k ∉ gw :: (kv.ownBlock.toList ++ [p]) := fun k hk hm => by
    have h1 := h.offm k hk
    simp at hm
    rcases hm with e | e | e
    · exact h1 (.slice (some ⟨gw, 0, none⟩) P.wai.length capw) (by simp) (by rw [hwv, e])
    · exact h1 kv (by simp) e
    · exact h.offp mv (by simp) (by rw [hk, e])
  have offw : ∀ k, (Value.slice (some ⟨gw, 0, none⟩) P.wai.length capw).ownBlock = some k → k ∉ kv.ownBlock.toList ++ [p] := fun k hk hm => by
    have h1 := h.offw k hk
    simp at hm
    rcases hm with e | e
    · exact h1 kv (by simp) e
    · exact h.offp (.slice (some ⟨gw, 0, none⟩) P.wai.length capw) (by simp) (hk.trans (by rw [e]))
  have gne : ∀ k, k < w.heap.size → kv.ownBlock ≠ some k → g ≠ k := fun k hk hn e => by
    rcases hat with h1 | h1
    · exact hn (by rw [h1, e])
    · omega
  have hgp : g ≠ p := gne p h.blk.lt (h.offp kv (by simp))
  have hb3 : Blk w3 p 106 #[cv, mv, .slice (some ⟨gw, 0, none⟩) P.wai.length capw, kv] :=
    ((h.blk.far (p := ⟨gw, c, none⟩) (fun e => h.offp (.slice (some ⟨gw, 0, none⟩) P.wai.length capw) (by simp) (by rw [hwv]; exact congrArg some e.symm)) (.bool true)).alloc _).grown hgrow fun e => h.offp kv (by simp) e.symm
  have hb4 := hb3.set_ 3 (.slice (some ⟨g, 0, none⟩) (P.work.length + 1) cap)
  refine ⟨⟨by simpa using hb4, h.base, own_only h.cls t0 offc, own_only h.mem t0 offm, ?_, ?_, ?_, ?_, ?_, ?_, ?_⟩, t0.more fun k hk => ?_, ?_⟩
  · have h1 := own_only (h.wai.stored c (.bool true)).1 t1 offw
    simp only [List.length_set, List.map_set]
    exact h1
  · have h1 := own_set hown (a := ⟨p, 3, none⟩) (.slice (some ⟨g, 0, none⟩) (P.work.length + 1) cap) (fun e => hgp (Option.some.inj e))
    rw [natCells_snoc, List.length_append]
    exact h1
  · exact .mk4 (h.offp cv (by simp)) (h.offp mv (by simp)) (h.offp (.slice (some ⟨gw, 0, none⟩) P.wai.length capw) (by simp)) fun e => hgp (Option.some.inj e)
  · intro k hk
    exact .mk3 (h.offc k hk mv (by simp)) (h.offc k hk (.slice (some ⟨gw, 0, none⟩) P.wai.length capw) (by simp)) fun e => gne k (own_lt h.cls hk) (h.offc k hk kv (by simp)) (Option.some.inj e)
  · intro k hk
    exact .mk2 (h.offm k hk (.slice (some ⟨gw, 0, none⟩) P.wai.length capw) (by simp)) fun e => gne k (own_lt h.mem hk) (h.offm k hk kv (by simp)) (Option.some.inj e)
  · intro k hk
    exact .mk1 fun e => gne k (own_lt h.wai hk) (h.offw k hk kv (by simp)) (Option.some.inj e)
  · intro x s hx
    obtain ⟨v, hv, hn, ho⟩ := h.rows x s hx
    refine ⟨v, hv, hn.only t0 fun k hk hm => ?_, fun k hk => ?_⟩
    · obtain ⟨h1, h2, h3⟩ := ho k hk
      simp at hm
      rcases hm with e | e | e
      · exact h3 (.slice (some ⟨gw, 0, none⟩) P.wai.length capw) (by simp) (by rw [hwv, e])
      · exact h3 kv (by simp) e
      · exact h2 e
    · obtain ⟨h1, h2, h3⟩ := ho k hk
      refine ⟨Nat.lt_of_lt_of_le h1 t0.size, h2, .mk4 (h3 cv (by simp)) (h3 mv (by simp)) (h3 (.slice (some ⟨gw, 0, none⟩) P.wai.length capw) (by simp)) fun e => gne k h1 (h3 kv (by simp)) (Option.some.inj e)⟩
  · rw [partS_mem]
    simp at hk
    rcases hk with e | e | e
    · exact .inr (.inr (.inr (.inl (by rw [hwv, e]))))
    · exact .inr (.inr (.inr (.inr e)))
    · exact .inl e
  · rcases hat with h1 | h1
    · exact .inl h1.symm
    · exact .inr ⟨g, rfl, by omega⟩

set_option maxRecDepth 100000 in
set_option maxHeartbeats 4000000 in
theorem wait_any (w : World) (B p M : Nat) (P : Parts) (cv mv wv kv : Value) (ms : List Value) (h : PartsAt w B p M P cv mv wv kv ms) (c : Nat) (hc : c < P.wai.length) (hk : P.work.length ≤ 1000000) (hB : B ≤ w.heap.size) :
    Calls Tryz.prog 72 #[.pointer (some ⟨p, 0, none⟩), .int .i64 c] w fun e w' => e = .returned (.tuple #[]) ∧ ∃ kv', PartsAt w' B p M (P.wait c) cv mv wv kv' ms ∧ Only (partS p cv mv wv kv) w w' ∧ Moved w kv kv' := by
  obtain ⟨gw, capw, rfl, hgB, hgw⟩ := h.wai.form (by omega)
  have hwl : P.wai.length ≤ maxLen := by
    rcases h.wai.2 with ⟨h0, -⟩ | ⟨g, cap, cur, hv, -, -, h3, h4, -⟩
    · cases h0
    · omega
  have hcell := h.wai.cellAt c (by omega)
  obtain ⟨⟨b0, b1, b2, b3⟩, z0, z1, z2, z3⟩ := h.blk.c4
  cases hw : P.wai.getD c false with
  | true =>
    have hcs : (P.wai.map Value.bool)[c]? = some (.bool true) := by
      rw [List.getElem?_map, getD_true.1 hw]; rfl
    rw [hcs] at hcell
    have HW : Hid (P.wait c = P) := Lib.hid (by unfold Parts.wait; rw [if_pos hw])
    have H := Lib.hid h
    clear h hw hcs
    go_enter Tryz.func72, Tryz.ntmps72
    go_wp2_with fail
    go_end0
    refine ⟨rfl, kv, ?_, Only.refl _ _, Moved.same _ _⟩
    rw [HW.out]; exact H.out
  | false =>
    have hcs : (P.wai.map Value.bool)[c]? = some (.bool false) := by
      rw [List.getElem?_map, List.getElem?_eq_getElem hc]
      rw [List.getD_eq_getElem?_getD, List.getElem?_eq_getElem hc] at hw
      simp at hw
      simp [hw]
    rw [hcs] at hcell
    have HW : Hid (P.wait c = { P with wai := P.wai.set c true, work := P.work ++ [c] }) := Lib.hid (by unfold Parts.wait; rw [if_neg (by rw [hw]; simp)])
    have hfz := h.wai.frozenAt c
    obtain ⟨i0, hi0, hz00, hz01, hz02⟩ := info_parts infoInt
    have offw := h.offw gw rfl kv (by simp)
    have hpw : p ≠ gw := h.offp.at_ (v := .slice (some ⟨gw, 0, none⟩) P.wai.length capw) (by simp) rfl
    have hown2 : ((w.setCell ⟨gw, c, none⟩ (.bool true)).alloc (.cells #[.int .i64 (c : Int)] 3)).ownsRow B 3 1 kv P.work.length (natCells P.work) := (own_set h.work (a := ⟨gw, c, none⟩) _ offw).alloc _
    have hone : ∀ j v, [Value.int .i64 (c : Int)][j]? = some v → ((w.setCell ⟨gw, c, none⟩ (.bool true)).alloc (.cells #[.int .i64 (c : Int)] 3)).cell? ((⟨w.heap.size, 0, none⟩ : Addr).add j) = some v := by
      have := one_at (w := w.setCell ⟨gw, c, none⟩ (.bool true)) (u := .int .i64 (c : Int)) (t := 3)
      simpa using this
    have hblk2 := (h.blk.far (p := ⟨gw, c, none⟩) hpw (.bool true)).alloc (.cells #[.int .i64 (c : Int)] 3)
    have H := Lib.hid h
    have hkp : some p ≠ kv.ownBlock := fun e => h.offp kv (by simp) e.symm
    clear h hw hcs
    go_enter Tryz.func72, Tryz.ntmps72
    go_wp2_with (at_builtin; refine wpList_append_lies _ rfl _ _ 23 rfl B 3 i0 (.int .i64 0) 1 8 Tryz.underlying23 hi0 hz00 hz01 hz02 rfl (by decide) _ _ _ rfl hown2 ⟨w.heap.size, 0, none⟩ 1 1 [.int .i64 (c : Int)] rfl rfl hone (fun u hu => by simp at hu; subst hu; rfl) (by decide) (by unfold maxLen; omega) (by omega) (by simp; omega) _ rfl ?_; intro g cap w3 hown3 hgrow3 hat3 hlt3; obtain ⟨⟨y0, y1, y2, y3⟩, x0, x1, x2, x3⟩ := (hblk2.grown hgrow3 hkp).c4)
    go_end0
    have HE := wait_end H.out hc hown3 hgrow3 hat3
    rw [HW.out]
    exact ⟨rfl, _, HE⟩
end Go.Proofs.YtmmlakheimfijaaGreatDoor
namespace Go.Proofs.YtmmlakheimfijaaGreatDoor
set_option linter.unusedVariables false
set_option linter.unusedSimpArgs false
open Go.RowKit Go.Maps Go.Sort Go.ChangeShapes Go.WideShapes

theorem infoRow : (Tryz.prog.info? 23).map (fun i => (i.zero, i.size, i.bytes)) = some (some (.slice none 0 0), 1, 24) := by kernel_rfl
theorem infoBool : (Tryz.prog.info? 4).map (fun i => (i.zero, i.size, i.bytes)) = some (some (.bool false), 1, 1) := by kernel_rfl
theorem own_shape {w : World} {B : Nat} {e : TypeId} {size n : Nat} {v : Value} {xs : List Value} (h : w.ownsRow B e size v n xs) : ∃ a c, v = .slice a n c := by
  rcases h.2 with ⟨rfl, rfl⟩ | ⟨g, cap, cur, rfl, -⟩
  · exact ⟨none, 0, rfl⟩
  · exact ⟨_, cap, rfl⟩

theorem app_mem {w w3 : World} {B p M : Nat} {P : Parts} {cv mv wv kv : Value} {ms : List Value} {sv : Value} {s : List Nat} {g cap : Nat} (h : PartsAt w B p M P cv mv wv kv ms) (hsv : NatsAt w sv s) (hso : ∀ k, sv.ownBlock = some k → k < w.heap.size ∧ k ≠ p ∧ Off k [cv, mv, wv, kv]) 
    (hown : w3.ownsRow B 23 1 (.slice (some ⟨g, 0, none⟩) (P.mem.length + 1) cap) (P.mem.length + 1) (ms ++ [sv])) (hgrow : (w.alloc (.cells #[sv] 23)).grownBy w3 mv.ownBlock) (hat : mv.ownBlock = some g ∨ g = (w.alloc (.cells #[sv] 23)).heap.size) :
    PartsAt (w3.setCell ⟨p, 1, none⟩ (.slice (some ⟨g, 0, none⟩) (P.mem.length + 1) cap)) B p M { P with mem := P.mem ++ [s] } cv (.slice (some ⟨g, 0, none⟩) (P.mem.length + 1) cap) wv kv (ms ++ [sv]) ∧ Only (p :: mv.ownBlock.toList) w (w3.setCell ⟨p, 1, none⟩ (.slice (some ⟨g, 0, none⟩) (P.mem.length + 1) cap)) ∧ Moved w mv (.slice (some ⟨g, 0, none⟩) (P.mem.length + 1) cap) := by
  have hz : (w.alloc (.cells #[sv] 23)).heap.size = w.heap.size + 1 := by simp
  rw [hz] at hat
  have o2 := only_alloc w (.cells #[sv] 23)
  have o3 := only_grown hgrow
  have o4 := only_set1 w3 ⟨p, 1, none⟩ (.slice (some ⟨g, 0, none⟩) (P.mem.length + 1) cap)
  have t0 : Only (p :: mv.ownBlock.toList) w (w3.setCell ⟨p, 1, none⟩ (.slice (some ⟨g, 0, none⟩) (P.mem.length + 1) cap)) := ((o2.more (by simp)).trans (o3.more fun k hk => List.mem_cons_of_mem _ hk)).trans (o4.more (by simp))
  have hgp : g ≠ p := fun e => by
    rcases hat with h1 | h1
    · exact h.offp mv (by simp) (by rw [h1, e])
    · have := h.blk.lt; omega
  have hb3 : Blk w3 p 106 #[cv, mv, wv, kv] := (h.blk.alloc _).grown hgrow fun e => h.offp mv (by simp) e.symm
  have hb4 := hb3.set_ 1 (.slice (some ⟨g, 0, none⟩) (P.mem.length + 1) cap)
  have hown4 := own_set hown (a := ⟨p, 1, none⟩) (.slice (some ⟨g, 0, none⟩) (P.mem.length + 1) cap) (fun e => hgp (Option.some.inj e))
  have hq := put_mem h hsv hso t0 (by simpa using hb4) hown4 (fun k hk => by
    obtain rfl : g = k := Option.some.inj hk
    rcases hat with h1 | h1
    · exact .inl h1
    · exact .inr (by omega))
  refine ⟨hq, t0, ?_⟩
  rcases hat with h1 | h1
  · exact .inl h1.symm
  · exact .inr ⟨g, rfl, by omega⟩
theorem app_wai {w w3 : World} {B p M : Nat} {P : Parts} {cv mv wv kv : Value} {ms : List Value} {b : Bool} {g cap : Nat} (h : PartsAt w B p M P cv mv wv kv ms) 
    (hown : w3.ownsRow B 4 1 (.slice (some ⟨g, 0, none⟩) (P.wai.length + 1) cap) (P.wai.length + 1) ((P.wai.map .bool) ++ [.bool b])) (hgrow : (w.alloc (.cells #[.bool b] 4)).grownBy w3 wv.ownBlock) (hat : wv.ownBlock = some g ∨ g = (w.alloc (.cells #[.bool b] 4)).heap.size) :
    PartsAt (w3.setCell ⟨p, 2, none⟩ (.slice (some ⟨g, 0, none⟩) (P.wai.length + 1) cap)) B p M { P with wai := P.wai ++ [b] } cv mv (.slice (some ⟨g, 0, none⟩) (P.wai.length + 1) cap) kv ms ∧ Only (p :: wv.ownBlock.toList) w (w3.setCell ⟨p, 2, none⟩ (.slice (some ⟨g, 0, none⟩) (P.wai.length + 1) cap)) ∧ Moved w wv (.slice (some ⟨g, 0, none⟩) (P.wai.length + 1) cap) := by
  have hz : (w.alloc (.cells #[.bool b] 4)).heap.size = w.heap.size + 1 := by simp
  rw [hz] at hat
  have o2 := only_alloc w (.cells #[.bool b] 4)
  have o3 := only_grown hgrow
  have o4 := only_set1 w3 ⟨p, 2, none⟩ (.slice (some ⟨g, 0, none⟩) (P.wai.length + 1) cap)
  have t0 : Only (p :: wv.ownBlock.toList) w (w3.setCell ⟨p, 2, none⟩ (.slice (some ⟨g, 0, none⟩) (P.wai.length + 1) cap)) := ((o2.more (by simp)).trans (o3.more fun k hk => List.mem_cons_of_mem _ hk)).trans (o4.more (by simp))
  have hgp : g ≠ p := fun e => by
    rcases hat with h1 | h1
    · exact h.offp wv (by simp) (by rw [h1, e])
    · have := h.blk.lt; omega
  have hb3 : Blk w3 p 106 #[cv, mv, wv, kv] := (h.blk.alloc _).grown hgrow fun e => h.offp wv (by simp) e.symm
  have hb4 := hb3.set_ 2 (.slice (some ⟨g, 0, none⟩) (P.wai.length + 1) cap)
  have hown4 := own_set hown (a := ⟨p, 2, none⟩) (.slice (some ⟨g, 0, none⟩) (P.wai.length + 1) cap) (fun e => hgp (Option.some.inj e))
  have hq := put_wai (l := P.wai ++ [b]) h t0 (by simpa using hb4) (by rw [List.length_append, List.map_append]; exact hown4) (fun k hk => by
    obtain rfl : g = k := Option.some.inj hk
    rcases hat with h1 | h1
    · exact .inl h1
    · exact .inr (by omega))
  refine ⟨hq, t0, ?_⟩
  rcases hat with h1 | h1
  · exact .inl h1.symm
  · exact .inr ⟨g, rfl, by omega⟩

set_option maxRecDepth 100000 in
set_option maxHeartbeats 8000000 in
theorem open_any (w : World) (B p M : Nat) (P : Parts) (cv mv wv kv sv : Value) (ms : List Value) (s : List Nat) (h : PartsAt w B p M P cv mv wv kv ms) (hsv : NatsAt w sv s) (hso : ∀ k, sv.ownBlock = some k → k < w.heap.size ∧ k ≠ p ∧ Off k [cv, mv, wv, kv])
    (hs : ∀ n ∈ s, n < M) (hm : P.mem.length ≤ 1000000) (hw : P.wai.length ≤ 1000000) (hM : M ≤ maxLen) (hsl : s.length ≤ 1000000) (hB : B ≤ w.heap.size) :
    Calls Tryz.prog 73 #[.pointer (some ⟨p, 0, none⟩), sv] w fun e w' => e = .returned (.int .i64 P.mem.length) ∧ ∃ mv' wv', PartsAt w' B p M (P.opens s) cv mv' wv' kv (ms ++ [sv]) ∧ Only (partS p cv mv wv kv) w w' ∧ Moved w mv mv' ∧ Moved w wv wv' := by
  obtain ⟨am, capm, rfl⟩ := own_shape h.mem
  obtain ⟨asv, caps, rfl, hsc⟩ := id hsv
  obtain ⟨⟨b0, b1, b2, b3⟩, z0, z1, z2, z3⟩ := h.blk.c4
  obtain ⟨i0, hi0, hz00, hz01, hz02⟩ := info_parts infoRow
  obtain ⟨j0, hj0, hy00, hy01, hy02⟩ := info_parts infoBool
  have hone := one_at (w := w) (u := .slice asv s.length caps) (t := 23)
  have hown2 := h.mem.alloc (.cells #[.slice asv s.length caps] 23)
  have hblk2 := h.blk.alloc (.cells #[.slice asv s.length caps] 23)
  have hpm : some p ≠ (Value.slice am P.mem.length capm).ownBlock := fun e => h.offp (.slice am P.mem.length capm) (by simp) e.symm
  have H := Lib.hid (And.intro h (And.intro hsv hso))
  clear h hsv hso hsc
  go_enter Tryz.func73, Tryz.ntmps73
  go_wp2_with (first
    | (at_builtin; refine wpList_append_lies _ rfl _ _ 24 rfl B 23 i0 (.slice none 0 0) 1 24 Tryz.underlying24 hi0 hz00 hz01 hz02 rfl (by decide) _ _ _ rfl hown2 ⟨w.heap.size, 0, none⟩ 1 1 [.slice asv s.length caps] rfl rfl hone (fun u hu => by simp at hu; subst hu; rfl) (by decide) (by unfold maxLen; omega) (by omega) (by simp; omega) _ rfl ?_; intro g cap w3 hown3 hgrow3 hat3 hlt3; obtain ⟨⟨y0, y1, y2, y3⟩, x0, x1, x2, x3⟩ := (hblk2.grown hgrow3 hpm).c4)
    | (at_builtin; obtain ⟨hQ, oQ, mQ⟩ := app_mem H.out.1 H.out.2.1 H.out.2.2 hown3 hgrow3 hat3; refine wpList_append_lies _ rfl _ _ 22 rfl B 4 j0 (.bool false) 1 1 Tryz.underlying22 hj0 hy00 hy01 hy02 rfl (by decide) _ _ _ rfl (hQ.wai.alloc (.cells #[.bool false] 4)) ⟨w3.heap.size, 0, none⟩ 1 1 [.bool false] rfl rfl (by have := one_at (w := w3.setCell ⟨p, 1, none⟩ (.slice (some ⟨g, 0, none⟩) (P.mem.length + 1) cap)) (u := .bool false) (t := 4); simpa using this) (fun u hu => by simp at hu; subst hu; rfl) (by decide) (by show P.wai.length + 1 ≤ maxLen; unfold maxLen; omega) (by show (P.wai.length + 1) * 1 ≤ 140737488355328; omega) (by have := oQ.size; simp at this; simp; omega) _ rfl ?_; intro g2 cap2 w5 hown5 hgrow5 hat5 hlt5; obtain ⟨⟨v0, v1, v2, v3⟩, u0, u1, u2, u3⟩ := ((hQ.blk.alloc (.cells #[.bool false] 4)).grown hgrow5 (fun e => hQ.offp wv (by simp) e.symm)).c4))
  obtain ⟨hQ2, oQ2, mQ2⟩ := app_wai (b := false) hQ hown5 hgrow5 hat5
  have H2 := Lib.hid (And.intro oQ (And.intro mQ (And.intro oQ2 mQ2)))
  have hpl : P.mem.length < 9223372036854775807 := by omega
  clear oQ mQ oQ2 mQ2 hQ hown5 hgrow5 hat5 hown3 hgrow3 hat3 hown2 hone hblk2 hpm v0 v1 v2 v3 u0 u1 u2 u3 y0 y1 y2 y3 x0 x1 x2 x3 b0 b1 b2 b3 z0 z1 z2 z3
  generalize w5.setCell ⟨p, 2, none⟩ (.slice (some ⟨g2, 0, none⟩) (P.wai.length + 1) cap2) = W at *
  have hQ3 : PartsAt W B p M { cls := fun n => if n ∈ s.take 0 then P.mem.length else P.cls n, mem := P.mem ++ [s], wai := P.wai ++ [false], work := P.work } cv (.slice (some ⟨g, 0, none⟩) (P.mem.length + 1) cap) (.slice (some ⟨g2, 0, none⟩) (P.wai.length + 1) cap2) kv (ms ++ [.slice asv s.length caps]) := by
    simpa using hQ2
  clear hQ2
  go_loopw [7, 34] (fun c7 c34 wr => ∃ j : Nat, j ≤ s.length ∧ c34 = .int .i64 j ∧ Hid (PartsAt wr B p M { cls := fun n => if n ∈ s.take j then P.mem.length else P.cls n, mem := P.mem ++ [s], wai := P.wai ++ [false], work := P.work } cv (.slice (some ⟨g, 0, none⟩) (P.mem.length + 1) cap) (.slice (some ⟨g2, 0, none⟩) (P.wai.length + 1) cap2) kv (ms ++ [.slice asv s.length caps]) ∧ Only cv.ownBlock.toList W wr)) (fun _ c _ => s.length - (intOf c).toNat)
  case atStart => exact ⟨0, by omega, rfl, Lib.hid ⟨hQ3, Only.refl _ _⟩⟩
  case round =>
    clear hQ3
    obtain ⟨j, hj, rfl, hr⟩ := hrel
    by_cases hlt : j < s.length
    · have hml : ms.length = P.mem.length := by have := H.out.1.mem.1; omega
      obtain ⟨v, hv, hn, -⟩ := hr.out.1.rows P.mem.length s (by rw [List.getElem?_append_right (Nat.le_refl _), Nat.sub_self]; rfl)
      rw [← hml, List.getElem?_append_right (Nat.le_refl _), Nat.sub_self] at hv
      obtain rfl := Option.some.inj hv
      obtain ⟨n, hx⟩ : ∃ n, s[j]? = some n := ⟨_, List.getElem?_eq_getElem hlt⟩
      have hnM := hs n (List.mem_of_getElem? hx)
      obtain ⟨a, cp, he, h0 | ⟨bs, off, rfl, hbs, hcell⟩⟩ := hn
      · rw [h0] at hlt; cases hlt
      obtain ⟨rfl, rfl⟩ : asv = some ⟨bs, off, none⟩ ∧ caps = cp := by simpa using he
      have m0 := hcell j n hx
      obtain ⟨gc, capc, rfl, -, -⟩ := hr.out.1.cls.form (by omega)
      have k0 := hr.out.1.cls.cellAt n (by omega)
      have k1 := hr.out.1.cls.frozenAt n
      have k2 := hr.out.1.blk.c4.1.1
      have k3 : (clsCells (fun n => if n ∈ s.take j then P.mem.length else P.cls n) M)[n]? = some (.int .i64 (((if n ∈ s.take j then P.mem.length else P.cls n) : Nat) : Int)) := by
        simp [clsCells, List.getElem?_range hnM]
      rw [k3] at k0
      have hnM' : n < M := hnM
      have hMi : M ≤ 9223372036854775807 := hM
      obtain ⟨z, hz⟩ : ∃ z : Nat, (if n ∈ s.take j then P.mem.length else P.cls n) = z := ⟨_, rfl⟩
      rw [hz] at k0
      obtain ⟨hput, hpo⟩ := put_cls (c := P.mem.length) hr.out.1 hnM
      have hcls : (fun m => if m = n then P.mem.length else if m ∈ s.take j then P.mem.length else P.cls m) = fun m => if m ∈ s.take (j + 1) then P.mem.length else P.cls m := by
        funext m
        have ht : s.take (j + 1) = s.take j ++ [n] := by rw [List.take_add_one, hx]; rfl
        rw [ht]
        by_cases e : m = n
        · subst e; simp
        · simp [e]
      simp only [hcls] at hput
      have HP := Lib.hid (And.intro hput (hr.out.2.trans (hpo.more (T := (Value.slice (some ⟨gc, 0, none⟩) M capc).ownBlock.toList) (fun k hk => hk))))
      clear hcell hput hpo hcls hz k3 he hnM
      go_wp2_with fail
      go_roundw
      case rel => exact ⟨j + 1, by omega, by go_num, HP⟩
      case measure => simp [intOf]; omega
    · obtain rfl : j = s.length := by omega
      go_wp2_with fail
      go_ret
      refine ⟨rfl, _, _, by have := hr.out.1; rw [List.take_length] at this; exact this, ?_, H2.out.2.1, ?_⟩
      · refine ((H2.out.1.more fun k hk => ?_).trans (H2.out.2.2.1.more fun k hk => ?_)).trans (hr.out.2.more fun k hk => ?_)
        all_goals
          rw [partS_mem]
          simp at hk
        · rcases hk with e | e
          · exact .inl e
          · exact .inr (.inr (.inl e))
        · rcases hk with e | e
          · exact .inl e
          · exact .inr (.inr (.inr (.inl e)))
        · exact .inr (.inl hk)
      · rcases H2.out.2.2.2 with e | ⟨k, e1, e2⟩
        · exact .inl e
        · exact .inr ⟨k, e1, by have := H2.out.1.size; omega⟩
end Go.Proofs.YtmmlakheimfijaaGreatDoor
namespace Go.Proofs.YtmmlakheimfijaaGreatDoor
set_option linter.unusedVariables false
set_option linter.unusedSimpArgs false
open Go.RowKit Go.Maps Go.Sort Go.ChangeShapes Go.WideShapes

set_option maxRecDepth 100000 in
set_option maxHeartbeats 8000000 in
theorem apart_any (w : World) (B p M : Nat) (P : Parts) (cv mv wv kv sv : Value) (ms : List Value) (s t : List Nat) (c : Nat) (h : PartsAt w B p M P cv mv wv kv ms) (hsv : NatsAt w sv s) (hso : ∀ k, sv.ownBlock = some k → k < w.heap.size ∧ k ≠ p ∧ Off k [cv, mv, wv, kv])
    (hs : ∀ n ∈ s, n < M) (ht : P.mem[c]? = some t) (htM : ∀ n ∈ t, n < M) (hlen : P.wai.length = P.mem.length) (hm : P.mem.length < 1000000) (hM : M ≤ maxLen) (hsl : s.length ≤ 1000000) (htl : t.length ≤ 1000000) (hk : P.work.length ≤ 1000000) (hB : B ≤ w.heap.size) :
    Calls Tryz.prog 76 #[.pointer (some ⟨p, 0, none⟩), .int .i64 c, sv] w fun e w' => e = .returned (.tuple #[]) ∧ ∃ mv' wv' kv' ms', PartsAt w' B p M (P.apart c s) cv mv' wv' kv' ms' ∧ Only (partS p cv mv wv kv) w w' ∧ Moved w mv mv' ∧ Moved w wv wv' ∧ Moved w kv kv' := by
  have hcl : c < P.mem.length := (List.getElem?_eq_some_iff.1 ht).1
  have hgd : P.mem.getD c [] = t := by rw [List.getD_eq_getElem?_getD, ht]; rfl
  obtain ⟨gm, capm, rfl, hgB, hgl⟩ := h.mem.form (by omega)
  obtain ⟨v, hv, hn, hoff⟩ := h.rows c t ht
  obtain ⟨at_, capt, rfl, hct⟩ := id hn
  obtain ⟨asv, caps, rfl, hcs⟩ := id hsv
  obtain ⟨⟨b0, b1, b2, b3⟩, z0, z1, z2, z3⟩ := h.blk.c4
  have m0 := h.mem.cellAt c (by omega)
  rw [hv] at m0
  have hmm : P.mem.length ≤ 9223372036854775807 := by omega
  by_cases heq : s.length = t.length
  · have k1 : ((s.length : Int) == (t.length : Int)) = true := by simp [heq]
    have HA : Hid (P.apart c s = P) := Lib.hid (by unfold Parts.apart; rw [if_pos (by rw [hgd]; exact heq)])
    have H := Lib.hid h
    clear h hsv hso hct hcs hn heq
    go_enter Tryz.func76, Tryz.ntmps76
    go_wp2_with fail
    refine bodyPost_ret (results_none rfl _ _ _) rfl ⟨rfl, _, _, _, _, by rw [HA.out]; exact H.out, Only.refl _ _, Moved.same _ _, Moved.same _ _, Moved.same _ _⟩
  have k1 : ((s.length : Int) == (t.length : Int)) = false := by simp; omega
  have hop := open_any w B p M P cv _ wv kv _ ms s h hsv hso hs (by omega) (by omega) hM hsl hB
  have HT := Lib.hid heq
  have H := Lib.hid (And.intro h (And.intro hn hoff))
  obtain ⟨i0, hi0, hz00, hz01, hz02⟩ := info_parts infoInt
  clear h hsv hso hct hcs hn heq hoff
  go_enter Tryz.func76, Tryz.ntmps76
  go_wp2_with fail
  refine hop.mono ?_
  rintro e w1 ⟨rfl, mv1, wv1, hP1, o1, mo1, mo2⟩
  have hQm : (P.opens s).mem.length = P.mem.length + 1 := by simp [Parts.opens]
  have hQw : (P.opens s).wai = P.wai ++ [false] := rfl
  have hQt : (P.opens s).mem[c]? = some t := by
    show (P.mem ++ [s])[c]? = _
    rw [List.getElem?_append_left hcl]; exact ht
  have hQk : (P.opens s).work = P.work := rfl
  have hml : ms.length = P.mem.length := by have := H.out.1.mem.1; omega
  have hv1 : (ms ++ [Value.slice asv s.length caps])[c]? = some (.slice at_ t.length capt) := by rw [List.getElem?_append_left (by omega)]; exact hv
  obtain ⟨Q, hQ⟩ : ∃ Q, P.opens s = Q := ⟨_, rfl⟩
  have HQ := Lib.hid hQ
  rw [hQ] at hP1 hQm hQw hQt hQk
  obtain ⟨gm1, capm1, rfl, hg1B, hg1l⟩ := hP1.mem.form (by omega)
  obtain ⟨gw1, capw1, rfl, hw1B, hw1l⟩ := hP1.wai.form (by rw [hQw]; simp)
  obtain ⟨⟨y0, y1, y2, y3⟩, x0, x1, x2, x3⟩ := hP1.blk.c4
  have m1 := hP1.mem.cellAt c (by omega)
  rw [hv1] at m1
  have H1 := Lib.hid (And.intro hP1 (And.intro o1 (And.intro mo1 mo2)))
  have hQl : Q.mem.length ≤ 9223372036854775807 := by omega
  have hcQ : c < Q.mem.length := by omega
  clear hP1 o1 mo1 mo2 hop hQ b0 b1 b2 b3 z0 z1 z2 z3 m0 hv1
  go_wp2_with fail
  have HY := Lib.hid (And.intro y0 (And.intro y1 (And.intro y2 (And.intro y3 m1))))
  clear y1 y2 y3 m1 x0 x1 x2 x3
  go_loopw [7, 9, 32] (fun c7 _ c32 wr => ∃ j : Nat, j ≤ t.length ∧ c32 = .int .i64 j ∧ wr.ownsRow w1.heap.size 3 1 c7 ((t.take j).filter fun m => decide (Q.cls m = c)).length (natCells ((t.take j).filter fun m => decide (Q.cls m = c))) ∧ Below w1.heap.size w1 wr) (fun _ _ x _ => t.length - (intOf x).toNat)
  case atStart => exact ⟨0, by omega, rfl, World.ownsRow_nil _ _ _ _, Below.refl _ _⟩
  case round =>
    clear y0
    obtain ⟨j, hj, rfl, hown, hb⟩ := hrel
    by_cases hlt : j < t.length
    · have hPr := H1.out.1.below hb
      obtain ⟨v2, hv2, hn2, -⟩ := hPr.rows c t hQt
      rw [List.getElem?_append_left (by omega), hv] at hv2
      obtain rfl := Option.some.inj hv2
      obtain ⟨n, hx⟩ : ∃ n, t[j]? = some n := ⟨_, List.getElem?_eq_getElem hlt⟩
      have hnM := htM n (List.mem_of_getElem? hx)
      obtain ⟨a, cp, he, h0 | ⟨bs, off, rfl, hbs, hcell⟩⟩ := hn2
      · rw [h0] at hlt; cases hlt
      obtain ⟨rfl, rfl⟩ : at_ = some ⟨bs, off, none⟩ ∧ capt = cp := by simpa using he
      have m2 := hcell j n hx
      obtain ⟨gc, capc, rfl, -, -⟩ := hPr.cls.form (by omega)
      have k0 := hPr.cls.cellAt n (by omega)
      have k2 := hPr.blk.c4.1.1
      have k3 : (clsCells Q.cls M)[n]? = some (.int .i64 (Q.cls n : Int)) := by simp [clsCells, List.getElem?_range hnM]
      rw [k3] at k0
      have hMi : M ≤ 9223372036854775807 := hM
      have hfil : (t.take (j + 1)).filter (fun m => decide (Q.cls m = c)) = (t.take j).filter (fun m => decide (Q.cls m = c)) ++ if Q.cls n = c then [n] else [] := by
        have ht : t.take (j + 1) = t.take j ++ [n] := by rw [List.take_add_one, hx]; rfl
        rw [ht, List.filter_append]
        congr 1
        by_cases e : Q.cls n = c <;> simp [e]
      have HF := Lib.hid hfil
      have hfl : ((t.take j).filter fun m => decide (Q.cls m = c)).length ≤ j := Nat.le_trans (List.length_filter_le _ _) (by rw [List.length_take]; omega)
      obtain ⟨F, hF⟩ : ∃ F, (t.take j).filter (fun m => decide (Q.cls m = c)) = F := ⟨_, rfl⟩
      rw [hF] at hown hfl HF
      obtain ⟨z, hz⟩ : ∃ z : Nat, Q.cls n = z := ⟨_, rfl⟩
      rw [hz] at k0 HF
      clear hcell hz k3 he hfil hF hPr hv2
      by_cases hzc : z = c
      · have q1 : ((z : Int) == (c : Int)) = true := by simp [hzc]
        have HZ := Lib.hid hzc
        have hown2 := hown.alloc (.cells #[.int .i64 (n : Int)] 3)
        have hone := one_at (w := wr) (u := .int .i64 (n : Int)) (t := 3)
        have hbz := hb.size
        have HO := Lib.hid hown
        clear hzc hown
        go_wp2_with (at_builtin; refine wpList_append_own _ rfl _ _ 23 rfl w1.heap.size 3 i0 (.int .i64 0) 1 8 Tryz.underlying23 hi0 hz00 hz01 hz02 rfl (by decide) _ _ _ rfl hown2 ⟨wr.heap.size, 0, none⟩ 1 1 [.int .i64 (n : Int)] rfl rfl hone (fun u hu => by simp at hu; subst hu; rfl) (by unfold maxLen; omega) (by omega) (by simp; omega) ?_; intro v' w7 hown7 hgrow7 _)
        go_roundw
        case rel =>
          refine ⟨j + 1, by omega, by go_num, ?_, (hb.alloc (o := .cells #[.int .i64 (n : Int)] 3) (by omega)).grown hgrow7 (by simp; omega) (fun k e => (HO.out.lt k e).1)⟩
          rw [HF.out, if_pos HZ.out, natCells_snoc, List.length_append]
          exact hown7
        case measure => simp [intOf]; omega
      · have q1 : ((z : Int) == (c : Int)) = false := by simp; omega
        have HZ := Lib.hid hzc
        clear hzc
        go_wp2_with fail
        go_roundw
        case rel =>
          refine ⟨j + 1, by omega, by go_num, ?_, hb⟩
          rw [HF.out, if_neg HZ.out, List.append_nil]
          exact hown
        case measure => simp [intOf]; omega
    · obtain rfl : j = t.length := by omega
      have hrest : (t.take t.length).filter (fun m => decide (Q.cls m = c)) = P.restOf c s := by
        rw [List.take_length, Parts.restOf, hgd, HQ.out]
      rw [hrest] at hown
      have hrl : (P.restOf c s).length ≤ t.length := by rw [Parts.restOf, hgd]; exact List.length_filter_le _ _
      obtain ⟨R, hR⟩ : ∃ R, P.restOf c s = R := ⟨_, rfl⟩
      rw [hR] at hown hrl
      obtain ⟨ar, capr, rfl⟩ := own_shape hown
      have hPr := H1.out.1.below hb
      have hro : ∀ k, (Value.slice ar R.length capr).ownBlock = some k → k < wr.heap.size ∧ k ≠ p ∧ Off k [cv, .slice (some ⟨gm1, 0, none⟩) Q.mem.length capm1, .slice (some ⟨gw1, 0, none⟩) Q.wai.length capw1, kv] := fun k hk => by
        obtain ⟨h1, h2⟩ := hown.lt k hk
        have hlt := H1.out.1.lt
        have hne : k ∉ partS p cv (.slice (some ⟨gm1, 0, none⟩) Q.mem.length capm1) (.slice (some ⟨gw1, 0, none⟩) Q.wai.length capw1) kv := fun hm => by have := hlt k hm; omega
        rw [partS_mem] at hne
        exact ⟨h2, fun e => hne (.inl e), .mk4 (fun e => hne (.inr (.inl e))) (fun e => hne (.inr (.inr (.inl e)))) (fun e => hne (.inr (.inr (.inr (.inl e))))) (fun e => hne (.inr (.inr (.inr (.inr e)))))⟩
      obtain ⟨hP3, o3⟩ := put_memat hPr hcQ (.of_own hown) hro
      have hpar : ({ Q with mem := Q.mem.set c R } : Parts) = P.parted c s := by rw [Parts.parted, HQ.out, hR]
      rw [hpar] at hP3
      obtain ⟨⟨y0, y1, y2, y3⟩, x0, x1, x2, x3⟩ := hPr.blk.c4
      have f1 := hPr.mem.frozenAt c
      have m1 := hPr.mem.cellAt c (by omega)
      rw [List.getElem?_append_left (by omega), hv] at m1
      have hpg : p ≠ gm1 := hPr.offp.at_ (v := .slice (some ⟨gm1, 0, none⟩) Q.mem.length capm1) (by simp) rfl
      have hpg' : gm1 ≠ p := fun e => hpg e.symm
      have hgg : gm1 ≠ gw1 := (hPr.offm gm1 rfl).at_ (v := .slice (some ⟨gw1, 0, none⟩) Q.wai.length capw1) (by simp) rfl
      have hgg' : gw1 ≠ gm1 := fun e => hgg e.symm
      have hwl : c < Q.wai.length := by rw [hQw]; simp; omega
      have u0 := hPr.wai.cellAt c (by omega)
      obtain ⟨bw, hbw⟩ : ∃ bw, Q.wai[c]? = some bw := ⟨_, List.getElem?_eq_getElem hwl⟩
      rw [List.getElem?_map, hbw] at u0
      simp only [Option.map_some] at u0
      have hpw : (P.parted c s).wai = Q.wai := by rw [← hpar]
      have hpk : (P.parted c s).work = P.work := rfl
      have hpm : (P.parted c s).mem.length = P.mem.length + 1 := parted_len
      have hwb : Q.wai.length = P.mem.length + 1 := by rw [hQw, List.length_append, hlen]; rfl
      have hb3 : B ≤ (wr.setCell ⟨gm1, c, none⟩ (.slice ar R.length capr)).heap.size := by have := hb.size; have := H1.out.2.1.size; simp; omega
      have hwi : Q.wai.length ≤ 9223372036854775807 := by omega
      have hR9 : R.length ≤ 9223372036854775807 := by omega
      have hs9 : s.length ≤ 9223372036854775807 := by omega
      have fin : ∀ (w5 : World) (P' : Parts) (kv' : Value), P.apart c s = P' → PartsAt w5 B p M P' cv (.slice (some ⟨gm1, 0, none⟩) Q.mem.length capm1) (.slice (some ⟨gw1, 0, none⟩) Q.wai.length capw1) kv' ((ms ++ [Value.slice asv s.length caps]).set c (Value.slice ar R.length capr)) →
          Only (partS p cv (.slice (some ⟨gm1, 0, none⟩) Q.mem.length capm1) (.slice (some ⟨gw1, 0, none⟩) Q.wai.length capw1) kv) (wr.setCell ⟨gm1, c, none⟩ (.slice ar R.length capr)) w5 → Moved (wr.setCell ⟨gm1, c, none⟩ (.slice ar R.length capr)) kv kv' →
          ∃ mv' wv' kv' ms', PartsAt w5 B p M (P.apart c s) cv mv' wv' kv' ms' ∧ Only (partS p cv (.slice (some ⟨gm, 0, none⟩) P.mem.length capm) wv kv) w w5 ∧ Moved w (.slice (some ⟨gm, 0, none⟩) P.mem.length capm) mv' ∧ Moved w wv wv' ∧ Moved w kv kv' := fun w5 P' kv' e1 h5 h6 h7 => by
        have hz1 := H1.out.2.1.size
        have hz2 := hb.size
        have new : ∀ {v v' : Value} {k : Nat}, Moved w v v' → v'.ownBlock = some k → v.ownBlock = some k ∨ w.heap.size ≤ k := fun {v v' k} hmv hk => by
          rcases hmv with e | ⟨g, e, hg⟩
          · exact .inl (e ▸ hk)
          · rw [e] at hk
            obtain rfl := Option.some.inj hk
            exact .inr hg
        refine ⟨_, _, kv', _, e1 ▸ h5, ?_, H1.out.2.2.1, H1.out.2.2.2, ?_⟩
        · have q1 : Only (partS p cv (.slice (some ⟨gm, 0, none⟩) P.mem.length capm) wv kv) w wr := H1.out.2.1.moved (Only.of_below (S := []) hb) (by simp)
          have q2 := q1.moved o3 fun k hk => by
            have hk' : k = gm1 := by simpa using hk
            rw [hk']
            rcases new H1.out.2.2.1 (k := gm1) rfl with e | e
            · exact .inl (partS_mem.2 (.inr (.inr (.inl e))))
            · exact .inr e
          refine q2.moved h6 fun k hk => ?_
          rcases partS_mem.1 hk with e | e | e | e | e
          · exact .inl (partS_mem.2 (.inl e))
          · exact .inl (partS_mem.2 (.inr (.inl e)))
          · rcases new H1.out.2.2.1 e with e | e
            · exact .inl (partS_mem.2 (.inr (.inr (.inl e))))
            · exact .inr e
          · rcases new H1.out.2.2.2 e with e | e
            · exact .inl (partS_mem.2 (.inr (.inr (.inr (.inl e)))))
            · exact .inr e
          · exact .inl (partS_mem.2 (.inr (.inr (.inr (.inr e)))))
        · exact (Moved.same w kv).trans h7 (by simp; omega)
      have FIN := Lib.hid fin
      have w1c := wait_any (wr.setCell ⟨gm1, c, none⟩ (.slice ar R.length capr)) B p M (P.parted c s) cv _ _ kv _ hP3 c (by rw [hpw]; exact hwl) (by rw [hpk]; exact hk) hb3
      have w1n := wait_any (wr.setCell ⟨gm1, c, none⟩ (.slice ar R.length capr)) B p M (P.parted c s) cv _ _ kv _ hP3 P.mem.length (by rw [hpw]; omega) (by rw [hpk]; exact hk) hb3
      have hap : P.apart c s = if (P.parted c s).wai.getD c false = true ∨ s.length ≤ R.length then (P.parted c s).wait P.mem.length else (P.parted c s).wait c := by
        rw [Parts.apart, if_neg (by rw [hgd]; exact HT.out), hR]
      have hbd : (P.parted c s).wai.getD c false = bw := by rw [hpw, List.getD_eq_getElem?_getD, hbw]; rfl
      rw [hbd] at hap
      have HAP := Lib.hid hap
      clear hP3 o3 hPr hro fin hap hbd hpar hrest hbw
      cases bw with
      | true =>
        go_wp2_with fail
        refine w1n.mono ?_
        rintro e w5 ⟨rfl, kv', h5, h6, h7⟩
        go_wp2_with fail
        go_end0
        exact ⟨rfl, FIN.out _ _ _ (by rw [HAP.out, if_pos (by simp)]) h5 h6 h7⟩
      | false =>
        by_cases hle : s.length ≤ R.length
        · have g1 : decide (s.length ≤ R.length) = true := decide_eq_true hle
          have HLE := Lib.hid hle
          clear hle
          go_wp2_with fail
          refine w1n.mono ?_
          rintro e w5 ⟨rfl, kv', h5, h6, h7⟩
          go_wp2_with fail
          go_end0
          exact ⟨rfl, FIN.out _ _ _ (by rw [HAP.out, if_pos (.inr HLE.out)]) h5 h6 h7⟩
        · have g1 : decide (s.length ≤ R.length) = false := decide_eq_false hle
          have HLE := Lib.hid hle
          clear hle
          go_wp2_with fail
          refine w1c.mono ?_
          rintro e w5 ⟨rfl, kv', h5, h6, h7⟩
          go_wp2_with fail
          go_end0
          exact ⟨rfl, FIN.out _ _ _ (by rw [HAP.out, if_neg (by rintro (h1 | h1); cases h1; exact HLE.out h1)]) h5 h6 h7⟩
end Go.Proofs.YtmmlakheimfijaaGreatDoor
namespace Go.Proofs.YtmmlakheimfijaaGreatDoor
set_option linter.unusedVariables false
set_option linter.unusedSimpArgs false
open Go.RowKit Go.Maps Go.Sort Go.ChangeShapes Go.WideShapes

/-- the blocks of which N holds are as they were -/
def Same (N : Nat → Prop) (w w' : World) : Prop := w.heap.size ≤ w'.heap.size ∧ ∀ k, k < w.heap.size → N k → w'.heap[k]? = w.heap[k]?
theorem Same.of_only {N : Nat → Prop} {w w' : World} {S : List Nat} (h : Only S w w') (hN : ∀ k ∈ S, ¬ N k) : Same N w w' := ⟨h.size, fun k hk hn => h.block k hk fun hm => hN k hm hn⟩
theorem Same.of_below {N : Nat → Prop} {w w' : World} {B : Nat} (h : Below B w w') (hN : ∀ k, N k → k < B) : Same N w w' := ⟨h.size, fun k _ hn => h.block k (hN k hn)⟩
theorem Same.trans {N : Nat → Prop} {a b c : World} (h : Same N a b) (h' : Same N b c) : Same N a c := ⟨Nat.le_trans h.1 h'.1, fun k hk hn => (h'.2 k (Nat.lt_of_lt_of_le hk h.1) hn).trans (h.2 k hk hn)⟩
theorem Same.less {N N' : Nat → Prop} {w w' : World} (h : Same N w w') (hN : ∀ k, N' k → N k) : Same N' w w' := ⟨h.1, fun k hk hn => h.2 k hk (hN k hn)⟩
theorem NatsAt.same {w w' : World} {v : Value} {l : List Nat} {N : Nat → Prop} (h : NatsAt w v l) (hs : Same N w w') (hn : ∀ g, v.ownBlock = some g → N g) : NatsAt w' v l := by
  obtain ⟨a, cap, rfl, h0 | ⟨b, off, rfl, hb, hc⟩⟩ := h
  · exact ⟨a, cap, rfl, .inl h0⟩
  · refine ⟨_, cap, rfl, .inr ⟨b, off, rfl, by have := hs.1; omega, fun j x hj => ?_⟩⟩
    exact (World.cell?_of_block (hs.2 b hb (hn b rfl))).trans (hc j x hj)
/-- a slice of slices of numbers that is read; N holds of its blocks -/
def RowsAt (w : World) (v : Value) (ll : List (List Nat)) (N : Nat → Prop) : Prop :=
  ∃ a cap, v = .slice a ll.length cap ∧ (ll = [] ∨ ∃ b off, a = some ⟨b, off, none⟩ ∧ b < w.heap.size ∧ N b ∧ ∀ (j : Nat) (l : List Nat), ll[j]? = some l → ∃ u, w.cell? ⟨b, off + j, none⟩ = some u ∧ NatsAt w u l ∧ ∀ g, u.ownBlock = some g → g < w.heap.size ∧ N g)
theorem RowsAt.same {w w' : World} {v : Value} {ll : List (List Nat)} {N : Nat → Prop} (h : RowsAt w v ll N) (hs : Same N w w') : RowsAt w' v ll N := by
  obtain ⟨a, cap, rfl, h0 | ⟨b, off, rfl, hb, hN, hc⟩⟩ := h
  · exact ⟨a, cap, rfl, .inl h0⟩
  · refine ⟨_, cap, rfl, .inr ⟨b, off, rfl, by have := hs.1; omega, hN, fun j l hj => ?_⟩⟩
    obtain ⟨u, hu, hl, hg⟩ := hc j l hj
    exact ⟨u, (World.cell?_of_block (hs.2 b hb hN)).trans hu, hl.same hs fun g e => (hg g e).2, fun g e => ⟨Nat.lt_of_lt_of_le (hg g e).1 hs.1, (hg g e).2⟩⟩
theorem RowsAt.less {w : World} {v : Value} {ll : List (List Nat)} {N N' : Nat → Prop} (h : RowsAt w v ll N) (hN : ∀ k, N k → N' k) : RowsAt w v ll N' := by
  obtain ⟨a, cap, rfl, h0 | ⟨b, off, rfl, hb, hNb, hc⟩⟩ := h
  · exact ⟨a, cap, rfl, .inl h0⟩
  · exact ⟨_, cap, rfl, .inr ⟨b, off, rfl, hb, hN b hNb, fun j l hj => by
      obtain ⟨u, hu, hl, hg⟩ := hc j l hj
      exact ⟨u, hu, hl, fun g e => ⟨(hg g e).1, hN g (hg g e).2⟩⟩⟩⟩
theorem RowsAt.bound {w : World} {v : Value} {ll : List (List Nat)} {N : Nat → Prop} (h : RowsAt w v ll N) {H : Nat} (hH : w.heap.size ≤ H) : RowsAt w v ll fun k => N k ∧ k < H := by
  obtain ⟨a, cap, rfl, h0 | ⟨b, off, rfl, hb, hNb, hc⟩⟩ := h
  · exact ⟨a, cap, rfl, .inl h0⟩
  · exact ⟨_, cap, rfl, .inr ⟨b, off, rfl, hb, ⟨hNb, by omega⟩, fun j l hj => by
      obtain ⟨u, hu, hl, hg⟩ := hc j l hj
      exact ⟨u, hu, hl, fun g e => ⟨(hg g e).1, (hg g e).2, by have := (hg g e).1; omega⟩⟩⟩⟩
/-- a row, and what is in it -/
theorem RowsAt.get {w : World} {v : Value} {ll : List (List Nat)} {N : Nat → Prop} (h : RowsAt w v ll N) {n : Nat} {l : List Nat} (hn : ll[n]? = some l) :
    ∃ b off cap a c, v = .slice (some ⟨b, off, none⟩) ll.length cap ∧ w.cell? ⟨b, off + n, none⟩ = some (.slice a l.length c) ∧ NatsAt w (.slice a l.length c) l := by
  obtain ⟨a, cap, rfl, h0 | ⟨b, off, rfl, hb, hNb, hc⟩⟩ := h
  · rw [h0] at hn; cases hn
  · obtain ⟨u, hu, ⟨a, c, rfl, hl⟩, hg⟩ := hc n l hn
    exact ⟨b, off, cap, a, c, rfl, hu, a, c, rfl, hl⟩
theorem NatsAt.get {w : World} {a : Option Addr} {len c : Nat} {l : List Nat} (h : NatsAt w (.slice a len c) l) {k x : Nat} (hk : l[k]? = some x) : ∃ b off, a = some ⟨b, off, none⟩ ∧ w.cell? ⟨b, off + k, none⟩ = some (.int .i64 (x : Int)) := by
  obtain ⟨a', c', he, h0 | ⟨b, off, rfl, hb, hc⟩⟩ := h
  · rw [h0] at hk; cases hk
  · exact ⟨b, off, (Value.slice.inj he).1, hc k x hk⟩
theorem NatsAt.len {w : World} {a : Option Addr} {len c : Nat} {l : List Nat} (h : NatsAt w (.slice a len c) l) : len = l.length := by
  obtain ⟨a', c', he, -⟩ := h
  exact (Value.slice.inj he).2.1
def Rows3At (w : World) (v : Value) (lll : List (List (List Nat))) (N : Nat → Prop) : Prop :=
  ∃ a cap, v = .slice a lll.length cap ∧ (lll = [] ∨ ∃ b off, a = some ⟨b, off, none⟩ ∧ b < w.heap.size ∧ N b ∧ ∀ (j : Nat) (ll : List (List Nat)), lll[j]? = some ll → ∃ u, w.cell? ⟨b, off + j, none⟩ = some u ∧ RowsAt w u ll N)
theorem Rows3At.same {w w' : World} {v : Value} {lll : List (List (List Nat))} {N : Nat → Prop} (h : Rows3At w v lll N) (hs : Same N w w') : Rows3At w' v lll N := by
  obtain ⟨a, cap, rfl, h0 | ⟨b, off, rfl, hb, hN, hc⟩⟩ := h
  · exact ⟨a, cap, rfl, .inl h0⟩
  · refine ⟨_, cap, rfl, .inr ⟨b, off, rfl, by have := hs.1; omega, hN, fun j ll hj => ?_⟩⟩
    obtain ⟨u, hu, hl⟩ := hc j ll hj
    exact ⟨u, (World.cell?_of_block (hs.2 b hb hN)).trans hu, hl.same hs⟩

/-! rows of the call's own, that grow one by one -/
structure Inner (w : World) (B g cap many : Nat) (us : List Value) (F : Nat → List Nat) : Prop where
  row : w.ownsRow B 23 1 (.slice (some ⟨g, 0, none⟩) many cap) many us
  own : ∀ m, m < many → ∃ u, us[m]? = some u ∧ w.ownsRow B 3 1 u (F m).length (natCells (F m))
  apart : ∀ (m m' : Nat) (u u' : Value), m ≠ m' → us[m]? = some u → us[m']? = some u' → ∀ k, u.ownBlock = some k → u'.ownBlock ≠ some k
  off : ∀ (m : Nat) (u : Value), us[m]? = some u → u.ownBlock ≠ some g
theorem Inner.start {w : World} {B g cap many : Nat} {us : List Value} (h : w.ownsRow B 23 1 (.slice (some ⟨g, 0, none⟩) many cap) many us) (hu : ∀ (m : Nat) (u : Value), us[m]? = some u → u = .slice none 0 0) : Inner w B g cap many us fun _ => [] := by
  refine ⟨h, fun m hm => ?_, fun m m' u u' _ h1 _ k hk => ?_, fun m u h1 hk => ?_⟩
  · have hl : us.length = many := by have := h.1; omega
    have h1 : us[m]? = some (us[m]'(by omega)) := List.getElem?_eq_getElem (by omega)
    refine ⟨_, h1, ?_⟩
    rw [hu m _ h1]
    exact World.ownsRow_nil _ _ _ _
  · rw [hu m u h1] at hk; cases hk
  · rw [hu m u h1] at hk; cases hk
/-- one row got one more -/
theorem Inner.step {w w' : World} {B g cap many m : Nat} {us : List Value} {F : Nat → List Nat} {v x : Value} {n : Nat} (h : Inner w B g cap many us F) (hm : m < many) (hv : us[m]? = some v) (hz : w.heap.size ≤ w'.heap.size)
    (hs : ∀ k, k < w.heap.size → k ≠ g → v.ownBlock ≠ some k → w'.heap[k]? = w.heap[k]?) (hrow : w'.ownsRow B 23 1 (.slice (some ⟨g, 0, none⟩) many cap) many (us.set m x))
    (hx : w'.ownsRow B 3 1 x ((F m).length + 1) (natCells (F m) ++ [.int .i64 (n : Int)])) (hat : ∀ k, x.ownBlock = some k → v.ownBlock = some k ∨ w.heap.size ≤ k) :
    Inner w' B g cap many (us.set m x) fun i => if i = m then F m ++ [n] else F i := by
  have hgl : g < w.heap.size := own_lt h.row rfl
  have lt : ∀ (i : Nat) (u : Value), us[i]? = some u → ∀ k, u.ownBlock = some k → k < w.heap.size := fun i u hu k hk => by
    have hl : us.length = many := by have := h.row.1; omega
    have hi : i < many := by have := (List.getElem?_eq_some_iff.1 hu).1; omega
    obtain ⟨u', h1, h2⟩ := h.own i hi
    obtain rfl := Option.some.inj (h1.symm.trans hu)
    exact own_lt h2 hk
  have get : ∀ (i : Nat) (u : Value), (us.set m x)[i]? = some u → (i = m ∧ u = x) ∨ (i ≠ m ∧ us[i]? = some u) := fun i u hu => by
    rw [List.getElem?_set] at hu
    by_cases e : m = i
    · subst e
      rw [if_pos rfl] at hu
      split at hu
      · exact .inl ⟨rfl, (Option.some.inj hu).symm⟩
      · cases hu
    · rw [if_neg e] at hu
      exact .inr ⟨fun e2 => e e2.symm, hu⟩
  have xg : x.ownBlock ≠ some g := fun e => by
    rcases hat g e with h1 | h1
    · exact h.off m v hv h1
    · omega
  refine ⟨hrow, fun i hi => ?_, fun i j u u' hij h1 h2 k hk hk' => ?_, fun i u h1 hk => ?_⟩
  · by_cases e : i = m
    · subst e
      refine ⟨x, ?_, ?_⟩
      · have hl : us.length = many := by have := h.row.1; omega
        rw [List.getElem?_set, if_pos rfl, if_pos (by omega)]
      · simp only [if_pos]
        rw [natCells_snoc, List.length_append]
        exact hx
    · obtain ⟨u, h1, h2⟩ := h.own i hi
      refine ⟨u, by rw [List.getElem?_set, if_neg (fun e2 => e e2.symm)]; exact h1, ?_⟩
      rw [if_neg e]
      refine ⟨h2.1, ?_⟩
      rcases h2.2 with h0 | ⟨g', cap', cur, rfl, hb, hg, h3⟩
      · exact .inl h0
      · exact .inr ⟨g', cap', cur, rfl, hb, (hs g' (lt i _ h1 g' rfl) (fun e2 => h.off i _ h1 (congrArg some e2)) (fun e2 => h.apart i m _ v e h1 hv g' rfl e2)).trans hg, h3⟩
  · rcases get i u h1 with ⟨rfl, rfl⟩ | ⟨e1, h1'⟩
    · rcases get j u' h2 with ⟨rfl, rfl⟩ | ⟨e2, h2'⟩
      · exact hij rfl
      · rcases hat k hk with h3 | h3
        · exact h.apart i j v u' hij hv h2' k h3 hk'
        · have := lt j u' h2' k hk'; omega
    · rcases get j u' h2 with ⟨rfl, rfl⟩ | ⟨e2, h2'⟩
      · rcases hat k hk' with h3 | h3
        · exact h.apart i j u v hij h1' hv k hk h3
        · have := lt i u h1' k hk; omega
      · exact h.apart i j u u' hij h1' h2' k hk hk'
  · rcases get i u h1 with ⟨rfl, rfl⟩ | ⟨e1, h1'⟩
    · exact xg hk
    · exact h.off i u h1' hk
theorem Inner.rows {w : World} {B g cap many : Nat} {us : List Value} {F : Nat → List Nat} {N : Nat → Prop} (h : Inner w B g cap many us F) (hN : ∀ k, B ≤ k → k < w.heap.size → N k) : RowsAt w (.slice (some ⟨g, 0, none⟩) many cap) ((List.range many).map F) N := by
  refine ⟨_, cap, by simp, .inr ⟨g, 0, rfl, own_lt h.row rfl, hN g (h.row.lt g rfl).1 (h.row.lt g rfl).2, fun j l hj => ?_⟩⟩
  have hjm : j < many := by have := (List.getElem?_eq_some_iff.1 hj).1; simpa using this
  rw [List.getElem?_map, List.getElem?_range hjm] at hj
  obtain rfl := Option.some.inj hj
  obtain ⟨u, h1, h2⟩ := h.own j hjm
  refine ⟨u, ?_, .of_own h2, fun k hk => ⟨(h2.lt k hk).2, hN k (h2.lt k hk).1 (h2.lt k hk).2⟩⟩
  rw [Nat.zero_add, h.row.cellAt j (by omega), h1]
end Go.Proofs.YtmmlakheimfijaaGreatDoor
namespace Go.Proofs.YtmmlakheimfijaaGreatDoor
set_option linter.unusedVariables false
set_option linter.unusedSimpArgs false
open Go.RowKit Go.Maps Go.Sort Go.ChangeShapes Go.WideShapes

def nxtF (nxt : List (List Nat)) (n k : Nat) : Nat := (nxt.getD n []).getD k 0
structure NxtOk (nxt : List (List Nat)) (wide : Nat) : Prop where
  pos : 0 < nxt.length
  row : ∀ (n : Nat) (l : List Nat), nxt[n]? = some l → l.length = wide ∧ ∀ x ∈ l, x < nxt.length
def aheadL (nxt : List (List Nat)) (R : List Nat) (k : Nat) : List (List Nat) := (List.range nxt.length).map fun m => R.filter fun n => decide (nxtF nxt n k = m)
theorem NatsAt.below {w w' : World} {v : Value} {l : List Nat} (h : NatsAt w v l) (hb : Below w.heap.size w w') : NatsAt w' v l := h.only (Only.of_below (S := []) hb) (by simp)
theorem RowsAt.below {w w' : World} {v : Value} {ll : List (List Nat)} (h : RowsAt w v ll fun _ => True) (hb : Below w.heap.size w w') : RowsAt w' v ll fun _ => True := by
  have h1 := h.bound (Nat.le_refl w.heap.size)
  exact (h1.same (Same.of_below hb fun k hk => hk.2)).less fun _ _ => trivial
theorem infoRows : (Tryz.prog.info? 24).map (fun i => (i.zero, i.size, i.bytes)) = some (some (.slice none 0 0), 1, 24) := by kernel_rfl

theorem own_under {w w' : World} {B' B : Nat} {e : TypeId} {size n : Nat} {v : Value} {xs : List Value} (h : w.ownsRow B e size v n xs) (hb : Below B' w w') (hlt : ∀ g, v.ownBlock = some g → g < B') : w'.ownsRow B e size v n xs := by
  refine ⟨h.1, ?_⟩
  rcases h.2 with h0 | ⟨g, cap, cur, rfl, hB, hg, h3⟩
  · exact .inl h0
  · exact .inr ⟨g, cap, cur, rfl, hB, (hb.block g (hlt g rfl)).trans hg, h3⟩

set_option maxRecDepth 100000 in
set_option maxHeartbeats 8000000 in
theorem ahead_any (w : World) (st fv bv nv rv : Value) (nxt : List (List Nat)) (R : List Nat) (wide : Nat) (hn : RowsAt w nv nxt fun _ => True) (hr : NatsAt w rv R) (ho : NxtOk nxt wide) (hR : ∀ n ∈ R, n < nxt.length) (hl1 : nxt.length ≤ 1000000) (hl2 : wide ≤ 1000000) (hl3 : R.length ≤ 1000000) :
    Calls Tryz.prog 74 #[.agg #[st, fv, bv, nv], rv] w fun e w' => ∃ v, e = .returned v ∧ Rows3At w' v ((List.range wide).map (aheadL nxt R)) (fun b => w.heap.size ≤ b ∧ b < w'.heap.size) ∧ Below w.heap.size w w' := by
  have hbw := (Below.refl w.heap.size w).alloc (Nat.le_refl _) (.cells #[st, fv, bv, nv] 26)
  have hq := Blk.new w 26 #[st, fv, bv, nv]
  obtain ⟨l0, hl0⟩ : ∃ l0, nxt[0]? = some l0 := ⟨_, List.getElem?_eq_getElem ho.pos⟩
  obtain ⟨b0, off0, cap0, a0, c0, rfl, m0, hn0⟩ := hn.get hl0
  have hlw := (ho.row 0 l0 hl0).1
  rw [hlw, Nat.add_zero] at m0
  have m1 := (hbw.cell (p := ⟨b0, off0, none⟩) (World.block_lt_of_cell? w _ m0)).trans m0
  obtain ⟨⟨y0, y1, y2, y3⟩, -⟩ := hq.c4
  obtain ⟨i0, hi0, hz00, hz01, hz02⟩ := info_parts infoInt
  obtain ⟨j0, hj0, hy00, hy01, hy02⟩ := info_parts infoRow
  obtain ⟨k0, hk0, hx00, hx01, hx02⟩ := info_parts infoRows
  obtain ⟨ar, cr, rfl, hrc⟩ := id hr
  have hpos := ho.pos
  have hl9 : nxt.length ≤ 9223372036854775807 := by omega
  have H := Lib.hid (And.intro hn (And.intro hr (And.intro hbw hq)))
  clear hn hr hrc hbw hq hn0 m0
  go_enter Tryz.func74, Tryz.ntmps74
  go_wp2_with (at_make; refine wpList_make_full _ rfl _ _ 109 rfl w.heap.size 24 k0 (.slice none 0 0) 1 Tryz.underlying109 hk0 hx00 hx01 .i64 .i64 wide wide wide rfl rfl rfl rfl (by rw [hx02]; omega) (by unfold maxLen; omega) (by simp) ?_; intro w1 hown1 hgrow1)
  have hB1 : Below w.heap.size w w1 := H.out.2.2.1.grown hgrow1 (by simp) (fun k e => by cases e)
  have hq1 := H.out.2.2.2.grown hgrow1 (by simp)
  have hz1 : w.heap.size + 1 < w1.heap.size := by have := own_lt hown1 rfl; simp at this; omega
  have hgo : (w.alloc (.cells #[st, fv, bv, .slice (some ⟨b0, off0, none⟩) nxt.length cap0] 26)).heap.size = w.heap.size + 1 := by simp
  rw [hgo] at hown1
  clear hgrow1 m1 y0 y1 y2 y3 hgo
  have HB := Lib.hid (And.intro hB1 hq1)
  clear hB1 hq1
  go_loopw [6, 8, 9, 18] (fun _ _ _ c18 wr => ∃ (k : Nat) (vs : List Value), k ≤ wide ∧ c18 = .int .i64 k ∧ wr.ownsRow w.heap.size 24 1 (.slice (some ⟨w.heap.size + 1, 0, none⟩) wide wide) wide vs ∧ Hid (∀ j, j < k → ∃ u, vs[j]? = some u ∧ RowsAt wr u (aheadL nxt R j) fun b => b ≠ w.heap.size + 1 ∧ w.heap.size ≤ b) ∧ Hid (Below w.heap.size w wr ∧ Blk wr w.heap.size 26 #[st, fv, bv, .slice (some ⟨b0, off0, none⟩) nxt.length cap0]) ∧ w.heap.size + 1 < wr.heap.size) (fun _ _ _ x _ => wide - (intOf x).toNat)
  case atStart => exact ⟨0, _, by omega, rfl, hown1, Lib.hid (fun j hj => by omega), HB, hz1⟩
  case round =>
    clear hown1 HB hz1
    obtain ⟨k, vs, hk, rfl, hown, hdone, hbb, hz⟩ := hrel
    by_cases hkw : k < wide
    · have q1 : decide (k < wide) = true := decide_eq_true hkw
      have y3 := hbb.out.2.c4.1.2.2.2
      have hvl : vs.length = wide := by have := hown.1; omega
      have u0 := hown.cellAt k (by omega)
      rw [List.getElem?_eq_getElem (by omega)] at u0
      have u1 := hown.frozenAt k
      go_wp2_with (at_make; refine wpList_make_full _ rfl _ _ 24 rfl wr.heap.size 23 j0 (.slice none 0 0) 1 Tryz.underlying24 hj0 hy00 hy01 .i64 .i64 nxt.length nxt.length nxt.length rfl rfl rfl rfl (by rw [hy02]; omega) (by unfold maxLen; omega) (Nat.le_refl _) ?_; intro w2 hown2 hgrow2; have e0 := (hown.kept hgrow2 (.inr (by simp [Value.ownBlock]))).cellAt k (by omega); have e1 := (hown.kept hgrow2 (.inr (by simp [Value.ownBlock]))).frozenAt k; rw [List.getElem?_eq_getElem (by omega)] at e0)
      have o2 : Only [w.heap.size + 1] wr (w2.setCell ⟨w.heap.size + 1, k, none⟩ (.slice (some ⟨wr.heap.size, 0, none⟩) nxt.length nxt.length)) := ((only_grown hgrow2).more (by simp)).trans (only_set1 w2 ⟨w.heap.size + 1, k, none⟩ _)
      have hst := ((hown.kept hgrow2 (.inr (by simp [Value.ownBlock]))).stored k (.slice (some ⟨wr.heap.size, 0, none⟩) nxt.length nxt.length)).1
      have hin : Inner (w2.setCell ⟨w.heap.size + 1, k, none⟩ (.slice (some ⟨wr.heap.size, 0, none⟩) nxt.length nxt.length)) wr.heap.size wr.heap.size nxt.length nxt.length _ fun _ => [] :=
        Inner.start (own_set hown2 (a := ⟨w.heap.size + 1, k, none⟩) _ (by simp [Value.ownBlock]; omega)) fun m u hu => by
          have hu : (madeCells #[Value.slice none 0 0] (nxt.length * 1)).toList[m]? = some u := hu
          rw [toList_madeCells_one] at hu
          exact (List.mem_replicate.1 (List.mem_of_getElem? hu)).2
      have hcell := hst.cellAt k (by omega)
      rw [List.getElem?_set, if_pos rfl, if_pos (by omega)] at hcell
      have hdone2 : ∀ j, j < k → ∃ u, (vs.set k (.slice (some ⟨wr.heap.size, 0, none⟩) nxt.length nxt.length))[j]? = some u ∧ RowsAt (w2.setCell ⟨w.heap.size + 1, k, none⟩ (.slice (some ⟨wr.heap.size, 0, none⟩) nxt.length nxt.length)) u (aheadL nxt R j) fun b => (b ≠ w.heap.size + 1 ∧ w.heap.size ≤ b) ∧ b < wr.heap.size := fun j hj => by
        obtain ⟨u, h1, h2⟩ := hdone.out j hj
        exact ⟨u, by rw [List.getElem?_set, if_neg (by omega)]; exact h1, (h2.bound (Nat.le_refl _)).same (Same.of_only o2 fun b hb hn => hn.1.1 (by simpa using hb))⟩
      have hbw2 := hbb.out.1.trans (o2.below (B := w.heap.size) hbb.out.1.size (by simp))
      have hblk2 := hbb.out.2.only o2 (by simp)
      have hz2 := o2.size
      have HW := Lib.hid (And.intro hst (And.intro hdone2 (And.intro hbw2 (And.intro hblk2 hcell))))
      have HI := Lib.hid hin
      clear hst hdone2 hbw2 hblk2 hcell hin o2 hown2 hgrow2 e0 e1 u0 u1 y3 hown hdone hbb
      generalize w2.setCell ⟨w.heap.size + 1, k, none⟩ (.slice (some ⟨wr.heap.size, 0, none⟩) nxt.length nxt.length) = W1 at *
      obtain ⟨gi, hgi⟩ : ∃ gi, wr.heap.size = gi := ⟨_, rfl⟩
      rw [hgi] at HW HI hz hz2
      simp only [hgi]
      clear hgi
      go_loopw [8, 9, 30] (fun _ _ c30 wi => ∃ (j : Nat) (us : List Value), j ≤ R.length ∧ c30 = .int .i64 j ∧ Hid (Inner wi gi gi nxt.length nxt.length us fun m => (R.take j).filter fun n => decide (nxtF nxt n k = m)) ∧ Hid (Below gi W1 wi)) (fun _ _ c _ => R.length - (intOf c).toNat)
      case atStart => exact ⟨0, _, by omega, rfl, by simpa using HI, Lib.hid (Below.refl _ _)⟩
      case round =>
        clear HI
        obtain ⟨j, us, hj, rfl, hI, hb⟩ := hrel
        by_cases hlt : j < R.length
        · have q2 : decide (j < R.length) = true := decide_eq_true hlt
          obtain ⟨n, hx⟩ : ∃ n, R[j]? = some n := ⟨_, List.getElem?_eq_getElem hlt⟩
          have hnM := hR n (List.mem_of_getElem? hx)
          have hbw : Below w.heap.size w wr := HW.out.2.2.1.trans (hb.out.mono (by omega))
          obtain ⟨bR, offR, rfl, mR⟩ := (H.out.2.1.below hbw).get hx
          obtain ⟨l, hl⟩ : ∃ l, nxt[n]? = some l := ⟨_, List.getElem?_eq_getElem hnM⟩
          obtain ⟨b1, off1, cap1, a1, c1, he, m2, hn1⟩ := (H.out.1.below hbw).get hl
          obtain ⟨⟨rfl, rfl⟩, rfl⟩ : (b0 = b1 ∧ off0 = off1) ∧ cap0 = cap1 := by simpa using he
          obtain ⟨hll, hlin⟩ := ho.row n l hl
          obtain ⟨m, hm⟩ : ∃ m, l[k]? = some m := ⟨_, List.getElem?_eq_getElem (by omega)⟩
          have hmM := hlin m (List.mem_of_getElem? hm)
          obtain ⟨b3, off3, rfl, m3⟩ := hn1.get hm
          have hmf : nxtF nxt n k = m := by simp [nxtF, hl, hm]
          obtain ⟨u, hu, hur⟩ := hI.out.own m hmM
          have e2 : wr.cell? ⟨w.heap.size + 1, k, none⟩ = some (.slice (some ⟨gi, 0, none⟩) nxt.length nxt.length) := (hb.out.cell (p := ⟨w.heap.size + 1, k, none⟩) hz).trans HW.out.2.2.2.2
          have e3 := hI.out.row.cellAt m (by omega)
          rw [hu] at e3
          have e4 := hI.out.row.frozenAt m
          have y3 := (HW.out.2.2.2.1.below hb.out (by omega)).c4.1.2.2.2
          rw [hll] at m2
          have hwd : wide ≤ 9223372036854775807 := by omega
          have hHX := Lib.hid (And.intro hx hmf)
          have HU := Lib.hid (And.intro hu hur)
          clear hx hl hll hlin hm hn1 hmf hbw he hu hur
          obtain ⟨Fm, hFm⟩ : ∃ Fm, (R.take j).filter (fun n => decide (nxtF nxt n k = m)) = Fm := ⟨_, rfl⟩
          have hFl : Fm.length ≤ j := by rw [← hFm]; exact Nat.le_trans (List.length_filter_le _ _) (by rw [List.length_take]; omega)
          rw [hFm] at HU
          have HFM := Lib.hid hFm
          clear hFm
          have hown5 : ((wr.alloc (.cells #[.int .i64 (n : Int)] 3)).drew).ownsRow gi 3 1 u Fm.length (natCells Fm) := HU.out.2.alloc _
          have hgl : gi < wr.heap.size := own_lt hI.out.row rfl
          have hne1 : ¬ gi = wr.heap.size := by omega
          have hne2 : ¬ w.heap.size + 1 = wr.heap.size := by omega
          have hne3 : ¬ wr.heap.size = gi := by omega
          have hal := (Below.refl wr.heap.size wr).alloc (Nat.le_refl _) (.cells #[.int .i64 (n : Int)] 3)
          have e7 := (hal.cell (p := ⟨w.heap.size + 1, k, none⟩) (by show w.heap.size + 1 < wr.heap.size; omega)).trans e2
          have hun : some (w.heap.size + 1) ≠ u.ownBlock := fun e => by have := (HU.out.2.lt _ e.symm).1; omega
          have e8 := (hal.cell (p := ⟨gi, m, none⟩) hgl).trans e3
          have e9 : (wr.alloc (.cells #[.int .i64 (n : Int)] 3)).drew.cell? ⟨w.heap.size + 1, k, none⟩ = _ := e7
          have e10 : (wr.alloc (.cells #[.int .i64 (n : Int)] 3)).drew.cell? ⟨gi, m, none⟩ = _ := e8
          clear hal
          have hone := one_at (w := wr) (u := .int .i64 (n : Int)) (t := 3)
          have hone' : ∀ j v, [Value.int .i64 (n : Int)][j]? = some v → ((wr.alloc (.cells #[.int .i64 (n : Int)] 3)).drew).cell? ((⟨wr.heap.size, 0, none⟩ : Addr).add j) = some v := hone
          go_wp2_with fail
          go_region_law (refine step_append_lies _ rfl (.tmp 53) (.tmp 55) 23 rfl gi 3 i0 (.int .i64 0) 1 8 Tryz.underlying23 hi0 hz00 hz01 hz02 rfl (by decide) _ _ _ (by simp [Act.eval, Act.put]) hown5 ⟨wr.heap.size, 0, none⟩ 1 1 [.int .i64 (n : Int)] (by simp [Act.eval, Act.put]) rfl hone' (fun u hu => by simp at hu; subst hu; rfl) (by decide) (by unfold maxLen; omega) (by omega) (by have := hb.out.size; simp; omega) _ rfl ?_; intro g cap w5 hown6 hgrow6 hat6 hlt6; have hrow5 : w5.ownsRow gi 23 1 (.slice (some ⟨gi, 0, none⟩) nxt.length nxt.length) nxt.length us := World.ownsRow.kept (w := (wr.alloc (.cells #[.int .i64 (n : Int)] 3)).drew) (hI.out.row.alloc _) hgrow6 (.inr (fun e => hI.out.off m u HU.out.1 e.symm)); have e5 := hrow5.cellAt m (by omega); rw [HU.out.1] at e5; have e6 := hrow5.frozenAt m; have e11 := hgrow6.cell (a := ⟨w.heap.size + 1, k, none⟩) e9 hun)
          all_goals
            have hgr : ((wr.alloc (.cells #[.int .i64 (n : Int)] 3)).drew).grownBy w5 u.ownBlock := hgrow6
            have hat : u.ownBlock = some g ∨ g = wr.heap.size + 1 := by
              rcases hat6 with h1 | h1
              · exact .inl h1
              · exact .inr (h1.trans (by simp))
            have hgg : g ≠ gi := fun e => by
              rcases hat with h1 | h1
              · exact hI.out.off m u HU.out.1 (by rw [h1, e])
              · omega
            have oo : Only (gi :: u.ownBlock.toList) wr (w5.setCell ⟨gi, m, none⟩ (.slice (some ⟨g, 0, none⟩) (Fm.length + 1) cap)) :=
              (((only_alloc wr (.cells #[.int .i64 (n : Int)] 3)).drew.more (by simp)).trans ((only_grown hgr).more fun k hk => List.mem_cons_of_mem _ hk)).trans ((only_set1 w5 ⟨gi, m, none⟩ _).more (by simp))
            have hI2 := hI.out.step (n := n) hmM HU.out.1 oo.size (fun k' hk' h1 h2 => oo.block k' hk' fun hm => by
              simp at hm
              rcases hm with e | e
              · exact h1 e
              · exact h2 e) (hrow5.stored m (.slice (some ⟨g, 0, none⟩) (Fm.length + 1) cap)).1 (by rw [HFM.out]; exact own_set hown6 (a := ⟨gi, m, none⟩) _ (fun e => hgg (Option.some.inj e))) (fun k' hk' => by
              obtain rfl : g = k' := Option.some.inj hk'
              rcases hat with h1 | h1
              · exact .inl h1
              · exact .inr (by omega))
            have hF2 : (fun i => if i = m then (R.take j).filter (fun n => decide (nxtF nxt n k = m)) ++ [n] else (R.take j).filter fun n => decide (nxtF nxt n k = i)) = fun i => (R.take (j + 1)).filter fun n => decide (nxtF nxt n k = i) := by
              funext i
              have ht : R.take (j + 1) = R.take j ++ [n] := by rw [List.take_add_one, hHX.out.1]; rfl
              rw [ht, List.filter_append]
              by_cases e : i = m
              · subst e; simp [hHX.out.2]
              · have e' : ¬ m = i := fun e2 => e e2.symm
                simp [e, e', hHX.out.2]
            rw [hF2] at hI2
            have HI2 := Lib.hid hI2
            have HB2 := Lib.hid (hb.out.trans (oo.below (B := gi) (by omega) fun k' hk' => by
              simp at hk'
              rcases hk' with e | e
              · omega
              · exact (HU.out.2.lt k' e).1))
            clear hI2 oo hgr hat hgrow6 hat6 hown6 hrow5 e5 e6 hF2
            go_wp2_with fail
            go_roundw
            case rel => exact ⟨j + 1, _, by omega, by go_num, HI2, HB2⟩
            case measure => simp [intOf]; omega
        · obtain rfl : j = R.length := by omega
          have q2 : decide (R.length < R.length) = false := decide_eq_false (by omega)
          have hI2 := hI.out
          rw [List.take_length] at hI2
          have hrows := hI2.rows (N := fun b => b ≠ w.heap.size + 1 ∧ w.heap.size ≤ b) fun k' h1 h2 => ⟨by omega, by omega⟩
          have hvl2 : (vs.set k (Value.slice (some ⟨gi, 0, none⟩) nxt.length nxt.length))[k]? = some (.slice (some ⟨gi, 0, none⟩) nxt.length nxt.length) := by
            rw [List.getElem?_set, if_pos rfl, if_pos (by omega)]
          have hbz := hb.out.size
          have HD : Hid (∀ j, j < k + 1 → ∃ u, (vs.set k (Value.slice (some ⟨gi, 0, none⟩) nxt.length nxt.length))[j]? = some u ∧ RowsAt wr u (aheadL nxt R j) fun b => b ≠ w.heap.size + 1 ∧ w.heap.size ≤ b) := Lib.hid fun j' hj' => by
            by_cases e : j' = k
            · subst e
              exact ⟨_, hvl2, hrows⟩
            · obtain ⟨u, h1, h2⟩ := HW.out.2.1 j' (by omega)
              exact ⟨u, h1, (h2.same (Same.of_below hb.out fun b hb => hb.2)).less fun b hb => hb.1⟩
          have HO := Lib.hid (And.intro (own_under HW.out.1 hb.out (fun g hg => by obtain rfl : w.heap.size + 1 = g := Option.some.inj hg; exact hz)) (And.intro (HW.out.2.2.1.trans (hb.out.mono (by omega))) (HW.out.2.2.2.1.below hb.out (by omega))))
          clear hI2 hI hrows hb HW
          go_wp2_with fail
          go_roundw
          case rel => exact ⟨k + 1, _, by omega, by go_num, HO.out.1, HD, Lib.hid ⟨HO.out.2.1, HO.out.2.2⟩, by omega⟩
          case measure => simp [intOf]; omega
    · obtain rfl : k = wide := by omega
      have q1 : decide (k < k) = false := decide_eq_false (by omega)
      have HO := Lib.hid hown
      clear hown
      go_wp2_with fail
      go_ret
      refine ⟨_, rfl, ⟨_, _, by simp; rfl, .inr ⟨w.heap.size + 1, 0, rfl, hz, ⟨by omega, hz⟩, fun j ll hj => ?_⟩⟩, hbb.out.1⟩
      have hjw : j < k := by have := (List.getElem?_eq_some_iff.1 hj).1; simpa using this
      rw [List.getElem?_map, List.getElem?_range hjw] at hj
      obtain rfl := Option.some.inj hj
      obtain ⟨u, h1, h2⟩ := hdone.out j hjw
      refine ⟨u, by rw [Nat.zero_add, HO.out.cellAt j (by omega)]; exact h1, (h2.bound (Nat.le_refl _)).less fun b hb => ⟨hb.1.2, hb.2⟩⟩
end Go.Proofs.YtmmlakheimfijaaGreatDoor
namespace Go.Proofs.YtmmlakheimfijaaGreatDoor
set_option linter.unusedVariables false
set_option linter.unusedSimpArgs false
open Go.RowKit Go.Maps Go.Sort Go.ChangeShapes Go.WideShapes

/-- the classes lie in memory, off the blocks N -/
def PS (w : World) (B p M : Nat) (P : Parts) (cv : Value) (N : Nat → Prop) : Prop :=
  ∃ mv wv kv ms, PartsAt w B p M P cv mv wv kv ms ∧ ∀ k, N k → k < w.heap.size ∧ k ∉ partS p cv mv wv kv
theorem PartsAt.ge {w : World} {B p M : Nat} {P : Parts} {cv mv wv kv : Value} {ms : List Value} (h : PartsAt w B p M P cv mv wv kv ms) : ∀ k ∈ partS p cv mv wv kv, B ≤ k := fun k hk => by
  rcases partS_mem.1 hk with rfl | e | e | e | e
  · exact h.base
  · exact (h.cls.lt k e).1
  · exact (h.mem.lt k e).1
  · exact (h.wai.lt k e).1
  · exact (h.work.lt k e).1
theorem off_of {w : World} {p k : Nat} {cv mv wv kv : Value} (hk : k < w.heap.size ∧ k ∉ partS p cv mv wv kv) : k < w.heap.size ∧ k ≠ p ∧ Off k [cv, mv, wv, kv] :=
  ⟨hk.1, fun e => hk.2 (partS_mem.2 (.inl e)), .mk4 (fun e => hk.2 (partS_mem.2 (.inr (.inl e)))) (fun e => hk.2 (partS_mem.2 (.inr (.inr (.inl e))))) (fun e => hk.2 (partS_mem.2 (.inr (.inr (.inr (.inl e)))))) fun e => hk.2 (partS_mem.2 (.inr (.inr (.inr (.inr e)))))⟩
theorem moved_off {w : World} {k : Nat} {v v' : Value} (h : Moved w v v') (hk : k < w.heap.size) (hn : v.ownBlock ≠ some k) : v'.ownBlock ≠ some k := fun e => by
  rcases h with h1 | ⟨g, h1, h2⟩
  · exact hn (h1.symm.trans e)
  · have := Option.some.inj (h1.symm.trans e); omega
theorem PS.next {w w' : World} {B p M : Nat} {P P' : Parts} {cv mv wv kv mv' wv' kv' : Value} {ms ms' : List Value} {N : Nat → Prop} (h : PartsAt w B p M P cv mv wv kv ms) (hN : ∀ k, N k → k < w.heap.size ∧ k ∉ partS p cv mv wv kv) (h' : PartsAt w' B p M P' cv mv' wv' kv' ms') (ho : Only (partS p cv mv wv kv) w w')
    (h1 : Moved w mv mv') (h2 : Moved w wv wv') (h3 : Moved w kv kv') (hB : B ≤ w.heap.size) : PS w' B p M P' cv N ∧ Same N w w' ∧ Below B w w' := by
  refine ⟨⟨mv', wv', kv', ms', h', fun k hk => ⟨Nat.lt_of_lt_of_le (hN k hk).1 ho.size, fun hm => ?_⟩⟩, Same.of_only ho fun k hk hn => (hN k hn).2 hk, ho.below hB fun k hk => h.ge k hk⟩
  obtain ⟨hlt, hnm⟩ := hN k hk
  have hof := off_of (hN k hk)
  rcases partS_mem.1 hm with e | e | e | e | e
  · exact hof.2.1 e
  · exact hof.2.2 cv (by simp) e
  · exact moved_off h1 hlt (hof.2.2 mv (by simp)) e
  · exact moved_off h2 hlt (hof.2.2 wv (by simp)) e
  · exact moved_off h3 hlt (hof.2.2 kv (by simp)) e
theorem PS.less {w : World} {B p M : Nat} {P : Parts} {cv : Value} {N N' : Nat → Prop} (h : PS w B p M P cv N) (hN : ∀ k, N' k → N k) : PS w B p M P cv N' := by
  obtain ⟨mv, wv, kv, ms, h1, h2⟩ := h
  exact ⟨mv, wv, kv, ms, h1, fun k hk => h2 k (hN k hk)⟩
/-- what is laid behind it stays beside it -/
theorem PS.more {w w' : World} {B p M : Nat} {P : Parts} {cv : Value} {N : Nat → Prop} (h : PS w B p M P cv N) (hb : Below w.heap.size w w') : PS w' B p M P cv fun k => N k ∨ (w.heap.size ≤ k ∧ k < w'.heap.size) := by
  obtain ⟨mv, wv, kv, ms, h1, h2⟩ := h
  refine ⟨mv, wv, kv, ms, h1.below hb, fun k hk => ?_⟩
  rcases hk with hk | hk
  · exact ⟨Nat.lt_of_lt_of_le (h2 k hk).1 hb.size, (h2 k hk).2⟩
  · exact ⟨hk.2, fun hm => by have := h1.lt k hm; omega⟩
theorem PS.below {w w' : World} {B p M : Nat} {P : Parts} {cv : Value} {N : Nat → Prop} (h : PS w B p M P cv N) (hb : Below w.heap.size w w') : PS w' B p M P cv N := (h.more hb).less fun k hk => .inl hk
theorem PS.lt {w : World} {B p M : Nat} {P : Parts} {cv : Value} {N : Nat → Prop} (h : PS w B p M P cv N) {k : Nat} (hk : N k) : k < w.heap.size := by
  obtain ⟨mv, wv, kv, ms, h1, h2⟩ := h
  exact (h2 k hk).1
theorem PS.open_ {w : World} {B p M : Nat} {P : Parts} {cv : Value} {N : Nat → Prop} {sv : Value} {s : List Nat} (h : PS w B p M P cv N) (hsv : NatsAt w sv s) (hso : ∀ k, sv.ownBlock = some k → N k) (hs : ∀ n ∈ s, n < M) (hm : P.mem.length ≤ 1000000) (hw : P.wai.length ≤ 1000000) (hM : M ≤ maxLen) (hsl : s.length ≤ 1000000) (hB : B ≤ w.heap.size) :
    Calls Tryz.prog 73 #[.pointer (some ⟨p, 0, none⟩), sv] w fun e w' => e = .returned (.int .i64 P.mem.length) ∧ PS w' B p M (P.opens s) cv N ∧ Same N w w' ∧ Below B w w' := by
  obtain ⟨mv, wv, kv, ms, h1, h2⟩ := h
  refine (open_any w B p M P cv mv wv kv sv ms s h1 hsv (fun k hk => off_of (h2 k (hso k hk))) hs hm hw hM hsl hB).mono ?_
  rintro e w' ⟨rfl, mv', wv', h3, h4, h5, h6⟩
  exact ⟨rfl, PS.next h1 h2 h3 h4 h5 h6 (.same _ _) hB⟩
theorem PS.wait_ {w : World} {B p M : Nat} {P : Parts} {cv : Value} {N : Nat → Prop} {c : Nat} (h : PS w B p M P cv N) (hc : c < P.wai.length) (hk : P.work.length ≤ 1000000) (hB : B ≤ w.heap.size) :
    Calls Tryz.prog 72 #[.pointer (some ⟨p, 0, none⟩), .int .i64 c] w fun e w' => e = .returned (.tuple #[]) ∧ PS w' B p M (P.wait c) cv N ∧ Same N w w' ∧ Below B w w' := by
  obtain ⟨mv, wv, kv, ms, h1, h2⟩ := h
  refine (wait_any w B p M P cv mv wv kv ms h1 c hc hk hB).mono ?_
  rintro e w' ⟨rfl, kv', h3, h4, h5⟩
  exact ⟨rfl, PS.next h1 h2 h3 h4 (.same _ _) (.same _ _) h5 hB⟩
theorem PS.apart_ {w : World} {B p M : Nat} {P : Parts} {cv : Value} {N : Nat → Prop} {sv : Value} {s t : List Nat} {c : Nat} (h : PS w B p M P cv N) (hsv : NatsAt w sv s) (hso : ∀ k, sv.ownBlock = some k → N k) (hs : ∀ n ∈ s, n < M) (ht : P.mem[c]? = some t) (htM : ∀ n ∈ t, n < M) (hlen : P.wai.length = P.mem.length) (hm : P.mem.length < 1000000) (hM : M ≤ maxLen) (hsl : s.length ≤ 1000000) (htl : t.length ≤ 1000000) (hk : P.work.length ≤ 1000000) (hB : B ≤ w.heap.size) :
    Calls Tryz.prog 76 #[.pointer (some ⟨p, 0, none⟩), .int .i64 c, sv] w fun e w' => e = .returned (.tuple #[]) ∧ PS w' B p M (P.apart c s) cv N ∧ Same N w w' ∧ Below B w w' := by
  obtain ⟨mv, wv, kv, ms, h1, h2⟩ := h
  refine (apart_any w B p M P cv mv wv kv sv ms s t c h1 hsv (fun k hk => off_of (h2 k (hso k hk))) hs ht htM hlen hm hM hsl htl hk hB).mono ?_
  rintro e w' ⟨rfl, mv', wv', kv', ms', h3, h4, h5, h6, h7⟩
  exact ⟨rfl, PS.next h1 h2 h3 h4 h5 h6 h7 hB⟩
end Go.Proofs.YtmmlakheimfijaaGreatDoor
namespace Go.Proofs.YtmmlakheimfijaaGreatDoor
set_option linter.unusedVariables false
set_option linter.unusedSimpArgs false
open Go.RowKit Go.Maps Go.Sort Go.ChangeShapes Go.WideShapes

theorem pop_at {w : World} {B p M : Nat} {P : Parts} {cv mv : Value} {ms : List Value} {gw capw gk capk c : Nat} {l : List Nat} (h : PartsAt w B p M P cv mv (.slice (some ⟨gw, 0, none⟩) P.wai.length capw) (.slice (some ⟨gk, 0, none⟩) P.work.length capk) ms) (hl : P.work = l ++ [c]) (hc : c < P.wai.length) :
    PartsAt ((w.setCell ⟨p, 3, none⟩ (.slice (some ⟨gk, 0, none⟩) l.length capk)).setCell ⟨gw, c, none⟩ (.bool false)) B p M (P.pop l c) cv mv (.slice (some ⟨gw, 0, none⟩) P.wai.length capw) (.slice (some ⟨gk, 0, none⟩) l.length capk) ms ∧
      Only (partS p cv mv (.slice (some ⟨gw, 0, none⟩) P.wai.length capw) (.slice (some ⟨gk, 0, none⟩) P.work.length capk)) w ((w.setCell ⟨p, 3, none⟩ (.slice (some ⟨gk, 0, none⟩) l.length capk)).setCell ⟨gw, c, none⟩ (.bool false)) := by
  have o1 := only_set1 w ⟨p, 3, none⟩ (.slice (some ⟨gk, 0, none⟩) l.length capk)
  have hlen : P.work.length = l.length + 1 := by rw [hl]; simp
  have hk1 : w.ownsRow B 3 1 (.slice (some ⟨gk, 0, none⟩) (l.length + 1) capk) (l.length + 1) (natCells l ++ [.int .i64 (c : Int)]) := by
    have := h.work
    rw [hlen, hl, natCells_snoc] at this
    exact this
  have hk2 := ownsRow_pop (by rw [natCells_len]; omega) hk1
  have hgp : (Value.slice (some ⟨gk, 0, none⟩) l.length capk).ownBlock ≠ some p := fun e => h.offp (.slice (some ⟨gk, 0, none⟩) P.work.length capk) (by simp) e
  have h1 := put_work (l := l) h (o1.more (by simp)) (by simpa using h.blk.set_ 3 (.slice (some ⟨gk, 0, none⟩) l.length capk)) (own_set hk2 (a := ⟨p, 3, none⟩) _ hgp) (fun g hg => .inl hg)
  generalize w.setCell ⟨p, 3, none⟩ (.slice (some ⟨gk, 0, none⟩) l.length capk) = w1 at *
  have o2 := only_set1 w1 ⟨gw, c, none⟩ (.bool false)
  have hpw : gw ≠ p := fun e => h.offp (.slice (some ⟨gw, 0, none⟩) P.wai.length capw) (by simp) (congrArg some e)
  have h2 := put_wai (l := P.wai.set c false) h1 (o2.more (T := p :: (Value.slice (some ⟨gw, 0, none⟩) P.wai.length capw).ownBlock.toList) (by simp [Value.ownBlock])) (h1.blk.far (p := ⟨gw, c, none⟩) (fun e => hpw e.symm) (.bool false)) (by rw [List.length_set, List.map_set]; exact (h1.wai.stored c (.bool false)).1) (fun g hg => .inl hg)
  refine ⟨?_, ?_⟩
  · exact h2
  · refine (o1.more fun k hk => ?_).trans (o2.more fun k hk => ?_)
    · obtain rfl := List.mem_singleton.1 hk
      exact partS_mem.2 (.inl rfl)
    · obtain rfl := List.mem_singleton.1 hk
      exact partS_mem.2 (.inr (.inr (.inr (.inl rfl))))
theorem Rows3At.get {w : World} {v : Value} {lll : List (List (List Nat))} {N : Nat → Prop} (h : Rows3At w v lll N) {k : Nat} {ll : List (List Nat)} (hk : lll[k]? = some ll) :
    ∃ b off cap a c, v = .slice (some ⟨b, off, none⟩) lll.length cap ∧ w.cell? ⟨b, off + k, none⟩ = some (.slice a ll.length c) ∧ RowsAt w (.slice a ll.length c) ll N := by
  obtain ⟨a, cap, rfl, h0 | ⟨b, off, rfl, hb, hNb, hc⟩⟩ := h
  · rw [h0] at hk; cases hk
  · obtain ⟨u, hu, hr⟩ := hc k ll hk
    obtain ⟨a, c, rfl, -⟩ := id hr
    exact ⟨b, off, cap, a, c, rfl, hu, hr⟩
theorem ahead_get {d : Aut} {nxt : List (List Nat)} {R : List Nat} (hd : d.nx = nxtF nxt) {k m : Nat} (hm : m < nxt.length) : (aheadL nxt R k)[m]? = some (fromL d R k m) := by
  rw [aheadL, List.getElem?_map, List.getElem?_range hm]
  simp [fromL, hd]
theorem aheads_get (nxt : List (List Nat)) (R : List Nat) {wide k : Nat} (hk : k < wide) : ((List.range wide).map (aheadL nxt R))[k]? = some (aheadL nxt R k) := by
  rw [List.getElem?_map, List.getElem?_range hk]
  rfl
end Go.Proofs.YtmmlakheimfijaaGreatDoor
namespace Go.Proofs.YtmmlakheimfijaaGreatDoor
set_option linter.unusedVariables false
set_option linter.unusedSimpArgs false
open Go.RowKit Go.Maps Go.Sort Go.ChangeShapes Go.WideShapes

theorem zeroR (w : World) : (zeroValue 23).run Tryz.prog w = .ok (.slice none 0 0) w := by kernel_rfl
def intsOf (l : List Nat) : List Int := l.map fun (n : Nat) => (n : Int)
theorem intsOf_cells (l : List Nat) : (intsOf l).map (Value.int .i64) = natCells l := by simp [intsOf, natCells]
theorem intsOf_len (l : List Nat) : (intsOf l).length = l.length := by simp [intsOf]
theorem lits_inj : ∀ {zs zs' : List Int}, lits (H := Unit) .i64 zs = lits .i64 zs' → zs = zs'
  | [], [], _ => rfl
  | [], _ :: _, h => by simp [lits] at h
  | _ :: _, [], h => by simp [lits] at h
  | a :: zs, b :: zs', h => by
    have h' := List.cons.inj (show (DataW.lit (.int .i64 a) :: lits (H := Unit) .i64 zs) = DataW.lit (.int .i64 b) :: lits .i64 zs' from h)
    have h1 : a = b := by simpa using h'.1
    rw [h1, lits_inj h'.2]
/-- group a holds l -/
def IsG (D : DataW Unit) (a : Nat) (l : List Nat) : Prop := (D.atKey (.int .i64 (a : Int)) .nil = .nil ∧ l = []) ∨ D.atKey (.int .i64 (a : Int)) .nil = .slice (lits .i64 (intsOf l)) []
theorem IsG.eq {w : World} {base : Nat} {v : Value} {zs : List Int} {D : DataW Unit} {a : Nat} {l : List Nat} (h : IsG D a l) (hat : D.atKey (.int .i64 (a : Int)) .nil = rowDatum .i64 v zs) (hz : w.ownsInts base 3 .i64 v zs) : zs = intsOf l := by
  rcases h with ⟨h1, rfl⟩ | h1
  · rcases hz.datum (H := Unit) with ⟨h2, rfl⟩ | h2
    · rfl
    · rw [h1, h2] at hat; cases hat
  · rcases hz.datum (H := Unit) with ⟨h2, h3⟩ | h2
    · rw [h1, h2] at hat; cases hat
    · rw [h1, h2] at hat
      exact (lits_inj (DataW.slice.inj hat).1).symm
/-- the groups in memory: the map's block b, n stores so far, rows off the blocks No -/
def GrpAt (w : World) (base b n : Nat) (F : Nat → List Nat) (No : Nat → Prop) : Prop :=
  ∃ D : DataW Unit, w.ownsGroups Tryz.prog 3 base 3 .i64 b n D ∧ w.Shuns b No ∧ ∀ a : Nat, IsG D a (F a)
theorem GrpAt.made (w : World) (No : Nat → Prop) : GrpAt (w.alloc (.map #[] 0)) (w.heap.size + 1) w.heap.size 0 (fun _ => []) No :=
  ⟨.map [], World.ownsGroups_made w _ _ _ _, World.Shuns_made w No, fun a => .inl ⟨rfl, rfl⟩⟩
theorem GrpAt.lt {w : World} {base b n : Nat} {F : Nat → List Nat} {No : Nat → Prop} (h : GrpAt w base b n F No) : b < w.heap.size ∧ b < base := by
  obtain ⟨D, ⟨es, clock, hb, _, _, _, hbb, _⟩, _⟩ := h
  exact ⟨(Array.getElem?_eq_some_iff.1 hb).1, hbb⟩
theorem GrpAt.kept {w w' : World} {base b n : Nat} {F : Nat → List Nat} {No : Nat → Prop} {row : Option Nat} (h : GrpAt w base b n F No) (hg : w.grownBy w' row) (hb : some b ≠ row) (hr : ∀ j, row = some j → No j ∨ j < base) : GrpAt w' base b n F No := by
  have hlt := h.lt.1
  obtain ⟨D, h1, h2, h3⟩ := h
  refine ⟨D, h1.kept hg hb fun es clock hbe x hx => ?_, h2.kept hg hlt hb, h3⟩
  cases hrow : row with
  | none =>
    cases hx' : x.val.ownBlock with
    | none => exact .inl rfl
    | some g => exact .inr (by simp)
  | some j =>
    rcases hr j hrow with h4 | h4
    · exact h2.rowsOff (row := some j) (fun i hi => by cases hi; exact h4) es clock hbe x hx
    · exact h1.rowsAbove (row := some j) (fun i hi => by cases hi; exact h4) es clock hbe x hx
theorem GrpAt.reno {w : World} {base b n : Nat} {F : Nat → List Nat} {No No' : Nat → Prop} (h : GrpAt w base b n F No) (hn : ∀ g, No' g → No g ∨ w.heap.size ≤ g) : GrpAt w base b n F No' := by
  obtain ⟨D, h1, h2, h3⟩ := h
  exact ⟨D, h1, h2.reno h1 hn, h3⟩
/-- a look-up, and a store behind it -/
theorem GrpAt.look {w : World} {base b n : Nat} {F : Nat → List Nat} {No : Nat → Prop} (h : GrpAt w base b n F No) {a : Nat} (ha : a ≤ maxLen) (hn : n < maxLen) :
    ∃ v, (Instr.lookup 112 (.map (some b)) (.int .i64 (a : Int)) false).run Tryz.prog w = .ok v w ∧ w.ownsRow base 3 1 v (F a).length (natCells (F a)) ∧ (F a).length ≤ n ∧ (∀ g, v.ownBlock = some g → ¬ No g) ∧
      ∀ (w1 : World) (v' : Value) (x : Nat), x ≤ maxLen → w.grownBy w1 v.ownBlock → w1.ownsRow base 3 1 v' ((F a).length + 1) (natCells (F a) ++ [.int .i64 (x : Int)]) → (v'.ownBlock = v.ownBlock ∨ ∃ g, v'.ownBlock = some g ∧ w.heap.size ≤ g) → (∀ g, v'.ownBlock = some g → ¬ No g) →
        ∃ w2, (Instr.mapUpdate 112 (.map (some b)) (.int .i64 (a : Int)) v').run Tryz.prog w1 = .ok () w2 ∧ GrpAt w2 base b (n + 1) (fun i => if i = a then F a ++ [x] else F i) No ∧ w1.grownBy w2 (some b) := by
  obtain ⟨D, h1, h2, h3⟩ := h
  have hkey := int_key ha
  obtain ⟨v, zs, hrun, hat, hoi, hzl, hback⟩ := h1.at lawI Tryz.underlying112 (zeroR w) hn hkey
  have hsh : ∀ g, v.ownBlock = some g → ¬ No g := by
    obtain ⟨es, clock, hb, F, _⟩ := h1
    rcases Maps.fit_look false lawI Tryz.underlying112 (zeroR w) hb F hkey with ⟨hrun', _, _⟩ | ⟨e0, y, hm0, _, hrun', _, _, _⟩
    · rw [hrun] at hrun'
      obtain rfl : v = .slice none 0 0 := by simpa using hrun'
      intro g hg'
      cases hg'
    · rw [hrun] at hrun'
      obtain rfl : v = e0.val := by simpa using hrun'
      exact fun g hg' => h2 es clock hb e0 hm0 g hg'
  obtain rfl := (h3 a).eq hat hoi
  refine ⟨v, hrun, ?_, by rw [intsOf_len] at hzl; exact hzl, hsh, fun w1 v' x hx hgr hown hloc hno => ?_⟩
  · have := hoi.1
    rw [intsOf_len, intsOf_cells] at this
    exact this
  · have hown' : w1.ownsInts base 3 .i64 v' (intsOf (F a ++ [x])) := by
      refine ⟨?_, fun z hz => ?_⟩
      · rw [intsOf_len, intsOf_cells, natCells_snoc, List.length_append]
        exact hown
      · have e : intsOf (F a ++ [x]) = intsOf (F a) ++ [(x : Int)] := by simp [intsOf]
        rw [e] at hz
        rcases List.mem_append.1 hz with h4 | h4
        · exact hoi.2 z h4
        · obtain rfl := List.mem_singleton.1 h4
          exact wf_nat hx
    obtain ⟨w2, hrun2, r1, r2⟩ := hback w1 v' _ hgr hown' (by rw [intsOf_len, List.length_append]; rw [intsOf_len] at hzl; simp; omega) hloc
    have r3 : w2.Shuns b No := by
      obtain ⟨es, clock, hb, F, hs, _, hbb, _⟩ := h1
      have hblt : b < w.heap.size := (Array.getElem?_eq_some_iff.1 hb).1
      have hb1 : w1.heap[b]? = some (.map es clock) := (hgr.block b hblt (fun e1 => by have := (hoi.1.lt b e1.symm).1; omega)).trans hb
      obtain ⟨es', clock', hb2, hwho⟩ := stored_who lawI Tryz.underlying112 hb1 F (Nat.lt_of_le_of_lt hs hn) hkey hrun2
      intro es2 clock2 hb2' y hy g hyg
      obtain ⟨rfl, rfl⟩ : es' = es2 ∧ clock' = clock2 := by rw [hb2] at hb2'; simpa using hb2'
      rcases hwho y hy with ⟨hy0, _⟩ | ⟨_, hval⟩
      · exact h2 es clock hb y hy0 g hyg
      · exact hno g (hval ▸ hyg)
    refine ⟨w2, hrun2, ⟨_, r1, r3, fun y => ?_⟩, r2⟩
    have hM : IsMap D := by obtain ⟨es, clock, _, _, _, rfl, _⟩ := h1; exact ⟨_, rfl⟩
    by_cases e : y = a
    · subst e
      show IsG _ y (if y = y then F y ++ [x] else F y)
      rw [if_pos rfl]
      refine .inr ?_
      rw [atKey_put_same hM (lawI.key hkey)]
      rcases hown'.1.2 with ⟨_, h0⟩ | ⟨g, cap, cur, hv, _⟩
      · rw [intsOf_len, List.length_append] at h0; simp at h0
      · rw [hv]; rfl
    · show IsG _ y (if y = a then F a ++ [x] else F y)
      rw [if_neg e]
      have hne : (Lit.int .i64 (y : Int)) ≠ .int .i64 (a : Int) := by intro e'; simp at e'; exact e (by exact_mod_cast e')
      unfold IsG
      rw [atKey_put_other hne]
      exact h3 y
end Go.Proofs.YtmmlakheimfijaaGreatDoor
namespace Go.Proofs.YtmmlakheimfijaaGreatDoor
set_option linter.unusedVariables false
set_option linter.unusedSimpArgs false
open Go.RowKit Go.Maps Go.Sort Go.ChangeShapes Go.WideShapes

theorem orderL_snoc (cls : Nat → Nat) (l : List Nat) (n : Nat) : orderL cls (l ++ [n]) = addN (orderL cls l) (cls n) := by simp [orderL]
theorem metL_snoc (cls : Nat → Nat) (l : List Nat) (n : Nat) : metL cls (l ++ [n]) = fun a => if a = cls n then metL cls l (cls n) ++ [n] else metL cls l a := by
  funext a
  unfold metL
  rw [List.filter_append]
  by_cases h : a = cls n
  · subst h; simp
  · have h2 : ¬ cls n = a := fun e => h e.symm
    simp [h, h2]
theorem metL_nil_iff (cls : Nat → Nat) (l : List Nat) (a : Nat) : (metL cls l a).length = 0 ↔ a ∉ orderL cls l := by
  have hm : a ∈ orderL cls l ↔ ∃ n ∈ l, cls n = a := by
    have := fold_mem cls l [] a
    simpa [orderL] using this
  rw [hm, metL, List.length_eq_zero_iff, List.filter_eq_nil_iff]
  simp
theorem orderL_len (cls : Nat → Nat) (l : List Nat) : (orderL cls l).length ≤ l.length := by
  have key : ∀ (l o : List Nat), (l.foldl (fun o n => addN o (cls n)) o).length ≤ o.length + l.length := by
    intro l
    induction l with
    | nil => intro o; simp
    | cons x l ih =>
      intro o
      have h1 := ih (addN o (cls x))
      have h2 : (addN o (cls x)).length ≤ o.length + 1 := by unfold addN; split <;> simp
      simp only [List.foldl_cons, List.length_cons]
      omega
  have := key l []
  simpa [orderL] using this
theorem intoL_snoc (d : Aut) (R : List Nat) (K : Nat) {s : List Nat} {i x : Nat} (h : s[i]? = some x) : intoL d R K (s.take (i + 1)) = intoL d R K (s.take i) ++ fromL d R K x := by
  have ht : s.take (i + 1) = s.take i ++ [x] := by rw [List.take_add_one, h]; rfl
  rw [ht]
  simp [intoL]
theorem grown_of_alloc {w w5 : World} {o : Obj} {row : Option Nat} (h : (w.alloc o).grownBy w5 row) : w.grownBy w5 row :=
  ⟨h.os, h.tape, h.output, by have := h.size; simp at this; omega, fun k hk hne => (h.block k (by simp; omega) hne).trans (Below.heap_alloc w o k hk)⟩
/-- the order and the groups as they are gathered: the map's block is b, all lies behind it -/
structure Gath (w0 w : World) (cls : Nat → Nat) (l : List Nat) (c18 : Value) : Prop where
  ord : w.ownsRow (w0.heap.size + 1) 3 1 c18 (orderL cls l).length (natCells (orderL cls l))
  grp : GrpAt w (w0.heap.size + 1) w0.heap.size l.length (metL cls l) fun g => c18.ownBlock = some g
  bel : Below w0.heap.size w0 w
theorem Gath.start (w0 : World) (cls : Nat → Nat) : Gath w0 (w0.alloc (.map #[] 0)) cls [] (.slice none 0 0) :=
  ⟨World.ownsRow_nil _ _ _ _, GrpAt.made w0 _, (Below.refl _ w0).alloc (Nat.le_refl _) _⟩
/-- a class that was not met yet goes into the order -/
theorem Gath.order {w0 w w5 : World} {cls : Nat → Nat} {l : List Nat} {c18 : Value} {o : Obj} {g cap a : Nat} (h : Gath w0 w cls l c18) (hgrow : (w.alloc o).grownBy w5 c18.ownBlock) (hat : c18.ownBlock = some g ∨ g = (w.alloc o).heap.size) :
    GrpAt w5 (w0.heap.size + 1) w0.heap.size l.length (metL cls l) (fun k => (Value.slice (some ⟨g, 0, none⟩) (l.length + 1) cap).ownBlock = some k) ∧ Below w0.heap.size w0 w5 := by
  have hbs := h.bel.size
  have hg1 := grown_of_alloc hgrow
  refine ⟨?_, h.bel.grown hg1 (by omega) fun k e => by have := (h.ord.lt k e).1; omega⟩
  have h1 : GrpAt w (w0.heap.size + 1) w0.heap.size l.length (metL cls l) (fun k => c18.ownBlock = some k ∨ w.heap.size ≤ k) := h.grp.reno fun k hk => hk
  have h2 := h1.kept hg1 (fun e => by have := (h.ord.lt _ e.symm).1; omega) (fun j e => .inl (.inl e))
  refine h2.reno fun k hk => ?_
  have hk' : g = k := Option.some.inj hk
  subst hk'
  rcases hat with e | e
  · exact .inl (.inl e)
  · exact .inl (.inr (by simp at e; omega))
/-- one more in its group -/
theorem Gath.push {w0 w : World} {cls : Nat → Nat} {l : List Nat} {c18 : Value} {n : Nat} (hb : Below w0.heap.size w0 w) {os : List Nat} (hos : w.ownsRow (w0.heap.size + 1) 3 1 c18 os.length (natCells os)) (hg : GrpAt w (w0.heap.size + 1) w0.heap.size l.length (metL cls l) fun g => c18.ownBlock = some g)
    (hn : n ≤ maxLen) (hcn : cls n ≤ maxLen) (hl : l.length < maxLen) (hord : orderL cls (l ++ [n]) = os) :
    ∃ v, (Instr.lookup 112 (.map (some w0.heap.size)) (.int .i64 (cls n : Int)) false).run Tryz.prog w = .ok v w ∧ w.ownsRow (w0.heap.size + 1) 3 1 v (metL cls l (cls n)).length (natCells (metL cls l (cls n))) ∧ (metL cls l (cls n)).length ≤ l.length ∧
      ∀ (w5 : World) (o : Obj) (g cap : Nat), (w.alloc o).grownBy w5 v.ownBlock → w5.ownsRow (w0.heap.size + 1) 3 1 (.slice (some ⟨g, 0, none⟩) ((metL cls l (cls n)).length + 1) cap) ((metL cls l (cls n)).length + 1) (natCells (metL cls l (cls n)) ++ [.int .i64 (n : Int)]) → (v.ownBlock = some g ∨ g = (w.alloc o).heap.size) →
        ∃ w6, (Instr.mapUpdate 112 (.map (some w0.heap.size)) (.int .i64 (cls n : Int)) (.slice (some ⟨g, 0, none⟩) ((metL cls l (cls n)).length + 1) cap)).run Tryz.prog w5 = .ok () w6 ∧ Gath w0 w6 cls (l ++ [n]) c18 := by
  obtain ⟨v, hrun, hown, hle, hno, hback⟩ := hg.look hcn hl
  refine ⟨v, hrun, hown, hle, fun w5 o g cap hgrow hown5 hat => ?_⟩
  have hg1 := grown_of_alloc hgrow
  have hbs := hb.size
  have hat2 : (Value.slice (some ⟨g, 0, none⟩) ((metL cls l (cls n)).length + 1) cap).ownBlock = v.ownBlock ∨ ∃ k, (Value.slice (some ⟨g, 0, none⟩) ((metL cls l (cls n)).length + 1) cap).ownBlock = some k ∧ w.heap.size ≤ k := by
    rcases hat with e | e
    · exact .inl e.symm
    · exact .inr ⟨g, rfl, by simp at e; omega⟩
  obtain ⟨w6, hrun6, hg6, hgr6⟩ := hback w5 _ n hn hg1 hown5 hat2 fun k hk hk' => by
    have e1 : g = k := Option.some.inj hk
    subst e1
    rcases hat with e | e
    · exact hno g e hk'
    · have := own_lt hos hk'; simp at e; omega
  refine ⟨w6, hrun6, ?_, ?_, ?_⟩
  · rw [hord]
    refine World.ownsRow.kept (w := w5) (World.ownsRow.kept hos hg1 ?_) hgr6 (.inr fun e => ?_)
    · cases hc : c18.ownBlock with
      | none => exact .inl rfl
      | some k => exact .inr fun e => hno k e.symm hc
    · have := (hos.lt _ e).1; omega
  · rw [List.length_append, metL_snoc]
    exact hg6
  · refine (hb.grown hg1 (by omega) fun k e => by have := (hown.lt k e).1; omega).grown hgr6 (by have := hg1.size; omega) fun k e => ?_
    cases e
    exact Nat.le_refl _
end Go.Proofs.YtmmlakheimfijaaGreatDoor
namespace Go.Proofs.YtmmlakheimfijaaGreatDoor
set_option linter.unusedVariables false
set_option linter.unusedSimpArgs false
open Go.RowKit Go.Maps Go.Sort Go.ChangeShapes Go.WideShapes

theorem own_same {w w' : World} {N : Nat → Prop} {B : Nat} {e : TypeId} {size n : Nat} {v : Value} {xs : List Value} (h : w.ownsRow B e size v n xs) (hs : Same N w w') (hn : ∀ g, v.ownBlock = some g → N g) : w'.ownsRow B e size v n xs := by
  refine ⟨h.1, ?_⟩
  rcases h.2 with h0 | ⟨g, cap, cur, rfl, hb, hg, h3⟩
  · exact .inl h0
  · have hlt : g < w.heap.size := by
      rcases Nat.lt_or_ge g w.heap.size with hlt | hge
      · exact hlt
      · rw [Array.getElem?_eq_none hge] at hg; cases hg
    exact .inr ⟨g, cap, cur, rfl, hb, (hs.2 g hlt (hn g rfl)).trans hg, h3⟩
theorem groups_same {w w' : World} {N : Nat → Prop} {base b n : Nat} {D : DataW Unit} (h : w.ownsGroups Tryz.prog 3 base 3 .i64 b n D) (hs : Same N w w') (hb' : N b) (hrow : ∀ k, base ≤ k → k < w.heap.size → N k) : w'.ownsGroups Tryz.prog 3 base 3 .i64 b n D := by
  obtain ⟨es, clock, hb, F, hsz, rfl, hbb, hlen, hap⟩ := h
  have hblt : b < w.heap.size := (Array.getElem?_eq_some_iff.1 hb).1
  have kept : ∀ (v : Value) (zs : List Int), w.ownsInts base 3 .i64 v zs → w'.ownsInts base 3 .i64 v zs := fun v zs ho => ⟨own_same ho.1 hs fun g hg => hrow g (ho.1.lt g hg).1 (ho.1.lt g hg).2, ho.2⟩
  have hst : ∀ x ∈ es.toList, ∀ z, rowElem (H := Unit) w base 3 .i64 x.val = some z → rowElem w' base 3 .i64 x.val = some z := fun x hx z hz => by
    obtain ⟨zs, ho, rfl⟩ := rowElem_inv hz
    exact rowElem_mk (kept _ _ ho)
  obtain ⟨F1, hmap, _⟩ := F.stay hst
  refine ⟨es, clock, (hs.2 b hblt hb').trans hb, F1, hsz, by rw [hmap], hbb, fun x hx zs ho => ?_, hap⟩
  obtain ⟨y, hy⟩ := F.reads x hx
  obtain ⟨z, hz, _⟩ := Go.WideElems.rd_val hy
  obtain ⟨zs0, ho0, _⟩ := rowElem_inv hz
  rw [ho.unique (kept _ _ ho0)]
  exact hlen x hx zs0 ho0
/-- a look-up later on -/
theorem Gath.later {w0 w w' : World} {cls : Nat → Nat} {l : List Nat} {c18 : Value} {N : Nat → Prop} (h : Gath w0 w cls l c18) (hs : Same N w w') (hN : ∀ k, w0.heap.size ≤ k → k < w.heap.size → N k) {a : Nat} (ha : a ≤ maxLen) (hl : l.length < maxLen) :
    ∃ v, (Instr.lookup 112 (.map (some w0.heap.size)) (.int .i64 (a : Int)) false).run Tryz.prog w' = .ok v w' ∧ NatsAt w' v (metL cls l a) ∧ ∀ k, v.ownBlock = some k → w0.heap.size ≤ k ∧ k < w.heap.size := by
  have hb := h.grp.lt.1
  obtain ⟨D, h1, h2, h3⟩ := h.grp.reno (No' := fun k => c18.ownBlock = some k ∨ w.heap.size ≤ k) fun k hk => hk
  have h1' := groups_same h1 hs (hN _ (Nat.le_refl _) hb) (fun k hk hk' => hN k (by omega) hk')
  have h2' : w'.Shuns w0.heap.size fun k => c18.ownBlock = some k ∨ w.heap.size ≤ k := fun es clock hbe => h2 es clock ((hs.2 _ hb (hN _ (Nat.le_refl _) hb)).symm.trans hbe)
  have hG : GrpAt w' (w0.heap.size + 1) w0.heap.size l.length (metL cls l) fun k => c18.ownBlock = some k ∨ w.heap.size ≤ k := ⟨D, h1', h2', h3⟩
  obtain ⟨v, hrun, hown, -, hno, -⟩ := hG.look ha hl
  refine ⟨v, hrun, .of_own hown, fun k hk => ?_⟩
  have h4 := hno k hk
  have h5 := (hown.lt k hk).1
  exact ⟨by omega, Nat.lt_of_not_le fun h6 => h4 (.inr h6)⟩
end Go.Proofs.YtmmlakheimfijaaGreatDoor
namespace Go.Proofs.YtmmlakheimfijaaGreatDoor
set_option linter.unusedVariables false
set_option linter.unusedSimpArgs false
open Go.RowKit Go.Maps Go.Sort Go.ChangeShapes Go.WideShapes

/-- things as they are met from a first one on -/
def metF (f : Nat → Nat → Nat) (wide : Nat) : Nat → Nat → List Nat → List Nat := bfs addN fun n => (List.range wide).map (f n)
def stepsTo (f : Nat → Nat → Nat) (n : Nat) (k : Nat) (o : List Nat) : List Nat := ((List.range k).map (f n)).foldl addN o
theorem stepsTo_next (f : Nat → Nat → Nat) (n k : Nat) (o : List Nat) : stepsTo f n (k + 1) o = addN (stepsTo f n k o) (f n k) := by
  simp [stepsTo, List.range_succ]
theorem addN_len (o : List Nat) (x : Nat) : o.length ≤ (addN o x).length ∧ (addN o x).length ≤ o.length + 1 := by
  unfold addN; split <;> simp
theorem addN_pre (o : List Nat) (x : Nat) : ∃ t, addN o x = o ++ t := by
  unfold addN; split
  · exact ⟨[], by simp⟩
  · exact ⟨[x], rfl⟩
theorem stepsTo_pre (f : Nat → Nat → Nat) (n : Nat) (o : List Nat) : ∀ k, ∃ t, stepsTo f n k o = o ++ t
  | 0 => ⟨[], by simp [stepsTo]⟩
  | k + 1 => by
    obtain ⟨t, ht⟩ := stepsTo_pre f n o k
    obtain ⟨t', ht'⟩ := addN_pre (stepsTo f n k o) (f n k)
    exact ⟨t ++ t', by rw [stepsTo_next, ht', ht, List.append_assoc]⟩
theorem stepsTo_in {f : Nat → Nat → Nat} {M n : Nat} {o : List Nat} (ho : o.Nodup ∧ ∀ x ∈ o, x < M) : ∀ k, (∀ j, j < k → f n j < M) → (stepsTo f n k o).Nodup ∧ ∀ x ∈ stepsTo f n k o, x < M
  | 0, _ => by simpa [stepsTo] using ho
  | k + 1, h => by
    obtain ⟨h1, h2⟩ := stepsTo_in ho k fun j hj => h j (by omega)
    rw [stepsTo_next]
    refine ⟨addN_nodup h1, fun x hx => ?_⟩
    rcases addN_mem.1 hx with h3 | h3
    · exact h2 x h3
    · rw [h3]; exact h k (by omega)
theorem few_of {o : List Nat} {M : Nat} (h : o.Nodup ∧ ∀ x ∈ o, x < M) : o.length ≤ M := by
  have := nodup_sub o (List.range M) h.1 fun x hx => by simpa using h.2 x hx
  simpa using this

set_option maxRecDepth 100000 in
set_option maxHeartbeats 8000000 in
theorem met_any (g : FuncId) (cs : Array Value) (hg : (g = 70 ∧ ∃ c0, cs = #[c0]) ∨ (g = 51 ∧ ∃ c0 c1, cs = #[c0, c1])) (f : Nat → Nat → Nat) (first wide M fuel : Nat) (w : World) (hM : M ≤ 1000000) (hwd : wide ≤ 1000000)
    (hf : ∀ n k, n < M → k < wide → f n k < M) (hfi : first < M) (hfu : M < fuel)
    (hnext : ∀ n k W, n < M → k < wide → Below w.heap.size w W → Calls Tryz.prog g (#[.int .i64 n, .int .i64 k] ++ cs) W fun e W' => e = .returned (.int .i64 (f n k)) ∧ Below W.heap.size W W') :
    Calls Tryz.prog 50 #[.int .i64 first, .int .i64 wide, .func (.func g) #[] cs] w fun e w' => ∃ v, e = .returned v ∧ w'.ownsRow (w.heap.size + 1) 3 1 v (metF f wide fuel 0 [first]).length (natCells (metF f wide fuel 0 [first])) ∧ Below w.heap.size w w' := by
  have hmm := @run_makeMap Tryz.prog
  obtain ⟨i0, hi0, hz00, hz01, hz02⟩ := info_parts infoInt
  have hfl : first ≤ maxLen := by unfold maxLen; omega
  obtain ⟨w2, hput, hs2, hg2⟩ := (SeenAt.none w).put hfl (by decide)
  rcases hg with ⟨rfl, c0, rfl⟩ | ⟨rfl, c0, c1, rfl⟩
  all_goals
    go_enter Tryz.func50, Tryz.ntmps50
    have hz2 : w.heap.size < w2.heap.size := by have := hs2.lt; omega
    have hB2 : Below w.heap.size w w2 := ((Below.refl w.heap.size w).alloc (Nat.le_refl _) (.map #[] 0)).grown hg2 (by simp) (fun k e => by cases e; exact Nat.le_refl _)
    have hown0 := World.ownsRow_lit (base := w.heap.size + 1) (e := 3) (size := 1) w2 #[.int .i64 (first : Int)] 1 (by omega) (by decide) (by simp)
    have hs0 := hs2.kept (grown_alloc w2 (.cells #[.int .i64 (first : Int)] 3)) (by simp)
    have hB0 := hB2.alloc (by omega) (.cells #[.int .i64 (first : Int)] 3)
    clear hg2 hs2 hB2
    go_wp2_with fail
    clear hput
    generalize w2.alloc (.cells #[.int .i64 (first : Int)] 3) = W0 at *
    go_loopw [8, 9, 10, 11] (fun c8 c9 _ _ wr => ∃ (i fu n : Nat) (o S : List Nat), c9 = .int .i64 i ∧ wr.ownsRow (w.heap.size + 1) 3 1 c8 o.length (natCells o) ∧ SeenAt wr w.heap.size n S ∧ Hid ((∀ x, x ∈ S ↔ x ∈ o) ∧ metF f wide fuel 0 [first] = metF f wide fu i o ∧ (o.Nodup ∧ ∀ x ∈ o, x < M)) ∧ n = o.length ∧ i ≤ o.length ∧ M < i + fu ∧ o.length ≤ M ∧ Below w.heap.size w wr) (fun _ c _ _ _ => M - (intOf c).toNat)
    case atStart =>
      refine ⟨0, fuel, 1, [first], [first], rfl, hown0, hs0, Lib.hid ⟨fun x => Iff.rfl, rfl, by simp, fun x hx => ?_⟩, rfl, by simp, by omega, by simp; omega, hB0⟩
      obtain rfl := List.mem_singleton.1 hx
      exact hfi
    case round =>
      clear hown0 hs0 hB0
      obtain ⟨i, fu, n, o, S, rfl, hown, hS, hh, rfl, hio, hfu2, hoM, hB⟩ := hrel
      obtain ⟨ao, capo, rfl⟩ := own_shape hown
      by_cases hlt : i < o.length
      · have k1 : decide (i < o.length) = true := decide_eq_true hlt
        obtain ⟨x, hx⟩ : ∃ x, o[i]? = some x := ⟨_, List.getElem?_eq_getElem hlt⟩
        have hxM := hh.out.2.2.2 x (List.mem_of_getElem? hx)
        have HX := Lib.hid hx
        have HO := Lib.hid (And.intro hown (And.intro hS hB))
        clear hx hown hS hB
        go_wp2_with fail
        go_loopw [8, 10, 11, 24] (fun c8 _ _ c24 wi => ∃ (k n : Nat) (o' S : List Nat), k ≤ wide ∧ c24 = .int .i64 k ∧ wi.ownsRow (w.heap.size + 1) 3 1 c8 o'.length (natCells o') ∧ SeenAt wi w.heap.size n S ∧ Hid ((∀ x, x ∈ S ↔ x ∈ o') ∧ o' = stepsTo f x k o) ∧ n = o'.length ∧ Below w.heap.size w wi) (fun _ _ _ c _ => wide - (intOf c).toNat)
        case atStart => exact ⟨0, o.length, o, S, by omega, rfl, HO.out.1, HO.out.2.1, Lib.hid ⟨hh.out.1, rfl⟩, rfl, HO.out.2.2⟩
        case round =>
          clear HO
          obtain ⟨k, n, o', S', hk, rfl, hown, hS, hh', rfl, hB⟩ := hrel
          obtain ⟨ho'n, ho'M⟩ : o'.Nodup ∧ ∀ y ∈ o', y < M := by
            rw [hh'.out.2]; exact stepsTo_in hh.out.2.2 k fun j hj => hf x j hxM (by omega)
          have hol := few_of ⟨ho'n, ho'M⟩
          obtain ⟨tl, htl⟩ := stepsTo_pre f x o k
          have hx' : o'[i]? = some x := by rw [hh'.out.2, htl, List.getElem?_append_left hlt]; exact HX.out
          have hlt' : i < o'.length := (List.getElem?_eq_some_iff.1 hx').1
          have HM := Lib.hid (And.intro ho'n ho'M)
          clear ho'n ho'M htl
          by_cases hkw : k < wide
          · have q1 : decide (k < wide) = true := decide_eq_true hkw
            obtain ⟨a8, cap8, rfl⟩ := own_shape hown
            obtain ⟨b8, cp8, he8, -, hb8⟩ := hown.form (by omega)
            have he8' : a8 = some ⟨b8, 0, none⟩ := by simpa using (Value.slice.inj he8).1
            subst he8'
            have m0 := hown.cellAt i (by omega)
            rw [natCells_at hx'] at m0
            have hcall := hnext x k wr hxM hkw hB
            obtain ⟨z, hz⟩ : ∃ z, f x k = z := ⟨_, rfl⟩
            have hzM : z < M := by rw [← hz]; exact hf x k hxM hkw
            rw [hz] at hcall
            have HZ := Lib.hid hz
            have hzl : z ≤ maxLen := by unfold maxLen; omega
            have HOwn := Lib.hid (And.intro hown (And.intro hS hB))
            clear hown hS hB hz hx'
            go_wp2_with fail
            refine hcall.mono ?_
            rintro e w5 ⟨rfl, b5⟩
            have hown5 := HOwn.out.1.kept (grown_below b5) (.inr (by simp [Value.ownBlock]))
            have hS5 := HOwn.out.2.1.kept (grown_below b5) (by simp)
            have hB5 := HOwn.out.2.2.trans (b5.mono HOwn.out.2.2.size)
            have hlook := hS5.look hzl
            have hm5 := hS5.lt
            clear HOwn m0 b5 hcall
            by_cases hzS : z ∈ S'
            · rw [decide_eq_true hzS] at hlook
              have HIn := Lib.hid ((hh'.out.1 z).1 hzS)
              clear hzS
              go_wp2_with fail
              go_roundw
              case rel =>
                refine ⟨k + 1, o'.length, o', S', by omega, by go_num, hown5, hS5, Lib.hid ⟨hh'.out.1, ?_⟩, rfl, hB5⟩
                rw [stepsTo_next, HZ.out, ← hh'.out.2, addN, if_pos HIn.out]
              case measure => simp [intOf]; omega
            · rw [decide_eq_false hzS] at hlook
              have HOut := Lib.hid (fun hm => hzS ((hh'.out.1 z).2 hm))
              obtain ⟨w6, hput6, hS6, hg6⟩ := hS5.put hzl (by unfold maxLen; omega)
              have hown6 := hown5.kept hg6 (.inr (fun e => by have := (hown5.lt b8 rfl).1; simp [Value.ownBlock] at e; omega))
              have hB6 := hB5.grown hg6 (by omega) (fun j e => by cases e; exact Nat.le_refl _)
              have hone := one_at (w := w6) (u := .int .i64 (z : Int)) (t := 3)
              have hown7 := hown6.alloc (.cells #[.int .i64 (z : Int)] 3)
              have hz6 := hS6.lt
              clear hzS hS5 hB5 hown5 hg6
              go_wp2_with (at_builtin; refine wpList_append_own _ rfl _ _ 23 rfl (w.heap.size + 1) 3 i0 (.int .i64 0) 1 8 Tryz.underlying23 hi0 hz00 hz01 hz02 rfl (by decide) _ _ _ rfl hown7 ⟨w6.heap.size, 0, none⟩ 1 1 [.int .i64 (z : Int)] rfl rfl hone (fun u hu => by simp at hu; subst hu; rfl) (by unfold maxLen; omega) (by omega) (by simp; omega) ?_; intro v' w8 hown8 hgrow8 _)
              go_roundw
              case rel =>
                refine ⟨k + 1, o'.length + 1, o' ++ [z], z :: S', by omega, by go_num, ?_, (hS6.kept (grown_alloc w6 _) (by simp)).kept hgrow8 (fun e => ?_), Lib.hid ⟨fun y => ?_, ?_⟩, by simp, (hB6.alloc (by omega) _).grown hgrow8 (by simp; omega) (fun j e => by have := (hown6.lt j e).1; omega)⟩
                · rw [natCells_snoc, List.length_append]; exact hown8
                · have := (hown6.lt w.heap.size e.symm).1; omega
                · rw [List.mem_cons, hh'.out.1 y, List.mem_append, List.mem_singleton]
                  exact Or.comm
                · rw [stepsTo_next, HZ.out, ← hh'.out.2, addN, if_neg HOut.out]
              case measure => simp [intOf]; omega
          · obtain rfl : k = wide := by omega
            have q1 : decide (k < k) = false := decide_eq_false (by omega)
            have HOwn := Lib.hid (And.intro hown (And.intro hS hB))
            clear hown hS hB hx'
            go_wp2_with fail
            go_roundw
            case rel =>
              obtain ⟨fu', rfl⟩ : ∃ q, fu = q + 1 := ⟨fu - 1, by omega⟩
              refine ⟨i + 1, fu', o'.length, o', S', by go_num, HOwn.out.1, HOwn.out.2.1, Lib.hid ⟨hh'.out.1, ?_, HM.out⟩, rfl, by omega, by omega, hol, HOwn.out.2.2⟩
              rw [hh.out.2.1]
              show bfs addN _ (fu' + 1) i o = _
              rw [bfs, HX.out]
              simp only
              rw [hh'.out.2]
              rfl
            case measure => simp [intOf]; omega
      · obtain rfl : i = o.length := by omega
        have k1 : decide (o.length < o.length) = false := decide_eq_false (by omega)
        have he : metF f wide fuel 0 [first] = o := by
          rw [hh.out.2.1]
          obtain ⟨fu', rfl⟩ : ∃ q, fu = q + 1 := ⟨fu - 1, by omega⟩
          show bfs addN _ (fu' + 1) o.length o = o
          rw [bfs, List.getElem?_eq_none (Nat.le_refl _)]
        have HE := Lib.hid he
        clear he
        go_wp2_with fail
        go_ret
        refine ⟨_, rfl, ?_⟩
        rw [HE.out]
        exact ⟨hown, hB⟩
end Go.Proofs.YtmmlakheimfijaaGreatDoor
namespace Go.Proofs.YtmmlakheimfijaaGreatDoor
set_option linter.unusedVariables false
set_option linter.unusedSimpArgs false
open Go.RowKit Go.Maps Go.Sort Go.ChangeShapes Go.WideShapes Go.Joins

/-! map[int]int -/
theorem map_below {H : Type} {P : Program} {k : TypeId} {R : Value → Option (DataW H × List MemPlace)} {b n B : Nat} {D : DataW H} {w w' : World} (h : w.ownsMap P k R b n D) (hb : Below B w w') (hB : b < B) : w'.ownsMap P k R b n D := by
  obtain ⟨es, clock, h1, h2⟩ := h
  exact ⟨es, clock, (hb.block b hB).trans h1, h2⟩
def TabAt (w : World) (b n : Nat) (f : Nat → Nat) : Prop :=
  ∃ D : DataW Unit, w.ownsMap Tryz.prog 3 (plainElem Tryz.prog 3) b n D ∧ ∀ x : Nat, D.atKey (.int .i64 (x : Int)) (.lit (.int .i64 0)) = .lit (.int .i64 (f x : Int))
theorem TabAt.none (w : World) : TabAt (w.alloc (.map #[] 0)) w.heap.size 0 (fun _ => 0) := ⟨.map [], World.ownsMap_made _ _ _ _, fun x => rfl⟩
theorem TabAt.kept {w w' : World} {b n : Nat} {f : Nat → Nat} {row : Option Nat} (h : TabAt w b n f) (hg : w.grownBy w' row) (hne : some b ≠ row) : TabAt w' b n f := by
  obtain ⟨D, h1, h2⟩ := h
  exact ⟨D, h1.kept hg hne, h2⟩
theorem TabAt.lt {w : World} {b n : Nat} {f : Nat → Nat} (h : TabAt w b n f) : b < w.heap.size := by obtain ⟨D, h1, -⟩ := h; exact h1.lt
theorem TabAt.below {w w' : World} {b n B : Nat} {f : Nat → Nat} (h : TabAt w b n f) (hb : Below B w w') (hB : b < B) : TabAt w' b n f := by
  obtain ⟨D, h1, h2⟩ := h
  exact ⟨D, map_below h1 hb hB, h2⟩
theorem TabAt.look {w : World} {b n : Nat} {f : Nat → Nat} (h : TabAt w b n f) {x : Nat} (hx : x ≤ maxLen) : (Instr.lookup 71 (.map (some b)) (.int .i64 (x : Int)) false).run Tryz.prog w = .ok (.int .i64 (f x : Int)) w := by
  obtain ⟨D, h1, h2⟩ := h
  obtain ⟨c, hrun, hat2, -⟩ := h1.lookup_int lawI Tryz.underlying71 Tryz.underlying3 (zeroI w) (int_key hx)
  rw [h2] at hat2
  simp only [DataW.lit.injEq, Lit.int.injEq, true_and] at hat2
  rw [hrun, hat2]
theorem TabAt.put {w : World} {b n : Nat} {f : Nat → Nat} (h : TabAt w b n f) {x y : Nat} (hx : x ≤ maxLen) (hy : y ≤ maxLen) (hn : n < maxLen) :
    ∃ w', (Instr.mapUpdate 71 (.map (some b)) (.int .i64 (x : Int)) (.int .i64 (y : Int))).run Tryz.prog w = .ok () w' ∧ TabAt w' b (n + 1) (fun z => if z = x then y else f z) ∧ w.grownBy w' (some b) := by
  obtain ⟨D, h1, h2⟩ := h
  obtain ⟨w', hrun, r1, r2⟩ := h1.update lawI Tryz.underlying71 hn (int_key hx) (plainElem_int Tryz.underlying3 (wf_nat hy))
  refine ⟨w', hrun, ⟨_, r1, fun z => ?_⟩, r2⟩
  have hM := h1.isMap
  by_cases e : z = x
  · subst e
    rw [atKey_put_same hM (lawI.key (int_key hx))]
    simp
  · have hne : (Lit.int .i64 (z : Int)) ≠ .int .i64 (x : Int) := by intro e'; simp at e'; exact e (by exact_mod_cast e')
    rw [atKey_put_other hne, h2]
    simp [e]

/-! map[string]int: texts numbered as they come -/
theorem lawS : Keyed Tryz.prog 9 := string_keyed Tryz.underlying9
theorem str_key (s : ByteArray) (hs : s.size ≤ maxLen) : keyOf Tryz.prog 9 (.string s) = some (.string s.data.toList) := WideMaps.keyOf_string_mk Tryz.underlying9 hs
def numOf (ks : List (List UInt8)) (x : List UInt8) : Nat := ks.findIdx fun y => decide (x = y)
theorem numOf_new {ks : List (List UInt8)} {x : List UInt8} (h : x ∉ ks) : numOf ks x = ks.length := by
  unfold numOf
  exact List.findIdx_eq_length.2 fun y hy => decide_eq_false fun e => h (by rw [e]; exact hy)
theorem numOf_old {ks : List (List UInt8)} {x : List UInt8} (h : x ∈ ks) (t : List (List UInt8)) : numOf (ks ++ t) x = numOf ks x := by
  have hl : ks.findIdx (fun y => decide (x = y)) < ks.length := List.findIdx_lt_length.2 ⟨x, h, by simp⟩
  unfold numOf
  rw [List.findIdx_append, if_pos hl]
theorem numOf_snoc {ks : List (List UInt8)} {x : List UInt8} (h : x ∉ ks) : numOf (ks ++ [x]) x = ks.length := by
  have := numOf_new h
  unfold numOf at this ⊢
  rw [List.findIdx_append, if_neg (by omega)]
  simp
def addT (ks : List (List UInt8)) (x : List UInt8) : List (List UInt8) := if x ∈ ks then ks else ks ++ [x]
structure NumD (D : DataW Unit) (ks : List (List UInt8)) : Prop where
  mem : ∀ x : List UInt8, has D (.string x) = decide (x ∈ ks)
  look : ∀ (x : List UInt8) (z : DataW Unit), x ∈ ks → D.atKey (.string x) z = .lit (.int .i64 (numOf ks x : Int))
  none : ∀ (x : List UInt8) (z : DataW Unit), x ∉ ks → D.atKey (.string x) z = z
  count : size D = ks.length
def NumAt (w : World) (b n : Nat) (ks : List (List UInt8)) : Prop := ∃ D : DataW Unit, w.ownsMap Tryz.prog 9 (plainElem Tryz.prog 3) b n D ∧ NumD D ks
theorem NumAt.made (w : World) : NumAt (w.alloc (.map #[] 0)) w.heap.size 0 [] :=
  ⟨.map [], World.ownsMap_made _ _ _ _, ⟨fun x => by simp; rfl, fun x z h => (List.not_mem_nil h).elim, fun x z h => rfl, rfl⟩⟩
theorem NumAt.kept {w w' : World} {b n : Nat} {ks : List (List UInt8)} {row : Option Nat} (h : NumAt w b n ks) (hg : w.grownBy w' row) (hne : some b ≠ row) : NumAt w' b n ks := by
  obtain ⟨D, h1, h2⟩ := h
  exact ⟨D, h1.kept hg hne, h2⟩
theorem NumAt.lt {w : World} {b n : Nat} {ks : List (List UInt8)} (h : NumAt w b n ks) : b < w.heap.size := by obtain ⟨D, h1, -⟩ := h; exact h1.lt
theorem NumD.put {D : DataW Unit} {ks : List (List UInt8)} (h : NumD D ks) (hT : Tidy D) {s : ByteArray} (hs : s.size ≤ maxLen) (hn : s.data.toList ∉ ks) : NumD (D.put (.string s.data.toList) (.lit (.int .i64 (ks.length : Int)))) (ks ++ [s.data.toList]) := by
  have hM := hT.isMap
  have hk := lawS.key (str_key s hs)
  have hsz := size_put (k := .string s.data.toList) hT (.lit (.int .i64 (ks.length : Int)))
  have hhas := h.mem s.data.toList
  rw [hhas, decide_eq_false hn] at hsz
  refine ⟨fun x => ?_, fun x z hx => ?_, fun x z hx => ?_, ?_⟩
  · by_cases e : x = s.data.toList
    · subst e
      exact (has_put_same hM hk _).trans (by simp)
    · have hne : (Lit.string x) ≠ .string s.data.toList := fun e' => e (by injection e')
      rw [has_put_other hne, h.mem x]
      simp [e]
  · by_cases e : x = s.data.toList
    · subst e
      rw [numOf_snoc hn]
      exact atKey_put_same hM hk _ _
    · have hne : (Lit.string x) ≠ .string s.data.toList := fun e' => e (by injection e')
      have hx2 : x ∈ ks := by simpa [e] using hx
      rw [numOf_old hx2]
      exact (atKey_put_other hne _ _).trans (h.look x z hx2)
  · have hx1 : x ∉ ks := fun h => hx (by simp [h])
    have e : x ≠ s.data.toList := fun e => hx (by simp [e])
    have hne : (Lit.string x) ≠ .string s.data.toList := fun e' => e (by injection e')
    exact (atKey_put_other hne _ _).trans (h.none x z hx1)
  · rw [List.length_append, List.length_singleton]
    have := h.count
    simp at hsz
    omega

theorem NumAt.below {w w' : World} {b n B : Nat} {ks : List (List UInt8)} (h : NumAt w b n ks) (hb : Below B w w') (hB : b < B) : NumAt w' b n ks := by
  obtain ⟨D, h1, h2⟩ := h
  exact ⟨D, map_below h1 hb hB, h2⟩
set_option maxHeartbeats 4000000 in
set_option maxRecDepth 100000 in
/-- (numbers[string]).of -/
theorem numof_any (b n : Nat) (ks : List (List UInt8)) (s : ByteArray) (w : World) (h : NumAt w b n ks) (hs : s.size ≤ maxLen) (hn : n < maxLen) (hk : ks.length ≤ 1000000) :
    Calls Tryz.prog 48 #[.map (some b), .string s] w fun e w' => e = .returned (.int .i64 (numOf ks s.data.toList : Int)) ∧ (∃ m, m ≤ n + 1 ∧ NumAt w' b m (addT ks s.data.toList)) ∧ w.grownBy w' (some b) := by
  obtain ⟨D, hown, hD⟩ := h
  have hkey := str_key s hs
  obtain ⟨N, hN⟩ : ∃ N : Int, (numOf ks s.data.toList : Int) = N := ⟨_, rfl⟩
  simp only [hN]
  by_cases hm : s.data.toList ∈ ks
  · have o1 : has D (.string s.data.toList) = true := by rw [hD.mem, decide_eq_true hm]
    have o2 := hD.look s.data.toList (.lit (.int .i64 0)) hm
    rw [hN] at o2
    have O1 := Lib.hid o1
    have O2 := Lib.hid (And.intro o2 (And.intro hm hD))
    clear o1 o2 hN hm hD
    go_enter Tryz.func48, Tryz.ntmps48
    go_wp2_with (first
      | (at_lookup; refine wpList_lookup_own_ok_int _ rfl _ _ 73 rfl 9 3 .i64 lawS Tryz.underlying73 Tryz.underlying3 (zeroI _) b n D rfl hown _ _ rfl hkey ?_; intro c hat hwc; (obtain rfl : c = N := by have := hat.symm.trans O2.out.1; simpa using this); rw [O1.out])
      | go_in)
    go_ret
    refine ⟨rfl, ⟨n, by omega, ?_⟩, ⟨rfl, rfl, rfl, Nat.le_refl _, fun _ _ _ => rfl⟩⟩
    rw [addT, if_pos O2.out.2.1]
    exact ⟨D, hown, O2.out.2.2⟩
  · have o1 : has D (.string s.data.toList) = false := by rw [hD.mem, decide_eq_false hm]
    have sz : (size D : Int) = N := by rw [hD.count, ← hN, numOf_new hm]
    have hkN : (ks.length : Int) = N := by rw [← hN, numOf_new hm]
    have hwf : (Lit.int .i64 N).wf = true := by rw [← hkN]; exact wf_nat (by unfold maxLen; omega)
    have hput := hD.put (hown.tidy lawS) hs hm
    rw [hkN] at hput
    have O1 := Lib.hid o1
    have O2 := Lib.hid (And.intro hput hm)
    have SZ := Lib.hid sz
    clear o1 hN hm hD hput sz hkN
    go_enter Tryz.func48, Tryz.ntmps48
    go_wp2_with (first
      | (at_lookup; refine wpList_lookup_own_ok_int _ rfl _ _ 73 rfl 9 3 .i64 lawS Tryz.underlying73 Tryz.underlying3 (zeroI _) b n D rfl hown _ _ rfl hkey ?_; intro c hat hwc; rw [O1.out])
      | (at_len; refine wpList_len_own _ rfl _ 73 rfl 9 3 Tryz.underlying73 _ b n D rfl hown ?_; rw [SZ.out])
      | (at_mapUpdate; refine wpList_mapUpdate_own _ rfl _ _ _ 73 rfl 9 3 lawS Tryz.underlying73 _ b n D rfl hown hn _ _ _ rfl rfl hkey (.lit (.int .i64 N)) [] (plainElem_int Tryz.underlying3 hwf) ?_; intro w6 hown6 hgrow6)
      | go_in)
    go_ret
    refine ⟨rfl, ⟨n + 1, by omega, ?_⟩, hgrow6⟩
    rw [addT, if_neg O2.out.2]
    exact ⟨_, hown6, O2.out.1⟩
end Go.Proofs.YtmmlakheimfijaaGreatDoor
namespace Go.Proofs.YtmmlakheimfijaaGreatDoor
set_option linter.unusedVariables false
open Go.RowKit Go.Maps Go.Sort

def In64 (a : Int) : Prop := -9223372036854775808 ≤ a ∧ a ≤ 9223372036854775807
theorem wf_in64 {a : Int} (h : (Lit.int .i64 a).wf = true) : In64 a := by unfold In64; simpa [Lit.wf, IntKind.min, IntKind.max, IntKind.signed, IntKind.bits] using h

/-- a slice of ints, as the walks read it -/
structure IsInts (w : World) (x : Option Addr) (len cap : Nat) (z : Nat → Int) : Prop where
  place : len = 0 ∨ ∃ bb off, x = some ⟨bb, off, none⟩ ∧ bb < w.heap.size ∧ ∀ j, j < len → w.cell? ⟨bb, off + j, none⟩ = some (.int .i64 (z j))
  ins : ∀ j, j < len → In64 (z j)
  bound : len ≤ 9223372036854775807

theorem ints_row {w : World} {x : Option Addr} {len cap : Nat} {zs : List Int} (h : IsRow .i64 w x len cap zs) : IsInts w x len cap (fun j => zs[j]?.getD 0) := by
  rcases h.view with h0 | ⟨bb, off, rfl, hbb, h0, hl, hm, hz, hc, hw⟩
  · exact ⟨.inl h0, fun j hj => by omega, by omega⟩
  · exact ⟨.inr ⟨bb, off, rfl, hbb, fun j hj => hc j (by omega)⟩, fun j hj => wf_in64 (hw j (by omega)), by omega⟩
theorem IsInts.keep {w w' : World} {x : Option Addr} {len cap : Nat} {z : Nat → Int} (h : IsInts w x len cap z) (hb : Below w.heap.size w w') : IsInts w' x len cap z := by
  refine ⟨?_, h.ins, h.bound⟩
  rcases h.place with h0 | ⟨bb, off, rfl, hbb, hc⟩
  · exact .inl h0
  · exact .inr ⟨bb, off, rfl, by have := hb.size; omega, fun j hj => (hb.cell (p := ⟨bb, off + j, none⟩) hbb).trans (hc j hj)⟩

set_option maxHeartbeats 1000000 in
set_option maxRecDepth 100000 in
theorem right_any (x : Option Addr) (len cap : Nat) (z : Nat → Int) (w : World) (h : IsInts w x len cap z) :
    Calls Tryz.prog 60 #[.slice x len cap] w fun e w' => e = .returned (.bool (Bl.right z len)) ∧ Below w.heap.size w w' := by
  have hbound := h.bound
  go_enter Tryz.func60, Tryz.ntmps60
  go_wp2_with fail
  have HI := Lib.hid h
  clear h
  go_loop [3, 8] (fun m c => ∃ (j : Nat) (T : Int), j ≤ len ∧ c = .int .i64 j ∧ m = .int .i64 T ∧ Hid (Bl.top z j = T) ∧ Hid (Bl.okTo z j = true) ∧ 0 ≤ T ∧ T ≤ j) (fun _ c => len - (intOf c).toNat)
  case atStart => exact ⟨0, 0, by omega, rfl, rfl, Lib.hid rfl, Lib.hid rfl, by omega, by omega⟩
  case round =>
    obtain ⟨j, T, hj, rfl, rfl, hT, hok, hT0, hTj⟩ := hrel
    by_cases hlt : j < len
    · rcases HI.out.place with h0 | ⟨bb, off, rfl, hbb, hcs⟩
      · omega
      · have hc := hcs j hlt
        obtain ⟨hy1, hy2⟩ := HI.out.ins j hlt
        obtain ⟨y, hy⟩ : ∃ y, z j = y := ⟨_, rfl⟩
        rw [hy] at hc hy1 hy2
        have HY := Lib.hid hy
        clear hcs hy
        have hstep : Bl.okTo z (j + 1) = (decide (0 ≤ y) && decide (y ≤ T)) := by rw [Bl.okTo_succ, hok.out, hT.out, HY.out]; simp
        have hstop : Bl.top z (j + 1) = if y = T then T + 1 else T := by rw [Bl.top_succ, hT.out, HY.out]
        have HS := Lib.hid hstep
        have HT := Lib.hid hstop
        clear hstep hstop
        by_cases c1 : y < 0
        · go_wp2_with fail
          go_ret
          refine ⟨ret_bool ?_, Below.refl _ _⟩
          have : Bl.okTo z len = false := Bl.okTo_false z (show j + 1 ≤ len by omega) (by rw [HS.out]; simp; omega)
          simp [Bl.right, this]
        · by_cases c2 : T < y
          · go_wp2_with fail
            go_ret
            refine ⟨ret_bool ?_, Below.refl _ _⟩
            have : Bl.okTo z len = false := Bl.okTo_false z (show j + 1 ≤ len by omega) (by rw [HS.out]; simp; omega)
            simp [Bl.right, this]
          · by_cases c3 : y = T
            · have C3 := Lib.hid c3
              have c3' : (y == T) = true := by simp [c3]
              clear c3
              go_wp2_with fail
              go_round
              case rel => exact ⟨j + 1, T + 1, by omega, by simp, rfl, Lib.hid (by rw [HT.out, if_pos C3.out]), Lib.hid (by rw [HS.out]; simp; omega), by omega, by push_cast; omega⟩
              case measure => simp [intOf]; omega
            · have c3' : (y == T) = false := by simp [c3]
              have C3 := Lib.hid c3
              clear c3
              go_wp2_with fail
              go_round
              case rel => exact ⟨j + 1, T, by omega, by simp, rfl, Lib.hid (by rw [HT.out, if_neg C3.out]), Lib.hid (by rw [HS.out]; simp; omega), by omega, by push_cast; omega⟩
              case measure => simp [intOf]; omega
    · go_wp2_with fail
      go_ret
      have e : j = len := by omega
      refine ⟨ret_bool ?_, Below.refl _ _⟩
      subst e
      by_cases h6 : j = 256
      · have := hok.out
        rw [h6] at this
        simp [Bl.right, this, h6]
      · have : ¬ (j : Int) = 256 := by omega
        simp [Bl.right, h6, this]
set_option maxHeartbeats 1000000 in
set_option maxRecDepth 100000 in
theorem refright_any (x : Option Addr) (len cap : Nat) (z : Nat → Int) (w : World) (h : IsInts w x len cap z) :
    Calls Tryz.prog 65 #[.slice x len cap] w fun e w' => e = .returned (.bool (Bl.right z len)) ∧ Below w.heap.size w w' := by
  have hbound := h.bound
  go_enter Tryz.func65, Tryz.ntmps65
  by_cases h6 : len = 256
  · subst h6
    go_wp2_with fail
    have HI := Lib.hid h
    clear h hbound
    go_loop [3, 4] (fun m c => ∃ (j : Nat) (T : Int), j ≤ 256 ∧ c = .int .i64 j ∧ m = .int .i64 (T - 1) ∧ Hid (Bl.top z j = T) ∧ Hid (Bl.okTo z j = true) ∧ 0 ≤ T ∧ T ≤ j) (fun _ c => 256 - (intOf c).toNat)
    case atStart => exact ⟨0, 0, by omega, rfl, rfl, Lib.hid rfl, Lib.hid rfl, by omega, by omega⟩
    case round =>
      obtain ⟨j, T, hj, rfl, rfl, hT, hok, hT0, hTj⟩ := hrel
      by_cases hlt : j < 256
      · rcases HI.out.place with h0 | ⟨bb, off, rfl, hbb, hcs⟩
        · omega
        · have hc := hcs j hlt
          obtain ⟨hy1, hy2⟩ := HI.out.ins j hlt
          obtain ⟨y, hy⟩ : ∃ y, z j = y := ⟨_, rfl⟩
          rw [hy] at hc hy1 hy2
          have HY := Lib.hid hy
          clear hcs hy
          have hstep : Bl.okTo z (j + 1) = (decide (0 ≤ y) && decide (y ≤ T)) := by rw [Bl.okTo_succ, hok.out, hT.out, HY.out]; simp
          have hstop : Bl.top z (j + 1) = if y = T then T + 1 else T := by rw [Bl.top_succ, hT.out, HY.out]
          have HS := Lib.hid hstep
          have HT := Lib.hid hstop
          clear hstep hstop
          by_cases c1 : y < 0
          · go_wp2_with fail
            go_ret
            refine ⟨ret_bool ?_, Below.refl _ _⟩
            have : Bl.okTo z 256 = false := Bl.okTo_false z (show j + 1 ≤ 256 by omega) (by rw [HS.out]; simp; omega)
            simp [Bl.right, this]
          · by_cases c2 : T < y
            · have c2' : T - 1 + 1 < y := by omega
              go_wp2_with fail
              go_ret
              refine ⟨ret_bool ?_, Below.refl _ _⟩
              have : Bl.okTo z 256 = false := Bl.okTo_false z (show j + 1 ≤ 256 by omega) (by rw [HS.out]; simp; omega)
              simp [Bl.right, this]
            · have c2' : ¬ T - 1 + 1 < y := by omega
              by_cases c3 : y = T
              · have C3 := Lib.hid c3
                have c3' : T - 1 < y := by omega
                clear c3
                go_wp2_with fail
                go_round
                case rel => exact ⟨j + 1, T + 1, by omega, by simp, by have := C3.out; simp; omega, Lib.hid (by rw [HT.out, if_pos C3.out]), Lib.hid (by rw [HS.out]; simp; omega), by omega, by push_cast; omega⟩
                case measure => simp [intOf]; omega
              · have c3' : ¬ T - 1 < y := by omega
                have C3 := Lib.hid c3
                clear c3
                go_wp2_with fail
                go_round
                case rel => exact ⟨j + 1, T, by omega, by simp, rfl, Lib.hid (by rw [HT.out, if_neg C3.out]), Lib.hid (by rw [HS.out]; simp; omega), by omega, by push_cast; omega⟩
                case measure => simp [intOf]; omega
      · have e : j = 256 := by omega
        subst e
        go_wp2_with fail
        go_ret
        exact ⟨ret_bool (by simp [Bl.right, hok.out]), Below.refl _ _⟩
  · have h7 : ((len : Int) != 256) = true := by simp; omega
    go_wp2_with fail
    go_ret
    exact ⟨ret_bool (by simp [Bl.right, h6]), Below.refl _ _⟩

theorem right_lit (x : Option Addr) (len cap : Nat) (z : Nat → Int) (R : Bool) (w : World) (h : IsInts w x len cap z) (hR : Bl.right z len = R) :
    Calls Tryz.prog 60 #[.slice x len cap] w fun e w' => e = .returned (.bool R) ∧ Below w.heap.size w w' := by
  subst hR; exact right_any x len cap z w h
theorem refright_lit (x : Option Addr) (len cap : Nat) (z : Nat → Int) (R : Bool) (w : World) (h : IsInts w x len cap z) (hR : Bl.right z len = R) :
    Calls Tryz.prog 65 #[.slice x len cap] w fun e w' => e = .returned (.bool R) ∧ Below w.heap.size w w' := by
  subst hR; exact refright_any x len cap z w h

theorem ok_in (z : Nat → Int) (n j : Nat) (h : Bl.okTo z n = true) (hj : j < n) : 0 ≤ z j ∧ z j ≤ j := by
  have h1 := Bl.okTo_of_le z (show j + 1 ≤ n by omega) h
  rw [Bl.okTo_succ] at h1
  simp at h1
  have := Bl.top_nonneg z j
  omega
def countI (z : Nat → Int) (len : Nat) : Int := if Bl.right z len = true then Bl.most z 256 else 0

set_option maxHeartbeats 1000000 in
set_option maxRecDepth 100000 in
theorem count_any (x : Option Addr) (len cap : Nat) (z : Nat → Int) (w : World) (h : IsInts w x len cap z) :
    Calls Tryz.prog 34 #[.slice x len cap] w fun e w' => e = .returned (.int .i64 (countI z len)) ∧ Below w.heap.size w w' := by
  go_enter Tryz.func34, Tryz.ntmps34
  go_wp2_with fail
  refine (right_any x len cap z _ h).mono ?_
  rintro e w1 ⟨rfl, b1⟩
  have HI := Lib.hid (h.keep b1)
  clear h
  by_cases hR : Bl.right z len = true
  · have hl : len = 256 := by simp [Bl.right] at hR; exact hR.1
    have hok : Bl.okTo z 256 = true := by simp [Bl.right] at hR; rw [← hl]; exact hR.2
    have HR := Lib.hid hR
    rw [HR.out]
    subst hl
    go_wp2_with fail
    go_loop [3, 11] (fun m c => ∃ (j : Nat) (M : Int), j ≤ 256 ∧ c = .int .i64 j ∧ m = .int .i64 M ∧ Hid (Bl.most z j = M) ∧ 0 ≤ M ∧ M ≤ 256) (fun _ c => 256 - (intOf c).toNat)
    case atStart => exact ⟨0, 0, by omega, rfl, rfl, Lib.hid rfl, by omega, by omega⟩
    case round =>
      obtain ⟨j, M, hj, rfl, rfl, hM, hM0, hM1⟩ := hrel
      by_cases hlt : j < 256
      · rcases HI.out.place with h0 | ⟨bb, off, rfl, hbb, hcs⟩
        · omega
        · have hc := hcs j hlt
          obtain ⟨hy1, hy2⟩ := ok_in z 256 j hok hlt
          obtain ⟨y, hy⟩ : ∃ y, z j = y := ⟨_, rfl⟩
          rw [hy] at hc hy1 hy2
          have HY := Lib.hid hy
          have hy3 : y ≤ 255 := by omega
          clear hcs hy
          by_cases c1 : M ≤ y + 1
          · go_wp2_with fail
            all_goals go_round
            all_goals first
              | (case rel => exact ⟨j + 1, y + 1, by omega, by simp, by simp; try omega, Lib.hid (by rw [Bl.most_succ, hM.out, HY.out]; omega), by omega, by omega⟩)
              | skip
            all_goals first
              | (case measure => simp [intOf]; omega)
              | skip
          · go_wp2_with fail
            all_goals go_round
            all_goals first
              | (case rel => exact ⟨j + 1, M, by omega, by simp, by simp; try omega, Lib.hid (by rw [Bl.most_succ, hM.out, HY.out]; omega), by omega, by omega⟩)
              | skip
            all_goals first
              | (case measure => simp [intOf]; omega)
              | skip
      · have e : j = 256 := by omega
        subst e
        go_wp2_with fail
        go_ret
        exact ⟨ret_int (by simp [countI, HR.out, hM.out]), b1⟩
  · have hR' : Bl.right z len = false := by simpa using hR
    have HR := Lib.hid hR'
    rw [HR.out]
    clear hR hR'
    go_wp2_with fail
    go_ret
    exact ⟨by simp [countI, HR.out], b1⟩
set_option maxHeartbeats 1000000 in
set_option maxRecDepth 100000 in
theorem refcount_any (x : Option Addr) (len cap : Nat) (z : Nat → Int) (w : World) (h : IsInts w x len cap z) :
    Calls Tryz.prog 38 #[.slice x len cap] w fun e w' => e = .returned (.int .i64 (countI z len)) ∧ Below w.heap.size w w' := by
  go_enter Tryz.func38, Tryz.ntmps38
  have hbound := h.bound
  go_wp2_with fail
  have HI := Lib.hid h
  by_cases hR : Bl.right z len = true
  · have hl : len = 256 := by simp [Bl.right] at hR; exact hR.1
    have hok : Bl.okTo z 256 = true := by simp [Bl.right] at hR; rw [← hl]; exact hR.2
    have HR := Lib.hid hR
    subst hl
    clear hR h hbound
    go_loopw [3, 4] (fun m c wr => ∃ (j : Nat) (M : Int), j ≤ 256 ∧ c = .int .i64 j ∧ m = .int .i64 (M - 1) ∧ Hid (Bl.most z j = M) ∧ 0 ≤ M ∧ M ≤ 256 ∧ Below w.heap.size w wr) (fun _ c _ => 256 - (intOf c).toNat)
    case atStart => exact ⟨0, 0, by omega, rfl, rfl, Lib.hid rfl, by omega, by omega, Below.refl _ _⟩
    case round =>
      obtain ⟨j, M, hj, rfl, rfl, hM, hM0, hM1, hB⟩ := hrel
      have HI2 := Lib.hid (HI.out.keep hB)
      by_cases hlt : j < 256
      · rcases HI.out.place with h0 | ⟨bb, off, rfl, hbb, hcs⟩
        · omega
        · go_wp2_with fail
          refine (refright_lit _ _ _ z true _ HI2.out HR.out).mono ?_
          rintro e w1 ⟨rfl, b1⟩
          have hB1 : Below w.heap.size w w1 := hB.trans (b1.mono hB.size)
          have hc := (hB1.cell (p := ⟨bb, off + j, none⟩) hbb).trans (hcs j hlt)
          obtain ⟨hy1, hy2⟩ := ok_in z 256 j hok hlt
          obtain ⟨y, hy⟩ : ∃ y, z j = y := ⟨_, rfl⟩
          rw [hy] at hc hy1 hy2
          have HY := Lib.hid hy
          have hy3 : y ≤ 255 := by omega
          clear hcs hy b1
          by_cases c1 : M - 1 < y
          · go_wp2_with fail
            go_roundw
            case rel => exact ⟨j + 1, y + 1, by omega, by simp, by simp, Lib.hid (by rw [Bl.most_succ, hM.out, HY.out]; omega), by omega, by omega, hB1⟩
            case measure => simp [intOf]; omega
          · go_wp2_with fail
            go_roundw
            case rel => exact ⟨j + 1, M, by omega, by simp, rfl, Lib.hid (by rw [Bl.most_succ, hM.out, HY.out]; omega), by omega, by omega, hB1⟩
            case measure => simp [intOf]; omega
      · have e : j = 256 := by omega
        subst e
        go_wp2_with fail
        go_ret
        exact ⟨ret_int (by simp [countI, HR.out, hM.out]), hB⟩
  · have hR' : Bl.right z len = false := by simpa using hR
    have HR := Lib.hid hR'
    clear hR hR' h
    refine wp_loop_rounds 1 ?_
    rw [rounds_succ]
    by_cases h0 : 0 < len
    · go_wp2_with fail
      refine (refright_lit _ _ _ z false _ HI.out HR.out).mono ?_
      rintro e w1 ⟨rfl, b1⟩
      go_wp2_with fail
      go_ret
      exact ⟨ret_int (by simp [countI, HR.out]), b1⟩
    · have e : len = 0 := by omega
      subst e
      go_wp2_with fail
      go_ret
      exact ⟨ret_int (by simp [countI, HR.out]), Below.refl _ _⟩
end Go.Proofs.YtmmlakheimfijaaGreatDoor
