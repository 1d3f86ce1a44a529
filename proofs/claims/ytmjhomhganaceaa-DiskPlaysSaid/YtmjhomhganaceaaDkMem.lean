/-
  A disk in memory; what copies write. Conditions: each lemma says its own.
-/
import Derived.Test.YtmjhomhganaceaaDkMath
import Derived.Test.YtmjhomhganaceaaChecked
import Derived.Test.YtmjhomhganaceaaReads
import Derived.Maps.Own
import Derived.Maps.OwnOps
import Derived.Maps.OwnSet
import Derived.Laws.CopyOwn
import Derived.Laws.CopyRow
import Derived.Laws.MakeOwn
namespace Go.Proofs.Ytmjhomhganaceaa
set_option linter.unusedVariables false
open Go.RowKit Go.Maps

theorem add_lit0 (g o i : Nat) : (⟨g, o, none⟩ : Addr).add i = ⟨g, o + i, none⟩ := Addr.add_lit g o i

/-- 'copy(dst, s)', s a string at least as long as dst: as many of its bytes go over as dst has -/
theorem run_copy_start {P : Program} (w : World) (dT sT ty elem : TypeId) (g o dLen dCap : Nat) (s : ByteArray) (cur : Array Value) (t : TypeId)
    (hu : P.underlying dT = some (.slice elem)) (hs : (P.info? elem).map (·.size) = some 1) (hg : w.heap[g]? = some (.cells cur t (0, 0))) (hle : dLen ≤ s.size) (hfit : o + dLen ≤ cur.size) :
    (Builtin.copy_ #[dT, sT] ty #[.slice (some ⟨g, o, none⟩) dLen dCap, .string s]).run P w =
      .ok (goInt dLen) (w.setRow g (cur.toList.take o ++ byteCells (s.data.toList.take dLen) ++ cur.toList.drop (o + dLen)).toArray) := by
  have hlen : (byteCells (s.data.toList.take dLen)).length = dLen := by rw [byteCells_len, List.length_take, ← size_lst]; omega
  have hst := run_storeCells_at P g o t (byteCells (s.data.toList.take dLen)) 0 cur w hg (by rw [hlen]; simpa using hfit) (byteCells_one _)
  have hmin : Nat.min s.size dLen = dLen := Nat.min_eq_right hle
  have htk : List.take dLen (List.map (fun b : UInt8 => Value.int IntKind.u8 (b.toNat : Int)) s.data.toList) = byteCells (s.data.toList.take dLen) := by
    unfold byteCells
    rw [List.map_take]
  rw [hlen] at hst
  simp only [Nat.add_zero] at hst
  cases hq : P.info? elem with
  | none => simp [hq] at hs
  | some i =>
    simp [Builtin.copy_, run_underlying hu, Builtin.lenOf, Builtin.firstCells, sizeOf, typeInfo, hq, hmin]
    rw [htk, hst]
    simp [Result.andThen]

/-- 'copy(dst, src)' of rows of elements of whatever size, as long as each other -/
theorem run_copy_all {P : Program} (w : World) (dT sT ty elem : TypeId) (g dCap : Nat) (a : Addr) (n sCap size : Nat) (cur : Array Value) (t : TypeId) (cs : List Value)
    (hu : P.underlying dT = some (.slice elem)) (hs : (P.info? elem).map (·.size) = some size)
    (hg : w.heap[g]? = some (.cells cur t (0, 0))) (hn : cs.length = n * size)
    (hsrc : ∀ j v, cs[j]? = some v → w.cell? (a.add j) = some v) (hfit : cs.length = cur.size) (h1 : ∀ v ∈ cs, v.oneCell' = true) :
    (Builtin.copy_ #[dT, sT] ty #[.slice (some ⟨g, 0, none⟩) n dCap, .slice (some a) n sCap]).run P w = .ok (goInt n) (w.setRow g cs.toArray) := by
  have hl := run_loadCells_list (P := P) w a cs hsrc
  have hst := run_storeCells_at P g 0 t cs 0 cur w hg (by simp; omega) h1
  simp only [Nat.add_zero, Nat.zero_add, List.take_zero, List.nil_append] at hst
  rw [List.drop_of_length_le (by rw [hfit]; simp), List.append_nil] at hst
  cases hq : P.info? elem with
  | none => simp [hq] at hs
  | some i =>
    have hi : i.size = size := by simpa [hq] using hs
    simp [Builtin.copy_, run_underlying hu, Builtin.lenOf, Builtin.firstCells, sizeOf, typeInfo, hq, hi, ← hn, hl, hst]

/-- the crashes' map reads as the crashes asked for -/
def CrashMap {H : Type} (D : DataW H) (cf : Int → Option Nat) : Prop :=
  ∀ t : Int, has D (.int .i64 t) = (cf t).isSome ∧ ∀ k, cf t = some k → D.atKey (.int .i64 t) (.lit (.int .i64 0)) = .lit (.int .i64 (k : Int))

def diskV (g n m : Nat) (wr : Nat) (dn : Bool) : Array Value := #[.slice (some ⟨g, 0, none⟩) n n, .map (some m), .int .i64 wr, .bool dn]

theorem grown_of_below {w w' : World} (h : Below w.heap.size w w') : w.grownBy w' none := ⟨h.os, h.tape, h.output, h.size, fun k hk _ => h.block k hk⟩
theorem below_of_grown {w w' : World} {B : Nat} {row : Option Nat} (h : w.grownBy w' row) (hB : B ≤ w.heap.size) (hr : ∀ k, row = some k → B ≤ k) : Below B w w' := (Below.refl B w).grown h hB hr
/-- of all that lay in memory, only the blocks of S may have turned -/
structure Only (S : List Nat) (w w' : World) : Prop where
  os : w'.os = w.os
  tape : w'.tape = w.tape
  output : w'.output = w.output
  size : w.heap.size ≤ w'.heap.size
  block : ∀ k, k < w.heap.size → k ∉ S → w'.heap[k]? = w.heap[k]?
theorem Only.refl (S : List Nat) (w : World) : Only S w w := ⟨rfl, rfl, rfl, Nat.le_refl _, fun _ _ _ => rfl⟩
theorem Only.trans {S : List Nat} {w w' w'' : World} (h : Only S w w') (h' : Only S w' w'') : Only S w w'' :=
  ⟨h'.os.trans h.os, h'.tape.trans h.tape, h'.output.trans h.output, Nat.le_trans h.size h'.size, fun k hk hS => (h'.block k (Nat.lt_of_lt_of_le hk h.size) hS).trans (h.block k hk hS)⟩
theorem Only.more {S T : List Nat} {w w' : World} (h : Only S w w') (hs : ∀ k ∈ S, k ∈ T) : Only T w w' := ⟨h.os, h.tape, h.output, h.size, fun k hk hT => h.block k hk fun hS => hT (hs k hS)⟩
theorem Only.of_below {S : List Nat} {w w' : World} (h : Below w.heap.size w w') : Only S w w' := ⟨h.os, h.tape, h.output, h.size, fun k hk _ => h.block k hk⟩
theorem Only.below {S : List Nat} {B : Nat} {w w' : World} (h : Only S w w') (hB : B ≤ w.heap.size) (hS : ∀ k ∈ S, B ≤ k) : Below B w w' :=
  ⟨h.os, h.tape, h.output, h.size, fun k hk => h.block k (by omega) fun hm => by have := hS k hm; omega⟩
theorem Only.setCell {S : List Nat} {w w' : World} (h : Only S w w') {a : Addr} (ha : a.block ∈ S) (u : Value) : Only S w (w'.setCell a u) :=
  ⟨h.os, h.tape, h.output, by simpa [World.setCell] using h.size, fun k hk hS => (heap_setCell_other w' a k u (fun e => hS (e ▸ ha))).trans (h.block k hk hS)⟩
theorem Only.setRow {S : List Nat} {w w' : World} (h : Only S w w') {g : Nat} (ha : g ∈ S) (cs : Array Value) : Only S w (w'.setRow g cs) :=
  ⟨h.os, h.tape, h.output, by simpa [World.setRow] using h.size, fun k hk hS => (setRow_other w' g k cs (by rintro rfl; exact hS ha)).trans (h.block k hk hS)⟩
theorem Only.alloc {S : List Nat} {w w' : World} (h : Only S w w') (o : Obj) : Only S w (w'.alloc o) :=
  h.trans (Only.of_below ((Below.refl _ _).alloc (Nat.le_refl _) _))
theorem Only.drewN {S : List Nat} {w w' : World} (h : Only S w w') (n : Nat) : Only S w (w'.drewN n) := ⟨h.os, h.tape, h.output, h.size, h.block⟩
theorem Only.drew {S : List Nat} {w w' : World} (h : Only S w w') : Only S w w'.drew := ⟨h.os, h.tape, h.output, h.size, h.block⟩
theorem Blk.only {S : List Nat} {w w' : World} {g : Nat} {t : TypeId} {cs : Array Value} (h : Blk w g t cs) (ho : Only S w w') (hg : g ∉ S) : Blk w' g t cs := (ho.block g h.lt hg).trans h
theorem map_only {H : Type} {P : Program} {k : TypeId} {R : Value → Option (DataW H × List MemPlace)} {b n : Nat} {D : DataW H} {S : List Nat} {w w' : World} (h : w.ownsMap P k R b n D) (ho : Only S w w') (hb : b ∉ S) : w'.ownsMap P k R b n D := by
  have hlt := h.lt
  obtain ⟨es, clock, hh, F, hs, hD⟩ := h
  exact ⟨es, clock, (ho.block b hlt hb).trans hh, F, hs, hD⟩

/-- block d is a disk of n blocks whose bytes, in block g, are F, at which as many writes were, with the crashes that block m holds -/
def DiskAt (d g m n : Nat) (F : List UInt8) (cf : Int → Option Nat) (wr : Nat) (dn : Bool) (w : World) : Prop :=
  ∃ (k : Nat) (D : DataW Unit), g ≠ d ∧ F.length = n * 128 ∧ Blk w d 36 (diskV g n m wr dn) ∧ Blk w g 54 (byteCells F).toArray ∧
    w.ownsMap Try.prog 3 (plainElem Try.prog 3) m k D ∧ CrashMap D cf

theorem DiskAt.only {d g m n : Nat} {F : List UInt8} {cf : Int → Option Nat} {wr : Nat} {dn : Bool} {S : List Nat} {w w' : World} (h : DiskAt d g m n F cf wr dn w) (ho : Only S w w') (h1 : d ∉ S) (h2 : g ∉ S) (h3 : m ∉ S) : DiskAt d g m n F cf wr dn w' := by
  obtain ⟨k, D, h0, h4, h5, h6, h7, h8⟩ := h
  exact ⟨k, D, h0, h4, h5.only ho h1, h6.only ho h2, map_only h7 ho h3, h8⟩
theorem DiskAt.keep {d g m n : Nat} {F : List UInt8} {cf : Int → Option Nat} {wr : Nat} {dn : Bool} {w w' : World} (h : DiskAt d g m n F cf wr dn w) (hb : Below w.heap.size w w') : DiskAt d g m n F cf wr dn w' :=
  h.only (Only.of_below (S := []) hb) (by simp) (by simp) (by simp)

theorem blk_map_ne {H : Type} {P : Program} {k : TypeId} {R : Value → Option (DataW H × List MemPlace)} {b n : Nat} {D : DataW H} {w : World} {g : Nat} {t : TypeId} {cs : Array Value} (h : w.ownsMap P k R b n D) (hg : Blk w g t cs) : b ≠ g := by
  rintro rfl
  obtain ⟨es, clock, hh, _⟩ := h
  unfold Blk at hg
  rw [hh] at hg
  cases hg

theorem lawI : Keyed Try.prog 3 := int_keyed Try.underlying3
theorem zeroI (w : World) : (zeroValue 3).run Try.prog w = .ok (.int .i64 0) w := by kernel_rfl
/-- a look into the crashes' map -/
theorem look_run {w : World} {m k : Nat} {D : DataW Unit} {cf : Int → Option Nat} (h : w.ownsMap Try.prog 3 (plainElem Try.prog 3) m k D) (hc : CrashMap D cf) (t : Int) (ht : (Lit.int .i64 t).wf = true) :
    (Instr.lookup 34 (.map (some m)) (.int .i64 t) true).run Try.prog w = .ok (.tuple #[.int .i64 (((cf t).getD 0 : Nat) : Int), .bool (cf t).isSome]) w := by
  obtain ⟨v, ps, hrun, hv⟩ := h.look_ok lawI Try.underlying34 (zeroI w) (plainElem_int Try.underlying3 (by decide)) (keyOf_int_mk Try.underlying3 ht)
  obtain ⟨c, rfl, hcc, _⟩ := plainElem_int_inv Try.underlying3 hv
  have e := congrArg Prod.fst hcc
  simp only at e
  obtain ⟨h1, h2⟩ := hc t
  rw [hrun, h1]
  congr 4
  cases hf : cf t with
  | none =>
    rw [hf] at h1
    rw [atKey_of_not_has h1] at e
    injection e with e
    injection e with e1 e2
    simp [e2]
  | some k =>
    rw [h2 k hf] at e
    injection e with e
    injection e with e1 e2
    simp [← e2]
end Go.Proofs.Ytmjhomhganaceaa
