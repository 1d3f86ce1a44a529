/-
  Words on bytes: a row of bytes of the call's own, its text, one append. Conditions: each lemma says its own.
-/
import Derived.Test.YtgkpgjbgcimijaaDoorKit
import Derived.Laws.BytesArg
import Derived.Lib.QuietBelow
namespace Go.Proofs.YtgkpgjbgcimijaaDoor
set_option linter.unusedVariables false
open Go.RowKit

theorem ret_str {a b : ByteArray} (h : a = b) : Ending.returned (.string a) = .returned (.string b) := by rw [h]

/-- bytes as cells -/
def byteCells (l : List UInt8) : List Value := l.map fun b => Value.int .u8 (b.toNat : Int)
theorem byteCells_len (l : List UInt8) : (byteCells l).length = l.length := by simp [byteCells]
theorem byteCells_snoc (l : List UInt8) (b : UInt8) : byteCells l ++ [Value.int .u8 (b.toNat : Int)] = byteCells (l ++ [b]) := by simp [byteCells]
theorem byteCells_append (l m : List UInt8) : byteCells l ++ byteCells m = byteCells (l ++ m) := by simp [byteCells]
theorem byteCells_one (l : List UInt8) : ∀ u ∈ byteCells l, u.oneCell' = true := by
  intro u hu
  obtain ⟨_, _, rfl⟩ := List.mem_map.1 hu
  rfl

/-- the text of a list of bytes -/
def txt (l : List UInt8) : ByteArray := ⟨l.toArray⟩
theorem txt_toList (l : List UInt8) : (txt l).toList = l := ByteArray.toList_mk l
theorem txt_size (l : List UInt8) : (txt l).size = l.length := by simp [txt, ByteArray.size]
theorem txt_data (s : ByteArray) : txt s.data.toList = s := by simp [txt]
theorem txt_append (l m : List UInt8) : txt l ++ txt m = txt (l ++ m) := by
  have := ByteArray.mk_append_mk l m
  simpa [txt] using this

theorem extract_txt (s : ByteArray) (a b : Nat) : s.extract a b = txt ((s.data.toList.drop a).take (b - a)) := by
  have := ByteArray.extract_mk s.data.toList a b
  simpa [txt] using this

/-- behind a call that made memory: all old cells and marks read as before (rules for the walk) -/
theorem bcell {W w1 : World} (hb : Below W.heap.size W w1) : (∀ b o, b < W.heap.size → w1.cell? ⟨b, o, none⟩ = W.cell? ⟨b, o, none⟩) ∧ (∀ b o, b < W.heap.size → w1.frozen? ⟨b, o, none⟩ = W.frozen? ⟨b, o, none⟩) :=
  ⟨fun b o h => hb.cell (p := ⟨b, o, none⟩) h, fun b o h => hb.frozen (p := ⟨b, o, none⟩) h⟩

/-- a whole block reads as before behind a call that made memory -/
theorem keepB {W w1 : World} {g : Nat} {cs : Array Value} (hb : Below W.heap.size W w1) (h : ∀ i, W.cell? ⟨g, i, none⟩ = cs[i]?) (hg : g < W.heap.size) : ∀ i, w1.cell? ⟨g, i, none⟩ = cs[i]? :=
  fun i => (hb.cell (p := ⟨g, i, none⟩) hg).trans (h i)
theorem keepF {W w1 : World} {g : Nat} (hb : Below W.heap.size W w1) (h : ∀ i, W.frozen? ⟨g, i, none⟩ = false) (hg : g < W.heap.size) : ∀ i, w1.frozen? ⟨g, i, none⟩ = false :=
  fun i => (hb.frozen (p := ⟨g, i, none⟩) hg).trans (h i)
theorem newB (W : World) (cs : Array Value) (t : TypeId) : ∀ i, (W.alloc (.cells cs t)).cell? ⟨W.heap.size, i, none⟩ = cs[i]? := fun i => World.cell?_alloc_at _ _ _ _ rfl
theorem newF (W : World) (cs : Array Value) (t : TypeId) : ∀ i, (W.alloc (.cells cs t)).frozen? ⟨W.heap.size, i, none⟩ = false := fun i => World.frozen?_alloc_at _ _ _ _ rfl
theorem oldB {W : World} {g : Nat} {cs : Array Value} (o : Obj) (h : ∀ i, W.cell? ⟨g, i, none⟩ = cs[i]?) (hg : g < W.heap.size) : ∀ i, (W.alloc o).cell? ⟨g, i, none⟩ = cs[i]? :=
  fun i => (World.cell?_alloc_past _ _ _ hg).trans (h i)
theorem oldF {W : World} {g : Nat} (o : Obj) (h : ∀ i, W.frozen? ⟨g, i, none⟩ = false) (hg : g < W.heap.size) : ∀ i, (W.alloc o).frozen? ⟨g, i, none⟩ = false :=
  fun i => (World.frozen?_alloc_past _ _ _ hg).trans (h i)

theorem regB {W : World} {g : Nat} {cs : Array Value} (h : ∀ i, W.cell? ⟨g, i, none⟩ = cs[i]?) (hg : g < W.heap.size) : ∀ d os i, (Sort.grow (redrawn W d) os).cell? ⟨g, i, none⟩ = cs[i]? :=
  fun d os i => ((below_regrown W d os).cell (p := ⟨g, i, none⟩) hg).trans (h i)

/-- one new cell that holds a byte -/
theorem one_new {w : World} {v : Value} {t : TypeId} : ∀ j u, [v][j]? = some u → (w.alloc (.cells #[v] t)).cell? ((⟨w.heap.size, 0, none⟩ : Addr).add j) = some u := by
  intro j u hj
  match j, hj with
  | 0, hj =>
    simp at hj
    subst hj
    rw [Addr.add_lit, World.cell?_alloc_at _ _ _ _ rfl]
    rfl

/-- string(b), b a row of the call's own, whatever it is -/
theorem run_convert_own {P : Program} {w : World} {base : Nat} {e : TypeId} {v : Value} {n : Nat} {l : List UInt8} (src dst : TypeId)
    (hs : P.underlying src = some (.slice e)) (he : P.underlying e = some (.int .u8)) (hd : P.underlying dst = some .string)
    (h : w.ownsRow base e 1 v n (byteCells l)) : (convert src dst v).run P w = .ok (.string (txt l)) w := by
  have hn : l.length = n := by have := h.1; rw [byteCells_len] at this; omega
  rcases h.2 with ⟨rfl, h0⟩ | ⟨g, cap, cur, rfl, hb, hg, hnc, hcm, hcs, htake⟩
  · have hl : l = [] := List.eq_nil_of_length_eq_zero (by omega)
    subst hl
    rw [run_convert_bytes_nil w src e hs he 0 0 dst hd]
    rfl
  · subst hn
    refine run_convert_bytes_back w src dst e _ cap l hs he hd fun j hj => ?_
    rw [h.cells (g := g) rfl j (.int .u8 (l[j].toNat : Int))]
    simp [byteCells, hj]
end Go.Proofs.YtgkpgjbgcimijaaDoor
