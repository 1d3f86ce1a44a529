/-
  Small words shared by this seat's texts: a slice of integers that came in; endings. Conditions: none of their own (each lemma says its own).
  Words on bytes: a row of bytes of the call's own, its text, one append. Conditions: each lemma says its own.
  A region that draws its order: its first n operations read, or call what makes memory alone; the rest (a store, say) stands behind them all, in one forced order. One walk serves every order. Conditions: the lemma says its own.
  Words for memory: a slice that reads as a list, a block that is known whole, an append from whatever source (turned to this seat). Conditions: each lemma says its own.
  A slice of structs that came in, each field one cell: opened at every element and field; a list out of what holds at each index. Conditions: each lemma says its own.
  What becomes of memory when only some blocks may turn. Conditions: each lemma says its own.
  A region that draws its order, whose first n operations read, call what makes memory alone, or lay new variables; the rest stands behind them all in one forced order. One walk serves every order; the new variables lie in blocks of their own. Conditions: the lemma says its own.
  A region that draws its order, whose first operations lay new variables among others: the lemma itself. Conditions: the lemma says its own.
  A region that draws its order, walked in an order of one's own: some operations that are free are walked first (hd, in that order; they read, or call what makes memory), the rest (tl) stands behind them in one forced order; what is done already (listed) may be whatever a walk has taken first. Conditions: each lemma says its own.
  A region that draws its order, in which a new variable is laid at a time of its own, and whose one call's result leans on memory: hd (quiet, in any order), the call c, dl (quiet, in any order behind it), rest (forced, behind all); the variable k is laid anywhere ahead of rest. Conditions: each lemma says its own.
  A region that draws its order, walked step by step: what reads only is walked ahead (all that is ready), a call is walked when it alone is ready; a call's result may lean on memory. Conditions: each lemma says its own.
-/
import Derived.WalkKit
import Derived.ProofKit
import Derived.OpenShut
import Derived.ShutString
import Derived.ChangeOld
import Derived.Below
import Derived.Lib.Hide
import Derived.WalkLawsBesides
import Derived.WalkSpells
import Derived.Deep.QuietTactic
import Derived.BigQuiet
import Derived.Laws.BytesArg
import Derived.Lib.QuietBelow
import Derived.StillTailTactics
import Derived.Deep.Quiet
import Derived.Laws.OwnMore
import Derived.Deep.AppendLies
import Derived.Deep.Draws
import Derived.Laws.Rows
import Derived.Maps.AppendAt
import Derived.RegionTactic
import Derived.OwnWalk
import Derived.Deep.Slices
import Derived.Deep.Fields
import Derived.ChangeSame
import Derived.Maps.Own
import Derived.Maps.OwnOps
import Derived.Maps.OwnSet
import Derived.OrdersHeld
namespace Go.Proofs.YtpknglbpbodnbaaDoor
set_option linter.unusedVariables false
open Go.ChangeShapes Go.WideShapes Go.ChangeAt Go.RowKit

/-- What a walk is told of a slice of integers that came in: it is nil; or it leads to a row of 'cap' cells, the numbers 'zs' (the first 'len' are its elements), each fitting its kind. -/
def IsRow (k : IntKind) (w : World) (a : Option Addr) (len cap : Nat) (zs : List Int) : Prop :=
  (a = none ∧ len = 0 ∧ cap = 0 ∧ zs = []) ∨
  ∃ x, a = some x ∧ len ≤ cap ∧ cap ≤ maxLen ∧ zs.length = cap ∧ (∀ i, i < zs.length → w.cell? (x.add i) = some (.int k (zs.getD i 0))) ∧ ∀ n ∈ zs, (Lit.int k n).wf = true

theorem ret_int {k : IntKind} {a b : Int} (h : a = b) : Ending.returned (.int k a) = .returned (.int k b) := by rw [h]
theorem ret_bool {a b : Bool} (h : a = b) : Ending.returned (.bool a) = .returned (.bool b) := by rw [h]

theorem isRow_of {P : Program} {W : World} {H : Type} {enc : TypeId × Value → H} {base : Nat} {held : Bool} {t e : TypeId} {k : IntKind} {a : Option Addr} {len cap : Nat} {d : DataW H} {ps : List MemPlace}
    (ht : P.underlying t = some (.slice e)) (he : P.underlying e = some (.int k)) (hc : P.cellsOf e = 1)
    (h : DataW.Trod enc P W base (fun _ => true) held t (.slice a len cap) d ps) : ∃ zs, IsRow k W a len cap zs := by
  obtain ⟨fuel, hf⟩ := h
  rcases open_ints ht he hc hf with ⟨hcs, _⟩ | ⟨x, l, c, zs, hcs, _, hl, hm, hz, hps, hcell, hwz⟩
  · simp [Value.cells] at hcs
    obtain ⟨rfl, rfl, rfl⟩ := hcs
    exact ⟨[], .inl ⟨rfl, rfl, rfl, rfl⟩⟩
  · simp [Value.cells] at hcs
    obtain ⟨rfl, rfl, rfl⟩ := hcs
    exact ⟨zs, .inr ⟨_, rfl, hl, hm, by simpa using hz, hcell, hwz⟩⟩

/-- the same, parted: empty (of whatever address), or a row with an address -/
theorem IsRow.view {k : IntKind} {w : World} {a : Option Addr} {len cap : Nat} {zs : List Int} (h : IsRow k w a len cap zs) :
    len = 0 ∨ ∃ b off, a = some ⟨b, off, none⟩ ∧ b < w.heap.size ∧ 0 < len ∧ len ≤ cap ∧ cap ≤ 9223372036854775807 ∧ zs.length = cap ∧
      (∀ j, j < zs.length → w.cell? ⟨b, off + j, none⟩ = some (.int k (zs[j]?.getD 0))) ∧ ∀ j, j < zs.length → (Lit.int k (zs[j]?.getD 0)).wf = true := by
  rcases h with ⟨_, h0, _, _⟩ | ⟨x, rfl, hl, hm, hz, hcell, hwz⟩
  · exact .inl h0
  · by_cases h0 : len = 0
    · exact .inl h0
    · obtain ⟨b, off, spot⟩ := x
      have hc0 := hcell 0 (by omega)
      have hspot : spot = none := by simpa [Addr.add] using World.cell?_spot hc0
      subst hspot
      have hc0' : w.cell? ⟨b, off, none⟩ = some (.int k (zs.getD 0 0)) := by simpa [Addr.add] using hc0
      refine .inr ⟨b, off, rfl, World.block_lt_of_cell? w _ hc0', by omega, hl, hm, hz, fun j hj => ?_, fun j hj => ?_⟩
      · have hc := hcell j hj
        rw [Addr.add_lit] at hc
        simpa [List.getD] using hc
      · rw [List.getElem?_eq_getElem hj]
        exact hwz _ (List.getElem_mem hj)

/-- a row that was just made of literals -/
theorem IsRow.made {k : IntKind} (w : World) (t : TypeId) (zs : List Int) (n : Nat) (hn : zs.length = n) (hm : n ≤ maxLen) (hw : ∀ x ∈ zs, (Lit.int k x).wf = true) :
    IsRow k (w.alloc (.cells (zs.map (Value.int k)).toArray t)) (some ⟨w.heap.size, 0, none⟩) n n zs := by
  subst hn
  refine .inr ⟨_, rfl, Nat.le_refl _, hm, rfl, fun i hi => ?_, hw⟩
  rw [Addr.add_lit, World.cell?_alloc_at _ _ _ _ rfl]
  simp [List.getElem?_eq_getElem hi, List.getD]
end Go.Proofs.YtpknglbpbodnbaaDoor
namespace Go.Proofs.YtpknglbpbodnbaaDoor
set_option linter.unusedVariables false
open Go.RowKit

theorem ret_str {a b : ByteArray} (h : a = b) : Ending.returned (.string a) = .returned (.string b) := by rw [h]

/-- bytes as cells -/
def byteCells (l : List UInt8) : List Value := l.map fun b => Value.int .u8 (b.toNat : Int)
theorem byteCells_len (l : List UInt8) : (byteCells l).length = l.length := by simp [byteCells]
theorem byteCells_snoc (l : List UInt8) (b : UInt8) : byteCells l ++ [Value.int .u8 (b.toNat : Int)] = byteCells (l ++ [b]) := by simp [byteCells]
theorem byteCells_append (l m : List UInt8) : byteCells l ++ byteCells m = byteCells (l ++ m) := by simp [byteCells]
theorem byteCells_one (l : List UInt8) : ∀ u ∈ byteCells l, u.oneCell' = true := by
  intro u hu
  obtain ⟨_, _, rfl⟩ := List.mem_map.1 hu
  rfl

/-- the text of a list of bytes -/
def txt (l : List UInt8) : ByteArray := ⟨l.toArray⟩
theorem txt_toList (l : List UInt8) : (txt l).toList = l := ByteArray.toList_mk l
theorem txt_size (l : List UInt8) : (txt l).size = l.length := by simp [txt, ByteArray.size]
theorem txt_data (s : ByteArray) : txt s.data.toList = s := by simp [txt]
theorem txt_append (l m : List UInt8) : txt l ++ txt m = txt (l ++ m) := by
  have := ByteArray.mk_append_mk l m
  simpa [txt] using this

theorem extract_txt (s : ByteArray) (a b : Nat) : s.extract a b = txt ((s.data.toList.drop a).take (b - a)) := by
  have := ByteArray.extract_mk s.data.toList a b
  simpa [txt] using this

/-- behind a call that made memory: all old cells and marks read as before (rules for the walk) -/
theorem bcell {W w1 : World} (hb : Below W.heap.size W w1) : (∀ b o, b < W.heap.size → w1.cell? ⟨b, o, none⟩ = W.cell? ⟨b, o, none⟩) ∧ (∀ b o, b < W.heap.size → w1.frozen? ⟨b, o, none⟩ = W.frozen? ⟨b, o, none⟩) :=
  ⟨fun b o h => hb.cell (p := ⟨b, o, none⟩) h, fun b o h => hb.frozen (p := ⟨b, o, none⟩) h⟩

/-- a whole block reads as before behind a call that made memory -/
theorem keepB {W w1 : World} {g : Nat} {cs : Array Value} (hb : Below W.heap.size W w1) (h : ∀ i, W.cell? ⟨g, i, none⟩ = cs[i]?) (hg : g < W.heap.size) : ∀ i, w1.cell? ⟨g, i, none⟩ = cs[i]? :=
  fun i => (hb.cell (p := ⟨g, i, none⟩) hg).trans (h i)
theorem keepF {W w1 : World} {g : Nat} (hb : Below W.heap.size W w1) (h : ∀ i, W.frozen? ⟨g, i, none⟩ = false) (hg : g < W.heap.size) : ∀ i, w1.frozen? ⟨g, i, none⟩ = false :=
  fun i => (hb.frozen (p := ⟨g, i, none⟩) hg).trans (h i)
theorem newB (W : World) (cs : Array Value) (t : TypeId) : ∀ i, (W.alloc (.cells cs t)).cell? ⟨W.heap.size, i, none⟩ = cs[i]? := fun i => World.cell?_alloc_at _ _ _ _ rfl
theorem newF (W : World) (cs : Array Value) (t : TypeId) : ∀ i, (W.alloc (.cells cs t)).frozen? ⟨W.heap.size, i, none⟩ = false := fun i => World.frozen?_alloc_at _ _ _ _ rfl
theorem oldB {W : World} {g : Nat} {cs : Array Value} (o : Obj) (h : ∀ i, W.cell? ⟨g, i, none⟩ = cs[i]?) (hg : g < W.heap.size) : ∀ i, (W.alloc o).cell? ⟨g, i, none⟩ = cs[i]? :=
  fun i => (World.cell?_alloc_past _ _ _ hg).trans (h i)
theorem oldF {W : World} {g : Nat} (o : Obj) (h : ∀ i, W.frozen? ⟨g, i, none⟩ = false) (hg : g < W.heap.size) : ∀ i, (W.alloc o).frozen? ⟨g, i, none⟩ = false :=
  fun i => (World.frozen?_alloc_past _ _ _ hg).trans (h i)

theorem regB {W : World} {g : Nat} {cs : Array Value} (h : ∀ i, W.cell? ⟨g, i, none⟩ = cs[i]?) (hg : g < W.heap.size) : ∀ d os i, (Sort.grow (redrawn W d) os).cell? ⟨g, i, none⟩ = cs[i]? :=
  fun d os i => ((below_regrown W d os).cell (p := ⟨g, i, none⟩) hg).trans (h i)

/-- one new cell that holds a byte -/
theorem one_new {w : World} {v : Value} {t : TypeId} : ∀ j u, [v][j]? = some u → (w.alloc (.cells #[v] t)).cell? ((⟨w.heap.size, 0, none⟩ : Addr).add j) = some u := by
  intro j u hj
  match j, hj with
  | 0, hj =>
    simp at hj
    subst hj
    rw [Addr.add_lit, World.cell?_alloc_at _ _ _ _ rfl]
    rfl

/-- string(b), b a row of the call's own, whatever it is -/
theorem run_convert_own {P : Program} {w : World} {base : Nat} {e : TypeId} {v : Value} {n : Nat} {l : List UInt8} (src dst : TypeId)
    (hs : P.underlying src = some (.slice e)) (he : P.underlying e = some (.int .u8)) (hd : P.underlying dst = some .string)
    (h : w.ownsRow base e 1 v n (byteCells l)) : (convert src dst v).run P w = .ok (.string (txt l)) w := by
  have hn : l.length = n := by have := h.1; rw [byteCells_len] at this; omega
  rcases h.2 with ⟨rfl, h0⟩ | ⟨g, cap, cur, rfl, hb, hg, hnc, hcm, hcs, htake⟩
  · have hl : l = [] := List.eq_nil_of_length_eq_zero (by omega)
    subst hl
    rw [run_convert_bytes_nil w src e hs he 0 0 dst hd]
    rfl
  · subst hn
    refine run_convert_bytes_back w src dst e _ cap l hs he hd fun j hj => ?_
    rw [h.cells (g := g) rfl j (.int .u8 (l[j].toNat : Int))]
    simp [byteCells, hj]
end Go.Proofs.YtpknglbpbodnbaaDoor
namespace Go.Proofs.YtpknglbpbodnbaaDoor
set_option linter.unusedVariables false
open Go.RowKit Go.Sort

section
variable {P : Program} {ops : Array Oper} {md : Region.Mode} {C : World → Prop}

/-- whatever order is picked for the first operations, L holds behind them -/
def headAny (P : Program) (md : Region.Mode) (ops : Array Oper) (C : World → Prop) (n : Nat) (L : Array Bool → Act → Prop) : Nat → Array Bool → Act → Prop
  | 0, listed, a => L listed a
  | f + 1, listed, a =>
    Region.ready md ops listed ≠ [] ∧ ∀ i ∈ Region.ready md ops listed, i < n ∧ qOp P ops C i (headAny P md ops C n L f (listed.setIfInBounds i true)) a

theorem any_of_head {n g : Nat} {L : Array Bool → Act → Prop} {Q' : Exit → Act → World → Prop} (hL : ∀ listed a w, C w → L listed a → wpAny P md ops Q' g listed a w) :
    ∀ (f : Nat) (listed : Array Bool) (a : Act) (w : World), C w → headAny P md ops C n L f listed a → wpAny P md ops Q' (f + g) listed a w
  | 0, listed, a, w, hw, h => by rw [Nat.zero_add]; exact hL _ _ _ hw h
  | f + 1, listed, a, w, hw, h => by
    rw [show f + 1 + g = (f + g) + 1 by omega]
    exact ⟨fun h0 => absurd h0 h.1, fun i hi => wpOp_of_qOp hw (fun a' w' hw' h' => any_of_head hL f _ a' w' hw' h') (h.2 i hi).2⟩

theorem headAny_first {n i : Nat} {oi : Oper} {v : Value} {L : Array Bool → Act → Prop} (hi : ops[i]? = some oi) (hsel : ∀ (j : Nat) (o : Oper) cs b, ops[j]? = some o → o.op ≠ .select cs b)
    (hs : Region.sinkB md ops n = true) (hc : Region.chainB md ops n = true) (hn : n < ops.size) (hin : i < n)
    (hdone : ∀ listed a, L listed a → ∀ j ∈ Region.ready md ops listed, n ≤ j) :
    ∀ (f : Nat) (listed : Array Bool) (a : Act), HeadInv md ops n listed →
      (∀ j oj, ops[j]? = some oj → j ≠ i → listed.getD j true = false → (∀ e ∈ oj.after, Region.binds md e = true → e.on ≠ i) → oi.apart ops oj = true) →
      i ∈ Region.ready md ops listed → YieldsIn P ops C oi v a →
      headAny P md ops C n L f (listed.setIfInBounds i true) (a.put oi.dst v) → headAny P md ops C n L (f + 1) listed a := by
  intro f
  induction f with
  | zero =>
    intro listed a inv _ hr hy H
    have hun := (mem_ready.1 hr).1
    refine ⟨fun h => (by rw [h] at hr; cases hr), fun j hj => ?_⟩
    have hjn : j < n := by
      rcases Nat.lt_or_ge j n with h | h
      · exact h
      · exact absurd hj (tail_waits hs hc hn inv _ i rfl hin hun j h)
    refine ⟨hjn, ?_⟩
    by_cases hji : j = i
    · subst hji; exact hy.qOp hi H
    · have := hdone _ _ H j (ready_mono hj hji)
      omega
  | succ f ih =>
    intro listed a inv hfree hr hy H
    have hun := (mem_ready.1 hr).1
    refine ⟨fun h => (by rw [h] at hr; cases hr), fun j hj => ?_⟩
    have hjn : j < n := by
      rcases Nat.lt_or_ge j n with h | h
      · exact h
      · exact absurd hj (tail_waits hs hc hn inv _ i rfl hin hun j h)
    refine ⟨hjn, ?_⟩
    by_cases hji : j = i
    · subst hji; exact hy.qOp hi H
    · have h1 := (H.2 j (ready_mono hj hji)).2
      obtain ⟨hjun, oj, hoj, hall⟩ := mem_ready.1 hj
      have hnot : ∀ e ∈ oj.after, Region.binds md e = true → e.on ≠ i := fun e he hb heq => by
        have h1 := hall e he hb
        rw [heq, getD_both hun] at h1
        cases h1
      have h2 := qOp_put hoj (hfree j oj hoj hji hjun hnot) (fun cs b => hsel i oi cs b hi) (fun cs b => hsel j oj cs b hoj) hy h1
      have hfree' : ∀ k ok, ops[k]? = some ok → k ≠ i → (listed.setIfInBounds j true).getD k true = false →
          (∀ e ∈ ok.after, Region.binds md e = true → e.on ≠ i) → oi.apart ops ok = true := fun k ok hk hki hun hno => by
        refine hfree k ok hk hki ?_ hno
        by_cases hjk : j = k
        · subst hjk; exact hjun
        · rw [getD_set_ne true hjk] at hun; exact hun
      refine qOp_mono (fun a' h3 => ih (listed.setIfInBounds j true) a' (inv.set hj hjn) hfree' (ready_mono hr (Ne.symm hji)) h3.1 ?_) h2
      rw [Array.setIfInBounds_comm _ _ hji]
      exact h3.2

theorem headAny_lex {n g : Nat} {Lq : Act → Prop} (hsel : Region.noSelect ops = true) (hs : Region.sinkB md ops n = true) (hc : Region.chainB md ops n = true) (hn : n < ops.size) :
    ∀ (l : List Oper) (k : Nat) (listed : Array Bool) (a : Act), (∀ j, j < l.length → l[j]? = ops[k + j]?) → k + l.length = n → HeadInv md ops n listed →
    Region.lexHead md ops g l.length k listed = true → wpQuiet P ops C Lq l a →
    headAny P md ops C n (fun listed' a' => Region.seqB md ops g n listed' = true ∧ Lq a') l.length listed a
  | [], k, listed, a, _, hk, _, hB, h => by
    have : k = n := by simpa using hk
    subst this
    exact ⟨by simpa [Region.lexHead] using hB, h⟩
  | o :: l, k, listed, a, hl, hk, inv, hB, h => by
    have h0 : ops[k]? = some o := by simpa using (hl 0 (by simp)).symm
    simp only [List.length_cons, Region.lexHead, Bool.and_eq_true] at hB
    obtain ⟨⟨hr, hf⟩, hB'⟩ := hB
    have hkn : k < n := by simp only [List.length_cons] at hk; omega
    have hr' : k ∈ Region.ready md ops listed := by simpa using hr
    have hst : qOp P ops C k (wpQuiet P ops C Lq l) a := by unfold qOp; simp only [h0]; exact h
    obtain ⟨v, hy, hK⟩ := yieldsIn_of_qOp h0 hst
    exact headAny_first h0 (Region.noSelect_spec hsel) hs hc hn hkn (fun listed' a' hL => seqB_ready hL.1) l.length listed a inv (Region.free_spec h0 hf) hr' hy
      (headAny_lex hsel hs hc hn l (k + 1) _ _ (fun j hj => by have := hl (j + 1) (by simp; omega); simpa [Nat.add_assoc, Nat.add_comm 1 j] using this) (by simp only [List.length_cons] at hk; omega) (inv.set hr' hkn) hB' hK)

/-- the region as a whole, at whatever class of worlds -/
theorem wp_region_quiet_tail {id : Nat} {Q : Exit → Act → World → Prop} {a : Act} {w : World} {l : List Oper} (n : Nat) (hm : P.follows .mixedOrders = true) (hB : Region.lexTailB .any l.toArray n = true) (hC : C { w with drawn := w.drawn + 1 })
    (h : wpQuiet P l.toArray C (fun a' => ∀ w', C w' → wpList P l.toArray Q (l.drop n) a' w') (l.take n) a) : (Code.region id l.toArray true).wp P Q a w := by
  simp only [Region.lexTailB, Bool.and_eq_true, decide_eq_true_eq] at hB
  obtain ⟨⟨⟨⟨hsel, hn⟩, hs⟩, hc⟩, hlex⟩ := hB
  have hn' : n < l.length := by simpa using hn
  have htl : (l.take n).length = n := by simp; omega
  have hdl : (l.drop n).length = l.toArray.size - n := by simp
  have inv0 : HeadInv .any l.toArray n (Array.replicate l.toArray.size false) :=
    ⟨by simp, fun j oj _ hl => (by rw [getD_replicate_false] at hl; cases hl), fun t _ ht => getD_in (by simpa using ht) (getD_replicate_false _ _)⟩
  have H := headAny_lex (md := .any) (g := l.toArray.size - n) hsel hs hc hn (l.take n) 0 _ a (fun j hj => by
    have hj' : j < n := by rw [htl] at hj; exact hj
    simp [hj']) (by simpa using htl) inv0 (by rw [htl]; exact hlex) h
  refine wp_region_any hm ?_
  have := any_of_head (Q' := Q) (g := l.toArray.size - n) (fun listed a' w' hw' hL => by
    have := wpAny_of_seq (md := .any) (Q' := Q) (l.drop n) n listed a' w' (fun j => by simp [List.getElem?_drop]) (by rw [hdl]; exact hL.1) (hL.2 w' hw')
    rwa [hdl] at this) _ _ _ _ hC H
  rw [htl, show n + (l.toArray.size - n) = l.toArray.size by omega] at this
  exact this

/-- at the class 'blocks laid behind w, some draws': the head's calls make memory alone -/
theorem wp_region_below_tail {id : Nat} {Q : Exit → Act → World → Prop} {a : Act} {w : World} {l : List Oper} (n : Nat) (hm : P.follows .mixedOrders = true) (hB : Region.lexTailB .any l.toArray n = true)
    (h : wpQuiet P l.toArray (fun w' => ∃ p : Regrown, w' = grow (redrawn w p.d) p.os) (fun a' => ∀ w', (∃ p : Regrown, w' = grow (redrawn w p.d) p.os) → wpList P l.toArray Q (l.drop n) a' w') (l.take n) a) : (Code.region id l.toArray true).wp P Q a w :=
  wp_region_quiet_tail (C := fun w' => ∃ p : Regrown, w' = grow (redrawn w p.d) p.os) n hm hB ⟨⟨w.drawn + 1, #[]⟩, by rw [grow_empty]; rfl⟩ h
end
end Go.Proofs.YtpknglbpbodnbaaDoor
namespace Go.Proofs.YtpknglbpbodnbaaDoor
set_option linter.unusedVariables false
open Go.RowKit

theorem block_of_add (a : Addr) (n : Nat) : (a.add n).block = a.block := by unfold Addr.add; split <;> rfl
theorem add_of_add (a : Addr) (i j : Nat) : (a.add i).add j = a.add (i + j) := by
  unfold Addr.add
  by_cases hi : i = 0 <;> by_cases hj : j = 0 <;> simp [hi, hj, Nat.add_assoc]

def Reads (w : World) (B size : Nat) (A : Option Addr) (n : Nat) (xs : List Value) : Prop :=
  xs.length = n * size ∧ (0 < n → ∃ ad, A = some ad ∧ ad.block < B ∧ ∀ j u, xs[j]? = some u → w.cell? (ad.add j) = some u)

section
variable {w w' : World} {B B' size n : Nat} {A : Option Addr} {xs : List Value}
theorem Reads.none_ : Reads w B size A 0 [] := ⟨by simp, fun h => absurd h (by omega)⟩
theorem Reads.at_ {k : Nat} (h : Reads w B 1 A n xs) (hk : k < n) : ∃ ad u, A = some ad ∧ ad.block < B ∧ xs[k]? = some u ∧ w.cell? (ad.add k) = some u := by
  obtain ⟨ad, e, hb, hc⟩ := h.2 (by omega)
  have hl : k < xs.length := by have := h.1; omega
  exact ⟨ad, xs[k], e, hb, List.getElem?_eq_getElem hl, hc k _ (List.getElem?_eq_getElem hl)⟩
theorem Reads.keep (h : Reads w B size A n xs) (hk : ∀ p : Addr, p.block < B → w'.cell? p = w.cell? p) : Reads w' B size A n xs :=
  ⟨h.1, fun hn => by
    obtain ⟨ad, e, hb, hc⟩ := h.2 hn
    exact ⟨ad, e, hb, fun j u hu => (hk _ (by rw [block_of_add]; exact hb)).trans (hc j u hu)⟩⟩
theorem Reads.more (h : Reads w B size A n xs) (hB : B ≤ B') : Reads w B' size A n xs :=
  ⟨h.1, fun hn => by
    obtain ⟨ad, e, hb, hc⟩ := h.2 hn
    exact ⟨ad, e, by omega, hc⟩⟩
theorem Reads.below (h : Reads w B size A n xs) (hb : Below B w w') : Reads w' B size A n xs := h.keep fun _ hp => hb.cell hp
theorem Reads.drew (h : Reads w B size A n xs) : Reads w.drew B size A n xs := h
theorem Reads.drewN (h : Reads w B size A n xs) (k : Nat) : Reads (w.drewN k) B size A n xs := h
theorem Reads.alloc (h : Reads w B size A n xs) (hB : B ≤ w.heap.size) (o : Obj) : Reads (w.alloc o) B size A n xs := h.keep fun p hp => World.cell?_alloc_lt w o p (by omega)
theorem Reads.setCell (h : Reads w B size A n xs) {p : Addr} (hB : B ≤ p.block) (u : Value) : Reads (w.setCell p u) B size A n xs :=
  h.keep fun q hq => World.cell?_setCell_other w p q u (fun e => by subst e; omega)
theorem Reads.grown (h : Reads w B size A n xs) {row : Option Nat} (hg : w.grownBy w' row) (hB : B ≤ w.heap.size) (hr : ∀ g, row = some g → B ≤ g) : Reads w' B size A n xs :=
  h.keep fun p hp => World.cell?_of_block (hg.block p.block (by omega) (fun e => by have := hr _ e.symm; omega))
theorem Reads.cut (h : Reads w B size A n xs) {k cap : Nat} (hk : k ≤ n) (hc : n ≤ cap) :
    Reads w B size (if cap = k then A else A.map (·.add (k * size))) (n - k) (xs.drop (k * size)) := by
  refine ⟨by rw [List.length_drop, h.1, Nat.sub_mul], fun hn => ?_⟩
  obtain ⟨ad, rfl, hb, hcell⟩ := h.2 (by omega)
  rw [if_neg (by omega)]
  refine ⟨ad.add (k * size), rfl, by rw [block_of_add]; exact hb, fun j u hu => ?_⟩
  rw [add_of_add]
  exact hcell _ u (by rw [← hu, List.getElem?_drop])
theorem Reads.of_own {base : Nat} {e : TypeId} {c : Nat} (h : w.ownsRow base e size (.slice A n c) n xs) : Reads w w.heap.size size A n xs := by
  refine ⟨h.1, fun hn => ?_⟩
  obtain ⟨g, cap, hv, _, hlt⟩ := h.form hn
  have hA : A = some ⟨g, 0, none⟩ := by injection hv
  subst hA
  exact ⟨_, rfl, hlt, h.cells (g := g) rfl⟩
end

def Blk (w : World) (g : Nat) (t : TypeId) (cs : Array Value) : Prop := w.heap[g]? = some (.cells cs t (0, 0))

section
variable {w w' : World} {g : Nat} {t : TypeId} {cs : Array Value}
theorem Blk.lt (h : Blk w g t cs) : g < w.heap.size := by
  rcases Nat.lt_or_ge g w.heap.size with hlt | hge
  · exact hlt
  · unfold Blk at h; rw [Array.getElem?_eq_none hge] at h; cases h
theorem Blk.cell (h : Blk w g t cs) (i : Nat) : w.cell? ⟨g, i, none⟩ = cs[i]? := cell_of_row w g i cs t (0, 0) h
theorem Blk.frozen (h : Blk w g t cs) (i : Nat) : w.frozen? ⟨g, i, none⟩ = false := by
  unfold Blk at h
  simp [World.frozen?, h]
theorem Blk.new (w : World) (t : TypeId) (cs : Array Value) : Blk (w.alloc (.cells cs t)) w.heap.size t cs := heap_alloc_new w _
theorem Blk.drew (h : Blk w g t cs) : Blk w.drew g t cs := h
theorem Blk.drewN (h : Blk w g t cs) (n : Nat) : Blk (w.drewN n) g t cs := h
theorem Blk.alloc (h : Blk w g t cs) (o : Obj) : Blk (w.alloc o) g t cs := (Below.heap_alloc w o g h.lt).trans h
theorem Blk.set_ (h : Blk w g t cs) (i : Nat) (u : Value) : Blk (w.setCell ⟨g, i, none⟩ u) g t (cs.setIfInBounds i u) := by
  unfold Blk at h ⊢
  simp [World.setCell, Array.getElem?_modify, h]
theorem Blk.far (h : Blk w g t cs) {p : Addr} (hp : g ≠ p.block) (u : Value) : Blk (w.setCell p u) g t cs := (Below.heap_setCell w p u g hp).trans h
theorem Blk.below {B : Nat} (h : Blk w g t cs) (hb : Below B w w') (hg : g < B) : Blk w' g t cs := (hb.block g hg).trans h
theorem Blk.grown {row : Option Nat} (h : Blk w g t cs) (hb : w.grownBy w' row) (hg : some g ≠ row) : Blk w' g t cs := (hb.block g h.lt hg).trans h
theorem Blk.ne_ {g' : Nat} {t' : TypeId} {cs' : Array Value} (h : Blk w g t cs) (h' : Blk w g' t' cs') (hne : t ≠ t') : g ≠ g' := by
  rintro rfl
  unfold Blk at h h'
  rw [h] at h'
  injection h' with h'
  injection h' with _ ht
  exact hne ht
theorem own_blk_ne {base : Nat} {e : TypeId} {size n : Nat} {v : Value} {xs : List Value} (h : w.ownsRow base e size v n xs) (hg : Blk w g t cs) (hne : e ≠ t) : v.ownBlock ≠ some g := by
  rcases h.2 with ⟨rfl, _⟩ | ⟨g', cap, cur, rfl, _, hh, _⟩
  · simp [Value.ownBlock]
  · intro he
    have : g' = g := by simpa [Value.ownBlock] using he
    subst this
    exact Blk.ne_ (t := e) hh hg hne rfl
end

section
variable {P : Program} (w : World)

theorem run_append_of_nil (base : Nat) (t ty e : TypeId) (i : TypeInfo) (size : Nat) (ht : P.underlying t = some (.slice e)) (hi : P.info? e = some i)
    (v : Value) (n : Nat) (xs : List Value) (hown : w.ownsRow base e size v n xs) (c : Nat) : (Builtin.append_ #[t, t] ty #[v, .slice none 0 c]).run P w = .ok v w := by
  rcases hown.2 with ⟨rfl, rfl⟩ | ⟨g, cap, cur, rfl, _, _, hnc, _⟩
  · simp [Builtin.append_, run_underlying ht, sizeOf, typeInfo, hi, Builtin.lenOf, Builtin.firstCells]
  · simp [Builtin.append_, run_underlying ht, sizeOf, typeInfo, hi, Builtin.lenOf, Builtin.firstCells, hnc, storeCells]

theorem run_append_any (base : Nat) (t ty e : TypeId) (i : TypeInfo) (z : Value) (size bytes : Nat) (ht : P.underlying t = some (.slice e)) (hi : P.info? e = some i) (hz : i.zero = some z)
    (hsize : i.size = size) (hby : i.bytes = bytes) (hzs : z.cells.size = size) (hsz : 0 < size)
    (v : Value) (n : Nat) (xs : List Value) (hown : w.ownsRow base e size v n xs)
    (B : Nat) (A : Option Addr) (m c : Nat) (news : List Value) (hr : Reads w B size A m news) (h1 : ∀ u ∈ news, u.oneCell' = true)
    (h63 : n + m ≤ maxLen) (hbytes : (n + m) * bytes ≤ 140737488355328) (hbase : base ≤ w.heap.size) :
    ∃ v' w', (Builtin.append_ #[t, t] ty #[v, .slice A m c]).run P w = .ok v' w' ∧ w'.ownsRow base e size v' (n + m) (xs ++ news) ∧ w.grownBy w' v.ownBlock ∧
      (v'.ownBlock = v.ownBlock ∨ v'.ownBlock = some w.heap.size) := by
  rcases A with _ | ad
  · have hm : m = 0 := by
      rcases Nat.eq_zero_or_pos m with h0 | h0
      · exact h0
      · obtain ⟨ad, h, _⟩ := hr.2 h0
        cases h
    subst hm
    have hn : news = [] := List.eq_nil_of_length_eq_zero (by simpa using hr.1)
    subst hn
    exact ⟨v, w, run_append_of_nil w base t ty e i size ht hi v n xs hown c, by simpa using hown, World.grownBy.refl w _, .inl rfl⟩
  · have hcells : ∀ j u, news[j]? = some u → w.cell? (ad.add j) = some u := by
      intro j u hu
      rcases Nat.eq_zero_or_pos m with h0 | h0
      · subst h0
        have hn : news = [] := List.eq_nil_of_length_eq_zero (by simpa using hr.1)
        subst hn
        simp at hu
      · obtain ⟨ad', h, _, hc⟩ := hr.2 h0
        injection h with h
        subst h
        exact hc j u hu
    obtain ⟨v', w', hrun, h2, h3, _, h5⟩ := run_append_own_at (P := P) w base t ty e i z size bytes ht hi hz hsize hby hzs hsz v n xs hown ad m c news hr.1 hcells h1 h63 hbytes hbase
    exact ⟨v', w', hrun, h2, h3, h5⟩

theorem wp_append_any {o : Oper} {a : Act} {K : Act → World → Prop} {Q : Exit → Act → World → Prop} (s x : Operand) (t : TypeId)
    (ho : o.op = .call { callee := .builtin .append, args := #[s, x], argTypes := #[t, t] })
    (base : Nat) (e : TypeId) (i : TypeInfo) (z : Value) (size bytes : Nat) (ht : P.underlying t = some (.slice e)) (hi : P.info? e = some i) (hz : i.zero = some z)
    (hsize : i.size = size) (hby : i.bytes = bytes) (hzs : z.cells.size = size) (hsz : 0 < size)
    (v : Value) (n : Nat) (xs : List Value) (hs : a.eval s = v) (hown : w.ownsRow base e size v n xs)
    (B : Nat) (A : Option Addr) (m c : Nat) (news : List Value) (hx : a.eval x = .slice A m c) (hr : Reads w B size A m news) (h1 : ∀ u ∈ news, u.oneCell' = true)
    (h63 : n + m ≤ maxLen) (hbytes : (n + m) * bytes ≤ 140737488355328) (hbase : base ≤ w.heap.size)
    (h : ∀ v' w', w'.ownsRow base e size v' (n + m) (xs ++ news) → w.grownBy w' v.ownBlock → (v'.ownBlock = v.ownBlock ∨ v'.ownBlock = some w.heap.size) → K (a.put o.dst v') w') : o.wp P a w K Q := by
  obtain ⟨v', w', hrun, h2, h3, h4⟩ := run_append_any (P := P) w base t o.type e i z size bytes ht hi hz hsize hby hzs hsz v n xs hown B A m c news hr h1 h63 hbytes hbase
  unfold Oper.wp execOp
  simp only [ho, resolve, invoke, builtin, Sem.run_bind, Sem.run_pure, Result.andThen_ok, List.map_toArray, List.map_cons, List.map_nil, hs, hx, hrun]
  exact h v' w' h2 h3 h4

theorem wpList_append_any {ops : Array Oper} {rest : List Oper} {o : Oper} {a : Act} {Q : Exit → Act → World → Prop} (hgd : o.guard = none) (s x : Operand) (t : TypeId)
    (ho : o.op = .call { callee := .builtin .append, args := #[s, x], argTypes := #[t, t] })
    (base : Nat) (e : TypeId) (i : TypeInfo) (z : Value) (size bytes : Nat) (ht : P.underlying t = some (.slice e)) (hi : P.info? e = some i) (hz : i.zero = some z)
    (hsize : i.size = size) (hby : i.bytes = bytes) (hzs : z.cells.size = size) (hsz : 0 < size)
    (v : Value) (n : Nat) (xs : List Value) (hs : a.eval s = v) (hown : w.ownsRow base e size v n xs)
    (B : Nat) (A : Option Addr) (m c : Nat) (news : List Value) (hx : a.eval x = .slice A m c) (hr : Reads w B size A m news) (h1 : ∀ u ∈ news, u.oneCell' = true)
    (h63 : n + m ≤ maxLen) (hbytes : (n + m) * bytes ≤ 140737488355328) (hbase : base ≤ w.heap.size)
    (h : ∀ v' w', w'.ownsRow base e size v' (n + m) (xs ++ news) → w.grownBy w' v.ownBlock → (v'.ownBlock = v.ownBlock ∨ v'.ownBlock = some w.heap.size) → wpList P ops Q rest (a.put o.dst v') w') : wpList P ops Q (o :: rest) a w :=
  wpList_plain hgd fun _ hK => wp_append_any w s x t ho base e i z size bytes ht hi hz hsize hby hzs hsz v n xs hs hown B A m c news hx hr h1 h63 hbytes hbase fun v' w' h2 h3 h4 => hK _ _ (h v' w' h2 h3 h4)

theorem step_append_any {ops : Array Oper} {o : Oper} {a : Act} {K : Act → World → Prop} {Q : Exit → Act → World → Prop} {E : Prop} (hgd : o.guard = none) (s x : Operand) (t : TypeId)
    (ho : o.op = .call { callee := .builtin .append, args := #[s, x], argTypes := #[t, t] })
    (base : Nat) (e : TypeId) (i : TypeInfo) (z : Value) (size bytes : Nat) (ht : P.underlying t = some (.slice e)) (hi : P.info? e = some i) (hz : i.zero = some z)
    (hsize : i.size = size) (hby : i.bytes = bytes) (hzs : z.cells.size = size) (hsz : 0 < size)
    (v : Value) (n : Nat) (xs : List Value) (hs : a.eval s = v) (hown : w.ownsRow base e size v n xs)
    (B : Nat) (A : Option Addr) (m c : Nat) (news : List Value) (hx : a.eval x = .slice A m c) (hr : Reads w B size A m news) (h1 : ∀ u ∈ news, u.oneCell' = true)
    (h63 : n + m ≤ maxLen) (hbytes : (n + m) * bytes ≤ 140737488355328) (hbase : base ≤ w.heap.size)
    (h : ∀ v' w', w'.ownsRow base e size v' (n + m) (xs ++ news) → w.grownBy w' v.ownBlock → (v'.ownBlock = v.ownBlock ∨ v'.ownBlock = some w.heap.size) → K (a.put o.dst v') w') :
    if Region.wanted o (yielded ops a.tmps) = true then Oper.wp P o a w K Q else E := by
  have hw : Region.wanted o (yielded ops a.tmps) = true := by simp [Region.wanted, hgd]
  rw [if_pos hw]
  exact wp_append_any w s x t ho base e i z size bytes ht hi hz hsize hby hzs hsz v n xs hs hown B A m c news hx hr h1 h63 hbytes hbase h
end
end Go.Proofs.YtpknglbpbodnbaaDoor
namespace Go.Proofs.YtpknglbpbodnbaaDoor
set_option linter.unusedVariables false
open Go.ChangeShapes Go.WideShapes Go.ChangeAt Go.RowKit Go.Deep

theorem list_of {α : Type} (len : Nat) (R : Nat → α → Prop) (h : ∀ i, i < len → ∃ x, R i x) : ∃ l : List α, l.length = len ∧ ∀ j x, l[j]? = some x → R j x := by
  induction len with
  | zero => exact ⟨[], rfl, fun j x hx => by simp at hx⟩
  | succ n ih =>
    obtain ⟨l, hl, hr⟩ := ih fun i hi => h i (by omega)
    obtain ⟨x, hx⟩ := h n (by omega)
    refine ⟨l ++ [x], by simp [hl], fun j y hy => ?_⟩
    by_cases hj : j < l.length
    · rw [List.getElem?_append_left hj] at hy
      exact hr j y hy
    · rw [List.getElem?_append_right (by omega)] at hy
      have hz : j - l.length = 0 := by
        rcases Nat.lt_or_ge (j - l.length) 1 with h1 | h1
        · omega
        · rw [List.getElem?_eq_none (by simpa using h1)] at hy; cases hy
      have : j = n := by omega
      subst this
      rw [hz] at hy
      simp at hy
      subst hy
      exact hx

theorem open_recs {P : Program} {W : World} {H : Type} {enc : TypeId × Value → H} {base : Nat} {held : Bool} {t e : TypeId} {fs : Array Field} {a : Option Addr} {len cap : Nat} {d : DataW H} {ps : List MemPlace}
    (ht : P.underlying t = some (.slice e)) (he : P.underlying e = some (.struct fs)) (hone : oneCellFields P fs = true) (hC : P.cellsOf e = fs.size) (hpos : 0 < fs.size)
    (h : DataW.Trod enc P W base (fun _ => true) held t (.slice a len cap) d ps) :
    len ≤ cap ∧ cap ≤ maxLen ∧ (len = 0 ∨ ∃ b off, a = some ⟨b, off, none⟩ ∧ b < W.heap.size ∧
      ∀ i, i < len → ∀ (j : Nat) (f : Field), fs[j]? = some f → ∃ (v : Value) (y : DataW H × List MemPlace) (n : Nat), W.cell? ⟨b, off + (i * fs.size + j), none⟩ = some v ∧ DataW.trod enc P W base (fun _ => true) held n f.type [v] = some y) := by
  obtain ⟨fuel, hf⟩ := h
  rcases open_slice ht hf with ⟨h0, _⟩ | ⟨x, l, c, m, n, D, Pl, hcs, hb, hl, hm, hmm, hx, hi⟩
  · simp [Value.cells] at h0
    obtain ⟨rfl, rfl, rfl⟩ := h0
    exact ⟨Nat.le_refl _, Nat.zero_le _, .inl rfl⟩
  · simp [Value.cells] at hcs
    obtain ⟨rfl, rfl, rfl⟩ := hcs
    refine ⟨hl, hm, ?_⟩
    rcases Nat.eq_zero_or_pos len with h0 | h0
    · exact .inl h0
    right
    have hmc : m = cap := by simpa using hmm
    have key : ∀ i, i < len → ∀ (j : Nat) (f : Field), fs[j]? = some f → ∃ (v : Value) (y : DataW H × List MemPlace) (n : Nat), W.cell? (x.add (i * fs.size + j)) = some v ∧ DataW.trod enc P W base (fun _ => true) held n f.type [v] = some y := by
      intro i hil j f hj
      obtain ⟨cs', hc, ht'⟩ := hi i (by omega)
      rw [hC] at hc
      obtain ⟨ys, n', hn', hy, hlen, hyl, hg⟩ := DataW.trod_struct he ht'
      obtain ⟨_, hcl, hat⟩ := World.cells?_some hc
      obtain ⟨ho, hk⟩ := hone_of hone j f hj
      have hjl : j < fs.size := (Array.getElem?_eq_some_iff.1 hj).1
      have hcell := hat j hjl
      have h1 := hg j f hj
      rw [ho, hk] at h1
      have e1 : (cs'.drop j).take 1 = [cs'[j]'(by omega)] := by
        rw [List.drop_eq_getElem_cons (by omega)]
        rfl
      rw [e1] at h1
      have hys : ys[j]? = some (ys[j]'(by omega)) := List.getElem?_eq_getElem (by omega)
      refine ⟨cs'[j]'(by omega), _, n', ?_, h1.trans hys⟩
      rw [← Go.Deep.add_add, hcell]
      exact List.getElem?_eq_getElem (by omega)
    obtain ⟨b, off, spot⟩ := x
    obtain ⟨v0, _, _, hc0, _⟩ := key 0 h0 0 (fs[0]'hpos) (Array.getElem?_eq_getElem hpos)
    have hspot : spot = none := by simpa [Addr.add] using World.cell?_spot hc0
    subst hspot
    have hc0' : W.cell? ⟨b, off, none⟩ = some v0 := by simpa [Addr.add] using hc0
    refine ⟨b, off, rfl, World.block_lt_of_cell? W _ hc0', fun i hil j f hj => ?_⟩
    obtain ⟨v, y, n, hc, hy⟩ := key i hil j f hj
    rw [Addr.add_lit] at hc
    exact ⟨v, y, n, hc, hy⟩
end Go.Proofs.YtpknglbpbodnbaaDoor
namespace Go.Proofs.YtpknglbpbodnbaaDoor
set_option linter.unusedVariables false
open Go.RowKit Go.Maps

/-- what a call may have turned: blocks of S, and what is new -/
structure Only (S : List Nat) (w w' : World) : Prop where
  os : w'.os = w.os
  tape : w'.tape = w.tape
  output : w'.output = w.output
  size : w.heap.size ≤ w'.heap.size
  block : ∀ k, k < w.heap.size → k ∉ S → w'.heap[k]? = w.heap[k]?
theorem Only.refl (S : List Nat) (w : World) : Only S w w := ⟨rfl, rfl, rfl, Nat.le_refl _, fun _ _ _ => rfl⟩
theorem Only.trans {S : List Nat} {w w' w'' : World} (h : Only S w w') (h' : Only S w' w'') : Only S w w'' :=
  ⟨h'.os.trans h.os, h'.tape.trans h.tape, h'.output.trans h.output, Nat.le_trans h.size h'.size, fun k hk hS => (h'.block k (Nat.lt_of_lt_of_le hk h.size) hS).trans (h.block k hk hS)⟩
theorem Only.more {S T : List Nat} {w w' : World} (h : Only S w w') (hs : ∀ k ∈ S, k ∈ T) : Only T w w' := ⟨h.os, h.tape, h.output, h.size, fun k hk hT => h.block k hk fun hS => hT (hs k hS)⟩
theorem Only.of_below {S : List Nat} {w w' : World} (h : Below w.heap.size w w') : Only S w w' := ⟨h.os, h.tape, h.output, h.size, fun k hk _ => h.block k hk⟩
theorem Only.below {S : List Nat} {B : Nat} {w w' : World} (h : Only S w w') (hB : B ≤ w.heap.size) (hS : ∀ k ∈ S, B ≤ k) : Below B w w' :=
  ⟨h.os, h.tape, h.output, h.size, fun k hk => h.block k (Nat.lt_of_lt_of_le hk hB) fun hm => absurd (hS k hm) (by omega)⟩
theorem Only.setCell {S : List Nat} {w w' : World} (h : Only S w w') {a : Addr} (ha : a.block ∈ S) (u : Value) : Only S w (w'.setCell a u) :=
  h.trans ⟨rfl, rfl, rfl, by simp, fun k hk hS => Below.heap_setCell w' a u k (fun e => hS (e ▸ ha))⟩
theorem Only.alloc {S : List Nat} {w w' : World} (h : Only S w w') (o : Obj) : Only S w (w'.alloc o) :=
  h.trans (Only.of_below ((Below.refl _ _).alloc (Nat.le_refl _) o))
theorem Only.drewN {S : List Nat} {w w' : World} (h : Only S w w') (n : Nat) : Only S w (w'.drewN n) := ⟨h.os, h.tape, h.output, h.size, h.block⟩
theorem Only.drew {S : List Nat} {w w' : World} (h : Only S w w') : Only S w w'.drew := ⟨h.os, h.tape, h.output, h.size, h.block⟩
theorem Only.grown {w w' : World} {b : Nat} (h : w.grownBy w' (some b)) : Only [b] w w' := ⟨h.os, h.tape, h.output, h.size, fun k hk hS => h.block k hk (fun e => hS (by simp [Option.some.inj e]))⟩
theorem Blk.only {S : List Nat} {w w' : World} {g : Nat} {t : TypeId} {cs : Array Value} (h : Blk w g t cs) (ho : Only S w w') (hg : g ∉ S) : Blk w' g t cs := (ho.block g h.lt hg).trans h
theorem map_lt {H : Type} {P : Program} {k : TypeId} {R : Value → Option (DataW H × List MemPlace)} {b n : Nat} {D : DataW H} {w : World} (h : w.ownsMap P k R b n D) : b < w.heap.size := by
  obtain ⟨es, clock, hb, _⟩ := h
  rcases Nat.lt_or_ge b w.heap.size with hlt | hge
  · exact hlt
  · rw [Array.getElem?_eq_none hge] at hb; cases hb
theorem map_only {H : Type} {P : Program} {k : TypeId} {R : Value → Option (DataW H × List MemPlace)} {b n : Nat} {D : DataW H} {S : List Nat} {w w' : World} (h : w.ownsMap P k R b n D) (ho : Only S w w') (hb : b ∉ S) : w'.ownsMap P k R b n D := by
  have hlt := map_lt h
  obtain ⟨es, clock, h1, h2⟩ := h
  exact ⟨es, clock, (ho.block b hlt hb).trans h1, h2⟩
theorem blk_map_ne {H : Type} {P : Program} {k : TypeId} {R : Value → Option (DataW H × List MemPlace)} {b n : Nat} {D : DataW H} {w : World} {g : Nat} {t : TypeId} {cs : Array Value} (h : w.ownsMap P k R b n D) (hg : Blk w g t cs) : b ≠ g := by
  rintro rfl
  obtain ⟨es, clock, hb, _⟩ := h
  rw [hg] at hb
  cases hb
theorem blk_set2 {w : World} {g : Nat} {t : TypeId} {a0 a1 : Value} (h : Blk w g t #[a0, a1]) (v0 v1 : Value) : Blk ((w.setCell ⟨g, 0, none⟩ v0).setCell ⟨g, 1, none⟩ v1) g t #[v0, v1] := by
  have := (h.set_ 0 v0).set_ 1 v1
  simpa using this
theorem blk_set3 {w : World} {g : Nat} {t : TypeId} {a0 a1 a2 : Value} (h : Blk w g t #[a0, a1, a2]) (v0 v1 v2 : Value) :
    Blk (((w.setCell ⟨g, 0, none⟩ v0).setCell ⟨g, 1, none⟩ v1).setCell ⟨g, 2, none⟩ v2) g t #[v0, v1, v2] := by
  have := ((h.set_ 0 v0).set_ 1 v1).set_ 2 v2
  simpa using this
theorem blk_set4 {w : World} {g : Nat} {t : TypeId} {a0 a1 a2 a3 : Value} (h : Blk w g t #[a0, a1, a2, a3]) (v0 v1 v2 v3 : Value) :
    Blk ((((w.setCell ⟨g, 0, none⟩ v0).setCell ⟨g, 1, none⟩ v1).setCell ⟨g, 2, none⟩ v2).setCell ⟨g, 3, none⟩ v3) g t #[v0, v1, v2, v3] := by
  have := (((h.set_ 0 v0).set_ 1 v1).set_ 2 v2).set_ 3 v3
  simpa using this
theorem only_set2 (w : World) (g : Nat) (v0 v1 : Value) : Only [g] w ((w.setCell ⟨g, 0, none⟩ v0).setCell ⟨g, 1, none⟩ v1) :=
  ((Only.refl [g] w).setCell (a := ⟨g, 0, none⟩) (by simp) _).setCell (a := ⟨g, 1, none⟩) (by simp) _
theorem only_set3 (w : World) (g : Nat) (v0 v1 v2 : Value) : Only [g] w (((w.setCell ⟨g, 0, none⟩ v0).setCell ⟨g, 1, none⟩ v1).setCell ⟨g, 2, none⟩ v2) :=
  (only_set2 w g v0 v1).setCell (a := ⟨g, 2, none⟩) (by simp) _
theorem only_set4 (w : World) (g : Nat) (v0 v1 v2 v3 : Value) : Only [g] w ((((w.setCell ⟨g, 0, none⟩ v0).setCell ⟨g, 1, none⟩ v1).setCell ⟨g, 2, none⟩ v2).setCell ⟨g, 3, none⟩ v3) :=
  (only_set3 w g v0 v1 v2).setCell (a := ⟨g, 3, none⟩) (by simp) _
/-- the cells of a known block, and that they may be written -/
theorem Blk.c2 {w : World} {g : Nat} {t : TypeId} {a0 a1 : Value} (h : Blk w g t #[a0, a1]) : (w.cell? ⟨g, 0, none⟩ = some a0 ∧ w.cell? ⟨g, 1, none⟩ = some a1) ∧ (w.frozen? ⟨g, 0, none⟩ = false ∧ w.frozen? ⟨g, 1, none⟩ = false) :=
  ⟨⟨h.cell 0, h.cell 1⟩, h.frozen 0, h.frozen 1⟩
theorem Blk.c3 {w : World} {g : Nat} {t : TypeId} {a0 a1 a2 : Value} (h : Blk w g t #[a0, a1, a2]) : (w.cell? ⟨g, 0, none⟩ = some a0 ∧ w.cell? ⟨g, 1, none⟩ = some a1 ∧ w.cell? ⟨g, 2, none⟩ = some a2) ∧ (w.frozen? ⟨g, 0, none⟩ = false ∧ w.frozen? ⟨g, 1, none⟩ = false ∧ w.frozen? ⟨g, 2, none⟩ = false) :=
  ⟨⟨h.cell 0, h.cell 1, h.cell 2⟩, h.frozen 0, h.frozen 1, h.frozen 2⟩
theorem Blk.c4 {w : World} {g : Nat} {t : TypeId} {a0 a1 a2 a3 : Value} (h : Blk w g t #[a0, a1, a2, a3]) : (w.cell? ⟨g, 0, none⟩ = some a0 ∧ w.cell? ⟨g, 1, none⟩ = some a1 ∧ w.cell? ⟨g, 2, none⟩ = some a2 ∧ w.cell? ⟨g, 3, none⟩ = some a3) ∧ (w.frozen? ⟨g, 0, none⟩ = false ∧ w.frozen? ⟨g, 1, none⟩ = false ∧ w.frozen? ⟨g, 2, none⟩ = false ∧ w.frozen? ⟨g, 3, none⟩ = false) :=
  ⟨⟨h.cell 0, h.cell 1, h.cell 2, h.cell 3⟩, h.frozen 0, h.frozen 1, h.frozen 2, h.frozen 3⟩
end Go.Proofs.YtpknglbpbodnbaaDoor
namespace Go.Proofs.YtpknglbpbodnbaaDoor
set_option linter.unusedVariables false
open Go.RowKit Go.Sort

def isAlloc (o : Oper) : Bool := match o.op with
  | .alloc _ => o.guard.isNone && o.dst.isSome
  | _ => false
/-- the operation, a new variable struck -/
def shade (o : Oper) : Oper := if isAlloc o then { o with op := .move (.const undef) } else o
theorem shade_dst (o : Oper) : (shade o).dst = o.dst := by unfold shade; split <;> rfl
theorem shade_after (o : Oper) : (shade o).after = o.after := by unfold shade; split <;> rfl
theorem shade_guard (o : Oper) : (shade o).guard = o.guard := by unfold shade; split <;> rfl
theorem shade_det {o : Oper} (h : isAlloc o = false) : shade o = o := by unfold shade; rw [h]; rfl

section
variable {P : Program} {ops : Array Oper} {md : Region.Mode} {C : World → Prop}

theorem ready_shade (listed : Array Bool) : Region.ready md (ops.map shade) listed = Region.ready md ops listed := by
  unfold Region.ready
  rw [Array.size_map]
  apply List.filter_congr
  intro i _
  congr 1
  rw [Array.getElem?_map]
  cases ops[i]? with
  | none => rfl
  | some o => simp [shade_after]
theorem yielded_shade (tmps : Array Value) : yielded (ops.map shade) tmps = yielded ops tmps := by
  funext j
  unfold yielded
  rw [Array.getElem?_map]
  cases ops[j]? with
  | none => rfl
  | some o => simp [shade_dst]
theorem wanted_shade (o : Oper) (y : Nat → Option Bool) : Region.wanted (shade o) y = Region.wanted o y := by
  unfold Region.wanted
  rw [shade_guard]

/-- some slots hold pointers to new blocks -/
def over (g : Tmp → Option Nat) (a : Act) : Act := { a with tmps := a.tmps.mapIdx fun t v => match g t with
  | some b => .pointer (some ⟨b, 0, none⟩)
  | none => v }
theorem over_get (g : Tmp → Option Nat) (a : Act) (t : Tmp) (h : g t = none) : (over g a).tmps[t]? = a.tmps[t]? := by
  unfold over
  simp only [Array.getElem?_mapIdx, h]
  cases a.tmps[t]? <;> rfl
theorem over_eval (g : Tmp → Option Nat) (a : Act) (x : Operand) (h : ∀ d, x = .tmp d → g d = none) : (over g a).eval x = a.eval x := by
  cases x with
  | tmp t =>
    have := over_get g a t (h t rfl)
    simp [Act.eval, this]
  | _ => rfl
theorem over_put (g : Tmp → Option Nat) (a : Act) (dst : Option Tmp) (v : Value) (h : ∀ d, dst = some d → g d = none) : (over g a).put dst v = over g (a.put dst v) := by
  cases dst with
  | none => rfl
  | some d =>
    have hd := h d rfl
    unfold over Act.put
    simp only [Act.mk.injEq, and_true]
    apply Array.ext_getElem?
    intro i
    simp only [Array.getElem?_setIfInBounds, Array.getElem?_mapIdx, Array.size_mapIdx]
    by_cases e : d = i
    · subst e
      simp only [hd, if_true]
      by_cases hlt : d < a.tmps.size <;> simp [hlt]
    · simp [e]
theorem over_alloc (g : Tmp → Option Nat) (a : Act) (d : Tmp) (b : Nat) (u : Value) : (over g a).put (some d) (.pointer (some ⟨b, 0, none⟩)) = over (fun t => if t = d then some b else g t) (a.put (some d) u) := by
  unfold over Act.put
  simp only [Act.mk.injEq, and_true]
  apply Array.ext_getElem?
  intro i
  simp only [Array.getElem?_setIfInBounds, Array.getElem?_mapIdx, Array.size_mapIdx]
  by_cases e : d = i
  · subst e
    by_cases hlt : d < a.tmps.size <;> simp [hlt]
  · have e' : ¬ i = d := fun h => e h.symm
    simp [e, e']

/-- one operation: a value, in every world of the class; a call makes memory alone -/
def tOp (P : Program) (ops : Array Oper) (C : World → Prop) (i : Nat) (K : Act → Prop) (a : Act) : Prop :=
  match ops[i]? with
  | none => K a
  | some o => if Region.wanted o (yielded ops a.tmps) then (∃ v, (∀ w, C w → o.quietAt P a (fun w'' => Below w.heap.size w w'') w v) ∧ K (a.put o.dst v)) else K (a.put o.dst undef)
theorem tOp_mono {i : Nat} {a : Act} {K K' : Act → Prop} (h : ∀ a, K a → K' a) (hh : tOp P ops C i K a) : tOp P ops C i K' a := by
  unfold tOp at *
  split
  · exact h _ (by simpa [*] using hh)
  · rename_i o ho
    simp only [ho] at hh
    split
    · rename_i hw; simp only [hw, if_true] at hh; exact hh.imp fun v hv => ⟨hv.1, h _ hv.2⟩
    · rename_i hw; simp only [hw] at hh; exact h _ hh

def YieldsT (P : Program) (ops : Array Oper) (C : World → Prop) (o : Oper) (v : Value) (a : Act) : Prop :=
  (Region.wanted o (yielded ops a.tmps) = true ∧ ∀ w, C w → o.quietAt P a (fun w'' => Below w.heap.size w w'') w v) ∨
  (Region.wanted o (yielded ops a.tmps) = false ∧ v = undef)
theorem YieldsT.tOp {i : Nat} {o : Oper} {v : Value} {a : Act} (hi : ops[i]? = some o) (hy : YieldsT P ops C o v a) {K : Act → Prop} (h : K (a.put o.dst v)) : tOp P ops C i K a := by
  unfold Go.Proofs.YtpknglbpbodnbaaDoor.tOp
  simp only [hi]
  rcases hy with ⟨hw, hv⟩ | ⟨hw, rfl⟩
  · simp only [hw, if_true]; exact ⟨v, hv, h⟩
  · simp only [hw, Bool.false_eq_true, if_false]; exact h
theorem YieldsT.of_same {o : Oper} {v : Value} {a a' : Act} (hy : YieldsT P ops C o v a) (he : execOp a'.eval o = execOp a.eval o)
    (hw : Region.wanted o (yielded ops a'.tmps) = Region.wanted o (yielded ops a.tmps)) : YieldsT P ops C o v a' := by
  unfold YieldsT Oper.quietAt at *
  rw [he, hw]
  exact hy
theorem tOp_put {j : Nat} {oi oj : Oper} {v : Value} (hj : ops[j]? = some oj) (hap : oi.apart ops oj = true)
    (hsi : ∀ cs b, oi.op ≠ .select cs b) (hsj : ∀ cs b, oj.op ≠ .select cs b) {K : Act → Prop} {a : Act}
    (hy : YieldsT P ops C oi v a) (h : tOp P ops C j K (a.put oi.dst v)) :
    tOp P ops C j (fun a' => YieldsT P ops C oi v a' ∧ K (a'.put oi.dst v)) a := by
  obtain ⟨h1, h2, h3⟩ := Oper.apart_spec hap
  have keep : ∀ (a : Act), YieldsT P ops C oi v a → ∀ u, YieldsT P ops C oi v (a.put oj.dst u) := fun a hy u =>
    hy.of_same (execOp_put oi hsi a oj.dst u h3) (wanted_put oi a oj.dst u h3)
  unfold tOp at *
  simp only [hj] at *
  rw [wanted_put oj a oi.dst v h1] at h
  split
  · rename_i hw
    simp only [hw, if_true] at h
    obtain ⟨u, hu, hn⟩ := h
    refine ⟨u, fun w hw' => ?_, keep a hy u, by rw [← Act.put_comm a v u h2]; exact hn⟩
    have := hu w hw'
    unfold Oper.quietAt at *
    rwa [execOp_put oj hsj a oi.dst v h1] at this
  · rename_i hw
    simp only [hw] at h
    exact ⟨keep a hy _, by rw [← Act.put_comm a v undef h2]; exact h⟩

/-- whatever order is picked for the first operations, L holds behind them -/
def headT (P : Program) (md : Region.Mode) (ops : Array Oper) (C : World → Prop) (n : Nat) (L : Array Bool → Act → Prop) : Nat → Array Bool → Act → Prop
  | 0, listed, a => L listed a
  | f + 1, listed, a =>
    Region.ready md ops listed ≠ [] ∧ ∀ i ∈ Region.ready md ops listed, i < n ∧ tOp P ops C i (headT P md ops C n L f (listed.setIfInBounds i true)) a

theorem headT_first {n i : Nat} {oi : Oper} {v : Value} {L : Array Bool → Act → Prop} (hi : ops[i]? = some oi) (hsel : ∀ (j : Nat) (o : Oper) cs b, ops[j]? = some o → o.op ≠ .select cs b)
    (hs : Region.sinkB md ops n = true) (hc : Region.chainB md ops n = true) (hn : n < ops.size) (hin : i < n)
    (hdone : ∀ listed a, L listed a → ∀ j ∈ Region.ready md ops listed, n ≤ j) :
    ∀ (f : Nat) (listed : Array Bool) (a : Act), HeadInv md ops n listed →
      (∀ j oj, ops[j]? = some oj → j ≠ i → listed.getD j true = false → (∀ e ∈ oj.after, Region.binds md e = true → e.on ≠ i) → oi.apart ops oj = true) →
      i ∈ Region.ready md ops listed → YieldsT P ops C oi v a →
      headT P md ops C n L f (listed.setIfInBounds i true) (a.put oi.dst v) → headT P md ops C n L (f + 1) listed a := by
  intro f
  induction f with
  | zero =>
    intro listed a inv _ hr hy H
    have hun := (mem_ready.1 hr).1
    refine ⟨fun h => (by rw [h] at hr; cases hr), fun j hj => ?_⟩
    have hjn : j < n := by
      rcases Nat.lt_or_ge j n with h | h
      · exact h
      · exact absurd hj (tail_waits hs hc hn inv _ i rfl hin hun j h)
    refine ⟨hjn, ?_⟩
    by_cases hji : j = i
    · subst hji; exact hy.tOp hi H
    · have := hdone _ _ H j (ready_mono hj hji)
      omega
  | succ f ih =>
    intro listed a inv hfree hr hy H
    have hun := (mem_ready.1 hr).1
    refine ⟨fun h => (by rw [h] at hr; cases hr), fun j hj => ?_⟩
    have hjn : j < n := by
      rcases Nat.lt_or_ge j n with h | h
      · exact h
      · exact absurd hj (tail_waits hs hc hn inv _ i rfl hin hun j h)
    refine ⟨hjn, ?_⟩
    by_cases hji : j = i
    · subst hji; exact hy.tOp hi H
    · have h1 := (H.2 j (ready_mono hj hji)).2
      obtain ⟨hjun, oj, hoj, hall⟩ := mem_ready.1 hj
      have hnot : ∀ e ∈ oj.after, Region.binds md e = true → e.on ≠ i := fun e he hb heq => by
        have h1 := hall e he hb
        rw [heq, getD_both hun] at h1
        cases h1
      have h2 := tOp_put hoj (hfree j oj hoj hji hjun hnot) (fun cs b => hsel i oi cs b hi) (fun cs b => hsel j oj cs b hoj) hy h1
      have hfree' : ∀ k ok, ops[k]? = some ok → k ≠ i → (listed.setIfInBounds j true).getD k true = false →
          (∀ e ∈ ok.after, Region.binds md e = true → e.on ≠ i) → oi.apart ops ok = true := fun k ok hk hki hun hno => by
        refine hfree k ok hk hki ?_ hno
        by_cases hjk : j = k
        · subst hjk; exact hjun
        · rw [getD_set_ne true hjk] at hun; exact hun
      refine tOp_mono (fun a' h3 => ih (listed.setIfInBounds j true) a' (inv.set hj hjn) hfree' (ready_mono hr (Ne.symm hji)) h3.1 ?_) h2
      rw [Array.setIfInBounds_comm _ _ hji]
      exact h3.2

/-- the slots that n operations write -/
def dstsB (l : List Oper) (size : Nat) : Bool := l.all (fun o => match o.dst with
  | some d => decide (d < size)
  | none => false)
def apartB : List Oper → Bool
  | [] => true
  | o :: rest => rest.all (fun x => x.dst != o.dst) && apartB rest

/-- the walk, every world's to one end: it writes no slot but its own -/
theorem quiet_keeps {C : World → Prop} (aF : Act) (d : Tmp) : ∀ (l : List Oper) (a : Act), (∀ o ∈ l, o.dst ≠ some d) → wpQuiet P ops C (fun a' => a' = aF) l a → aF.tmps[d]? = a.tmps[d]?
  | [], a, _, h => by rw [show a = aF from h]
  | o :: rest, a, hd, h => by
    have hput : ∀ v, (a.put o.dst v).tmps[d]? = a.tmps[d]? := fun v => by
      have := hd o (by simp)
      cases e : o.dst with
      | none => rfl
      | some d' =>
        have hne : d' ≠ d := fun h => this (by rw [e, h])
        simp [Act.put, Array.getElem?_setIfInBounds_ne hne]
    unfold wpQuiet at h
    split at h
    · obtain ⟨v, _, h2⟩ := h
      rw [quiet_keeps aF d rest _ (fun o ho => hd o (by simp [ho])) h2, hput]
    · rw [quiet_keeps aF d rest _ (fun o ho => hd o (by simp [ho])) h, hput]

/-- one operation of such a walk -/
theorem yields_of_walks (w0 : World) (aF : Act) (o : Oper) (rest : List Oper) (a : Act) (d : Tmp) (hd : o.dst = some d) (hlt : d < a.tmps.size) (hrest : ∀ x ∈ rest, x.dst ≠ some d)
    (h : ∀ w1, Below w0.heap.size w0 w1 → wpQuiet P ops (fun w' => ∃ p : Regrown, w' = grow (redrawn w1 p.d) p.os) (fun a' => a' = aF) (o :: rest) a) :
    ∃ v, YieldsT P ops (fun w => Below w0.heap.size w0 w) o v a ∧ ∀ w1, Below w0.heap.size w0 w1 → wpQuiet P ops (fun w' => ∃ p : Regrown, w' = grow (redrawn w1 p.d) p.os) (fun a' => a' = aF) rest (a.put o.dst v) := by
  by_cases hw : Region.wanted o (yielded ops a.tmps) = true
  · have hv : ∀ v w1, wpQuiet P ops (fun w' => ∃ p : Regrown, w' = grow (redrawn w1 p.d) p.os) (fun a' => a' = aF) rest (a.put o.dst v) → aF.tmps[d]? = some v := fun v w1 hq => by
      rw [quiet_keeps aF d rest _ hrest hq, hd]
      simp [Act.put, hlt]
    have hone : ∀ w1, Below w0.heap.size w0 w1 → ∃ v, (∀ w, (∃ p : Regrown, w = grow (redrawn w1 p.d) p.os) → o.quietAt P a (fun w' => ∃ p : Regrown, w' = grow (redrawn w1 p.d) p.os) w v) ∧ wpQuiet P ops (fun w' => ∃ p : Regrown, w' = grow (redrawn w1 p.d) p.os) (fun a' => a' = aF) rest (a.put o.dst v) := fun w1 h1 => by
      have := h w1 h1
      unfold wpQuiet at this
      rw [if_pos hw] at this
      exact this
    obtain ⟨v, hv1, hv2⟩ := hone w0 (Below.refl _ _)
    have hvF := hv v w0 hv2
    have same : ∀ w1, Below w0.heap.size w0 w1 → (∀ w, (∃ p : Regrown, w = grow (redrawn w1 p.d) p.os) → o.quietAt P a (fun w' => ∃ p : Regrown, w' = grow (redrawn w1 p.d) p.os) w v) ∧ wpQuiet P ops (fun w' => ∃ p : Regrown, w' = grow (redrawn w1 p.d) p.os) (fun a' => a' = aF) rest (a.put o.dst v) := fun w1 h1 => by
      obtain ⟨u, hu1, hu2⟩ := hone w1 h1
      have := hv u w1 hu2
      rw [hvF] at this
      have : v = u := by simpa using this
      subst this
      exact ⟨hu1, hu2⟩
    refine ⟨v, .inl ⟨hw, fun w1 h1 => ?_⟩, fun w1 h1 => (same w1 h1).2⟩
    have hq := (same w1 h1).1 w1 ⟨⟨w1.drawn, #[]⟩, by rw [grow_empty]; rfl⟩
    unfold Oper.quietAt at hq ⊢
    generalize (execOp a.eval o).run P w1 = r at hq
    cases r with
    | ok nx w' =>
      cases nx <;> simp only [Oper.quietUpon] at hq ⊢ <;> try exact hq
      refine ⟨hq.1, hq.2.mono fun e w'' ⟨he, p, hp⟩ => ⟨he, ?_⟩⟩
      rw [hp]
      exact below_regrown w1 p.d p.os
    | halt x w' => simp only [Oper.quietUpon] at hq
  · refine ⟨undef, .inr ⟨by simpa using hw, rfl⟩, fun w1 h1 => ?_⟩
    have := h w1 h1
    unfold wpQuiet at this
    rw [if_neg hw] at this
    exact this

theorem headT_lex {n g : Nat} (w0 : World) (aF : Act) (hsel : Region.noSelect ops = true) (hs : Region.sinkB md ops n = true) (hc : Region.chainB md ops n = true) (hn : n < ops.size) :
    ∀ (l : List Oper) (k : Nat) (listed : Array Bool) (a : Act), (∀ j, j < l.length → l[j]? = ops[k + j]?) → k + l.length = n → HeadInv md ops n listed →
    Region.lexHead md ops g l.length k listed = true → dstsB l a.tmps.size = true → apartB l = true →
    (∀ w1, Below w0.heap.size w0 w1 → wpQuiet P ops (fun w' => ∃ p : Regrown, w' = grow (redrawn w1 p.d) p.os) (fun a' => a' = aF) l a) →
    headT P md ops (fun w => Below w0.heap.size w0 w) n (fun listed' a' => Region.seqB md ops g n listed' = true ∧ a' = aF) l.length listed a
  | [], k, listed, a, _, hk, _, hB, _, _, h => by
    have : k = n := by simpa using hk
    subst this
    exact ⟨by simpa [Region.lexHead] using hB, h w0 (Below.refl _ _)⟩
  | o :: l, k, listed, a, hl, hk, inv, hB, hd, hap, h => by
    have h0 : ops[k]? = some o := by simpa using (hl 0 (by simp)).symm
    simp only [List.length_cons, Region.lexHead, Bool.and_eq_true] at hB
    obtain ⟨⟨hr, hf⟩, hB'⟩ := hB
    have hkn : k < n := by simp only [List.length_cons] at hk; omega
    have hr' : k ∈ Region.ready md ops listed := by simpa using hr
    have hd1 := List.all_eq_true.1 hd o (by simp)
    cases ed : o.dst with
    | none => rw [ed] at hd1; cases hd1
    | some d =>
      rw [ed] at hd1
      have hdlt : d < a.tmps.size := by simpa using hd1
      simp only [apartB, Bool.and_eq_true] at hap
      have hrest : ∀ x ∈ l, x.dst ≠ some d := fun x hx => by
        have := List.all_eq_true.1 hap.1 x hx
        rw [ed] at this
        simpa using this
      obtain ⟨v, hy, hK⟩ := yields_of_walks w0 aF o l a d ed hdlt hrest h
      have hsz : (a.put o.dst v).tmps.size = a.tmps.size := by rw [ed]; simp [Act.put]
      exact headT_first h0 (Region.noSelect_spec hsel) hs hc hn hkn (fun listed' a' hL => seqB_ready hL.1) l.length listed a inv (Region.free_spec h0 hf) hr' hy
        (headT_lex w0 aF hsel hs hc hn l (k + 1) _ _ (fun j hj => by have := hl (j + 1) (by simp; omega); simpa [Nat.add_assoc, Nat.add_comm 1 j] using this) (by simp only [List.length_cons] at hk; omega) (inv.set hr' hkn) hB'
          (by rw [hsz]; exact List.all_eq_true.2 fun x hx => List.all_eq_true.1 hd x (by simp [hx])) hap.2 hK)
end
end Go.Proofs.YtpknglbpbodnbaaDoor
namespace Go.Proofs.YtpknglbpbodnbaaDoor
set_option linter.unusedVariables false
open Go.RowKit Go.Sort

/-- no other operation looks at a new variable's slot, or writes it -/
def aloneB (ops : Array Oper) (n : Nat) : Bool := (List.range n).all fun i => match ops[i]? with
  | some oi => !isAlloc oi || (match oi.dst with
    | some d => (List.range n).all fun j => j == i || (match ops[j]? with
      | some oj => !(oj.looksAt ops).contains d && oj.dst != some d
      | none => true)
    | none => false)
  | none => true
theorem aloneB_spec {ops : Array Oper} {n i j : Nat} {oi oj : Oper} {d : Tmp} (h : aloneB ops n = true) (hi : i < n) (ei : ops[i]? = some oi) (ha : isAlloc oi = true) (hd : oi.dst = some d) (hj : j < n) (ej : ops[j]? = some oj) (hne : j ≠ i) :
    d ∉ oj.looksAt ops ∧ oj.dst ≠ some d := by
  have h1 := List.all_eq_true.1 h i (List.mem_range.2 hi)
  simp only [ei, ha, hd, Bool.not_true, Bool.false_or] at h1
  have h2 := List.all_eq_true.1 h1 j (List.mem_range.2 hj)
  simp only [ej, Bool.or_eq_true, beq_iff_eq, hne, false_or, Bool.and_eq_true, Bool.not_eq_true', bne_iff_ne, ne_eq] at h2
  exact ⟨by simpa using h2.1, h2.2⟩

section
variable {P : Program} {ops : Array Oper} {md : Region.Mode}

/-- what is known while the first operations run -/
structure Laid (ops : Array Oper) (n : Nat) (zc : TypeId → Array Value) (w0 : World) (listed : Array Bool) (g : Tmp → Option Nat) (w : World) : Prop where
  below : Below w0.heap.size w0 w
  at_ : ∀ t b, g t = some b → w0.heap.size ≤ b ∧ b < w.heap.size ∧ ∃ i o T, i < n ∧ ops[i]? = some o ∧ isAlloc o = true ∧ o.dst = some t ∧ o.op = .alloc T ∧ w.heap[b]? = some (.cells (zc T) T (0, 0))
  one : ∀ t t' b, g t = some b → g t' = some b → t = t'
  all : ∀ i o d, i < n → ops[i]? = some o → isAlloc o = true → o.dst = some d → listed.getD i false = true → g d ≠ none

theorem Laid.step {n : Nat} {zc : TypeId → Array Value} {w0 w w' : World} {listed : Array Bool} {g : Tmp → Option Nat} (h : Laid ops n zc w0 listed g w) (hb : Below w.heap.size w w') (i : Nat) (o : Oper) (hi : ops[i]? = some o) (hna : isAlloc o = false) :
    Laid ops n zc w0 (listed.setIfInBounds i true) g w' where
  below := h.below.trans (hb.mono h.below.size)
  at_ := fun t b hg => by
    obtain ⟨h1, h2, j, o', T, h3, h4, h5, h6, h7, h8⟩ := h.at_ t b hg
    exact ⟨h1, Nat.lt_of_lt_of_le h2 hb.size, j, o', T, h3, h4, h5, h6, h7, (hb.block b h2).trans h8⟩
  one := h.one
  all := fun j o' d hj ho' ha hd hl => by
    refine h.all j o' d hj ho' ha hd ?_
    by_cases e : i = j
    · subst e
      rw [hi] at ho'
      cases ho'
      rw [hna] at ha
      cases ha
    · rwa [getD_set_ne false e] at hl

theorem Laid.lay {n : Nat} {zc : TypeId → Array Value} {w0 w : World} {listed : Array Bool} {g : Tmp → Option Nat} (h : Laid ops n zc w0 listed g w) (i : Nat) (o : Oper) (d : Tmp) (T : TypeId) (hin : i < n) (hi : ops[i]? = some o) (ha : isAlloc o = true) (hd : o.dst = some d) (hT : o.op = .alloc T)
    (hap : ∀ j oj d', j < n → ops[j]? = some oj → j ≠ i → oj.dst = some d' → d' ≠ d) :
    Laid ops n zc w0 (listed.setIfInBounds i true) (fun t => if t = d then some w.heap.size else g t) (w.alloc (.cells (zc T) T)) where
  below := h.below.alloc h.below.size _
  at_ := fun t b hg => by
    by_cases e : t = d
    · subst e
      rw [if_pos rfl] at hg
      cases hg
      exact ⟨h.below.size, by simp, i, o, T, hin, hi, ha, hd, hT, heap_alloc_new w _⟩
    · rw [if_neg e] at hg
      obtain ⟨h1, h2, j, o', T', h3, h4, h5, h6, h7, h8⟩ := h.at_ t b hg
      exact ⟨h1, by simp; omega, j, o', T', h3, h4, h5, h6, h7, (Below.heap_alloc w _ b h2).trans h8⟩
  one := fun t t' b hg hg' => by
    by_cases e : t = d <;> by_cases e' : t' = d
    · rw [e, e']
    · rw [if_pos e] at hg
      rw [if_neg e'] at hg'
      have := (h.at_ t' b hg').2.1
      cases hg
      omega
    · rw [if_neg e] at hg
      rw [if_pos e'] at hg'
      have := (h.at_ t b hg).2.1
      cases hg'
      omega
    · rw [if_neg e] at hg
      rw [if_neg e'] at hg'
      exact h.one t t' b hg hg'
  all := fun j o' d' hj ho' ha' hd' hl => by
    by_cases e : d' = d
    · rw [if_pos e]; simp
    · rw [if_neg e]
      refine h.all j o' d' hj ho' ha' hd' ?_
      by_cases e2 : i = j
      · subst e2
        rw [hi] at ho'
        cases ho'
        rw [hd] at hd'
        cases hd'
        exact absurd rfl e
      · rwa [getD_set_ne false e2] at hl

theorem seqB_shade : ∀ (g k : Nat) (listed : Array Bool), Region.seqB md (ops.map shade) g k listed = Region.seqB md ops g k listed
  | 0, k, listed => by simp only [Region.seqB, ready_shade]
  | g + 1, k, listed => by simp only [Region.seqB, ready_shade, seqB_shade g]

theorem sim_head {n gg : Nat} {zc : TypeId → Array Value} {w0 : World} {aF : Act} {Q' : Exit → Act → World → Prop} (hA : aloneB ops n = true) (hsel : ∀ (j : Nat) (o : Oper) cs b, ops[j]? = some o → o.op ≠ .select cs b)
    (hz : ∀ i o T, i < n → ops[i]? = some o → isAlloc o = true → o.op = .alloc T → ∀ ρ w, (execOp ρ o).run P w = .ok (.value (.pointer (some ⟨w.heap.size, 0, none⟩))) (w.alloc (.cells (zc T) T)))
    (hend : ∀ listed g w, HeadInv md (ops.map shade) n listed → Laid ops n zc w0 listed g w → Region.seqB md ops gg n listed = true → wpAny P md ops Q' gg listed (over g aF) w) :
    ∀ (f : Nat) (listed : Array Bool) (g : Tmp → Option Nat) (a : Act) (w : World), HeadInv md (ops.map shade) n listed → Laid ops n zc w0 listed g w →
      headT P md (ops.map shade) (fun w => Below w0.heap.size w0 w) n (fun listed' a' => Region.seqB md (ops.map shade) gg n listed' = true ∧ a' = aF) f listed a →
      wpAny P md ops Q' (f + gg) listed (over g a) w
  | 0, listed, g, a, w, inv, hl, h => by
    obtain ⟨h1, h2⟩ : Region.seqB md (ops.map shade) gg n listed = true ∧ a = aF := h
    subst h2
    rw [Nat.zero_add]
    rw [seqB_shade] at h1
    exact hend listed g w inv hl h1
  | f + 1, listed, g, a, w, inv, hl, h => by
    rw [show f + 1 + gg = (f + gg) + 1 by omega]
    obtain ⟨h0, hall⟩ := h
    rw [ready_shade] at h0
    refine ⟨fun e => absurd e h0, fun i hi => ?_⟩
    have hi' : i ∈ Region.ready md (ops.map shade) listed := by rw [ready_shade]; exact hi
    obtain ⟨hin, ht⟩ := hall i hi'
    obtain ⟨_, o, ho, _⟩ := mem_ready.1 hi
    have hS : (ops.map shade)[i]? = some (shade o) := by rw [Array.getElem?_map, ho]; rfl
    have inv' := inv.set hi' hin
    unfold wpOp
    unfold tOp at ht
    simp only [ho]
    simp only [hS] at ht
    cases ha : isAlloc o with
    | true =>
      obtain ⟨T, hT⟩ : ∃ T, o.op = .alloc T := by
        unfold isAlloc at ha
        split at ha
        · exact ⟨_, by assumption⟩
        · cases ha
      have hg : o.guard = none := by
        unfold isAlloc at ha
        rw [hT] at ha
        simp at ha
        exact ha.1
      obtain ⟨d, hd⟩ : ∃ d, o.dst = some d := by
        unfold isAlloc at ha
        rw [hT] at ha
        simp at ha
        exact Option.isSome_iff_exists.1 ha.2
      have hw1 : Region.wanted (shade o) (yielded (ops.map shade) a.tmps) = true := by simp [Region.wanted, shade_guard, hg]
      have hw2 : Region.wanted o (yielded ops (over g a).tmps) = true := by simp [Region.wanted, hg]
      rw [if_pos hw1] at ht
      rw [if_pos hw2]
      obtain ⟨v, _, hK⟩ := ht
      rw [shade_dst, hd] at hK
      refine .inl ?_
      unfold Oper.wp
      rw [hz i o T hin ho ha hT, Oper.upon_value, hd, over_alloc g a d w.heap.size v]
      exact sim_head hA hsel hz hend f _ _ _ _ inv' (hl.lay i o d T hin ho ha hd hT (fun j oj d' hj hoj hne hd' e => by
        subst e
        exact (aloneB_spec hA hin ho ha hd hj hoj hne).2 hd')) hK
    | false =>
      rw [shade_det ha] at ht
      have hgn : ∀ d, g d ≠ none → d ∉ o.looksAt ops ∧ o.dst ≠ some d := fun d hg => by
        cases hgd : g d with
        | none => exact absurd hgd hg
        | some b =>
          obtain ⟨_, _, j, o', T, h3, h4, h5, h6, _, _⟩ := hl.at_ d b hgd
          refine aloneB_spec hA h3 h4 h5 h6 hin ho (fun e => ?_)
          subst e
          rw [ho] at h4
          cases h4
          rw [ha] at h5
          cases h5
      have hexec : execOp (over g a).eval o = execOp a.eval o := execOp_congr o (fun cs b => hsel i o cs b ho) fun x hx => over_eval g a x fun d hxd => by
        cases hgd : g d with
        | none => rfl
        | some b =>
          refine absurd ?_ (hgn d (by rw [hgd]; simp)).1
          subst hxd
          exact List.mem_append_left _ (List.mem_filterMap.2 ⟨.tmp d, by simpa using hx, rfl⟩)
      have hput : ∀ v, (over g a).put o.dst v = over g (a.put o.dst v) := fun v => over_put g a o.dst v fun d hd => by
        cases hgd : g d with
        | none => rfl
        | some b => exact absurd hd (hgn d (by rw [hgd]; simp)).2
      have hwant : Region.wanted o (yielded ops (over g a).tmps) = Region.wanted o (yielded (ops.map shade) a.tmps) := by
        rw [yielded_shade]
        unfold Region.wanted
        cases hg : o.guard with
        | none => rfl
        | some gw =>
          obtain ⟨q, want⟩ := gw
          have hy : yielded ops (over g a).tmps q = yielded ops a.tmps q := by
            unfold yielded
            cases hq : (ops[q]?).bind (·.dst) with
            | none => rfl
            | some t =>
              have : g t = none := by
                cases hgt : g t with
                | none => rfl
                | some b =>
                  refine absurd ?_ (hgn t (by rw [hgt]; simp)).1
                  simp [Oper.looksAt, hg, hq]
              simp only [Option.bind_some, over_get g a t this]
          simp only [hy]
      rw [hwant]
      by_cases hw : Region.wanted o (yielded (ops.map shade) a.tmps) = true
      · rw [if_pos hw] at ht ⊢
        obtain ⟨v, hq, hK⟩ := ht
        refine .inl ?_
        have hq' := hq w hl.below
        unfold Oper.wp
        rw [hexec]
        unfold Oper.quietAt at hq'
        generalize (execOp a.eval o).run P w = r at hq'
        cases r with
        | ok nx w' =>
          cases nx <;> simp only [Oper.quietUpon] at hq' <;> simp only [Oper.upon]
          case value u =>
            obtain ⟨e1, e2⟩ := hq'
            rw [e1, e2, hput]
            exact sim_head hA hsel hz hend f _ _ _ _ inv' (hl.step (Below.refl _ _) i o ho ha) hK
          case skip =>
            obtain ⟨e1, e2⟩ := hq'
            rw [e1, ← e2, hput]
            exact sim_head hA hsel hz hend f _ _ _ _ inv' (hl.step (Below.refl _ _) i o ho ha) hK
          case enter fn args =>
            obtain ⟨e1, hc⟩ := hq'
            rw [e1]
            exact hc.mono fun e w'' ⟨he, hb⟩ => by
              subst he
              simp only [hput]
              exact sim_head hA hsel hz hend f _ _ _ _ inv' (hl.step hb i o ho ha) hK
        | halt x w' => simp only [Oper.quietUpon] at hq'
      · rw [if_neg hw] at ht ⊢
        rw [hput]
        exact sim_head hA hsel hz hend f _ _ _ _ inv' (hl.step (Below.refl _ _) i o ho ha) ht

/-- the new variables' slots, and their types -/
def allocsOf (l : List Oper) : List (Tmp × TypeId) := l.filterMap fun o => match o.op, o.dst with
  | .alloc T, some d => if o.guard.isNone then some (d, T) else none
  | _, _ => none
theorem mem_allocsOf {l : List Oper} {d : Tmp} {T : TypeId} : (d, T) ∈ allocsOf l ↔ ∃ o ∈ l, isAlloc o = true ∧ o.dst = some d ∧ o.op = .alloc T := by
  unfold allocsOf
  rw [List.mem_filterMap]
  constructor
  · rintro ⟨o, ho, h⟩
    refine ⟨o, ho, ?_⟩
    obtain ⟨dst, op, type, pos, after, guard⟩ := o
    cases op <;> cases dst <;> simp at h
    obtain ⟨h1, rfl, rfl⟩ := h
    exact ⟨by simp [isAlloc, h1], rfl, rfl⟩
  · rintro ⟨o, ho, h1, h2, h3⟩
    refine ⟨o, ho, ?_⟩
    obtain ⟨dst, op, type, pos, after, guard⟩ := o
    simp only at h2 h3
    subst h2 h3
    simp [isAlloc] at h1
    simp [h1]

/-- pointers put into slots -/
def putAll (ds : List (Tmp × TypeId)) (β : Tmp → Nat) (a : Act) : Act := ds.foldl (fun a d => a.put (some d.1) (.pointer (some ⟨β d.1, 0, none⟩))) a
theorem over_putAll (β : Tmp → Nat) : ∀ (ds : List (Tmp × TypeId)) (g : Tmp → Option Nat) (a : Act), (∀ t, (∃ T, (t, T) ∈ ds) → g t = some (β t)) → (∀ t, ¬ (∃ T, (t, T) ∈ ds) → g t = none) → over g a = putAll ds β a
  | [], g, a, h1, h2 => by
    have hg : g = fun _ => none := funext fun t => h2 t (by rintro ⟨T, h⟩; cases h)
    subst hg
    unfold over putAll
    simp only [List.foldl_nil]
    obtain ⟨tmps, defers⟩ := a
    simp only [Act.mk.injEq, and_true]
    apply Array.ext_getElem?
    intro i
    simp
  | (d, T) :: ds, g, a, h1, h2 => by
    have hd := h1 d ⟨T, by simp⟩
    have e : putAll ((d, T) :: ds) β a = putAll ds β (a.put (some d) (.pointer (some ⟨β d, 0, none⟩))) := rfl
    rw [e]
    by_cases hmem : ∃ T, (d, T) ∈ ds
    · have ih := over_putAll β ds g (a.put (some d) (.pointer (some ⟨β d, 0, none⟩))) (fun t ⟨T', ht⟩ => h1 t ⟨T', by simp [ht]⟩) (fun t ht => by
        by_cases e2 : t = d
        · subst e2; exact absurd hmem ht
        · exact h2 t (by rintro ⟨T', hT'⟩; simp [e2] at hT'; exact ht ⟨T', hT'⟩))
      rw [← ih]
      unfold over Act.put
      simp only [Act.mk.injEq, and_true]
      apply Array.ext_getElem?
      intro i
      simp only [Array.getElem?_mapIdx, Array.getElem?_setIfInBounds]
      by_cases e3 : d = i
      · subst e3
        by_cases hlt : d < a.tmps.size <;> simp [hlt, hd]
      · simp [e3]
    · have ih := over_putAll β ds (fun t => if t = d then none else g t) (a.put (some d) (.pointer (some ⟨β d, 0, none⟩))) (fun t ht => by
        by_cases e2 : t = d
        · subst e2; exact absurd ht hmem
        · show (if t = d then none else g t) = _
          rw [if_neg e2]; obtain ⟨T', ht⟩ := ht; exact h1 t ⟨T', by simp [ht]⟩) (fun t ht => by
        by_cases e2 : t = d
        · show (if t = d then none else g t) = _
          rw [if_pos e2]
        · show (if t = d then none else g t) = _
          rw [if_neg e2]; exact h2 t (by rintro ⟨T', hT'⟩; simp [e2] at hT'; exact ht ⟨T', hT'⟩))
      rw [← ih]
      unfold over Act.put
      simp only [Act.mk.injEq, and_true]
      apply Array.ext_getElem?
      intro i
      simp only [Array.getElem?_mapIdx, Array.getElem?_setIfInBounds]
      by_cases e3 : d = i
      · subst e3
        by_cases hlt : d < a.tmps.size <;> simp [hlt, hd]
      · have e4 : ¬ i = d := fun h => e3 h.symm
        simp [e3, e4]

/-- the region as a whole -/
theorem wp_region_alloc {id : Nat} {Q : Exit → Act → World → Prop} {a : Act} {w : World} {l : List Oper} (n : Nat) (zc : TypeId → Array Value) (aF : Act) (hm : P.follows .mixedOrders = true) (hB : Region.lexTailB .any (l.map shade).toArray n = true)
    (hA : aloneB l.toArray n = true) (hD : dstsB ((l.map shade).take n) a.tmps.size = true) (hP : apartB ((l.map shade).take n) = true)
    (hz : ∀ o T, (o.dst.getD 0, T) ∈ allocsOf (l.take n) → o.op = .alloc T → ∀ ρ w, (execOp ρ o).run P w = .ok (.value (.pointer (some ⟨w.heap.size, 0, none⟩))) (w.alloc (.cells (zc T) T)))
    (hwalk : ∀ w1, Below w.heap.size w w1 → wpQuiet P (l.map shade).toArray (fun w' => ∃ p : Regrown, w' = grow (redrawn w1 p.d) p.os) (fun a' => a' = aF) ((l.map shade).take n) a)
    (hrest : ∀ (β : Tmp → Nat) (w' : World), Below w.heap.size w w' → (∀ d T, (d, T) ∈ allocsOf (l.take n) → w.heap.size ≤ β d ∧ w'.heap[β d]? = some (.cells (zc T) T (0, 0))) →
      (∀ d T d' T', (d, T) ∈ allocsOf (l.take n) → (d', T') ∈ allocsOf (l.take n) → d ≠ d' → β d ≠ β d') → wpList P l.toArray Q (l.drop n) (putAll (allocsOf (l.take n)) β aF) w') :
    (Code.region id l.toArray true).wp P Q a w := by
  simp only [Region.lexTailB, Bool.and_eq_true, decide_eq_true_eq] at hB
  obtain ⟨⟨⟨⟨hsel, hn⟩, hs⟩, hc⟩, hlex⟩ := hB
  have hn' : n < l.length := by simpa using hn
  have htl : ((l.map shade).take n).length = n := by simp; omega
  have hmap : (l.map shade).toArray = l.toArray.map shade := by simp
  have hseln : ∀ (j : Nat) (o : Oper) cs b, l.toArray[j]? = some o → o.op ≠ .select cs b := fun j o cs b hj e => by
    have := Region.noSelect_spec hsel j (shade o) cs b (by simp at hj; simp [hj])
    cases ha : isAlloc o with
    | true => unfold isAlloc at ha; rw [e] at ha; cases ha
    | false => rw [shade_det ha] at this; exact this e
  have inv0 : HeadInv .any (l.map shade).toArray n (Array.replicate (l.map shade).toArray.size false) :=
    ⟨by simp, fun j oj _ hl => (by rw [getD_replicate_false] at hl; cases hl), fun t _ ht => getD_in (by simpa using ht) (getD_replicate_false _ _)⟩
  have bd : ∀ w1, Below ({ w with drawn := w.drawn + 1 } : World).heap.size { w with drawn := w.drawn + 1 } w1 → Below w.heap.size w w1 := fun w1 h => ⟨h.os, h.tape, h.output, h.size, h.block⟩
  have H := headT_lex (P := P) (md := .any) (g := (l.map shade).toArray.size - n) { w with drawn := w.drawn + 1 } aF hsel hs hc hn ((l.map shade).take n) 0 _ a (fun j hj => by
    have hj' : j < n := by rw [htl] at hj; exact hj
    simp [hj']) (by simpa using htl) inv0 (by rw [htl]; exact hlex) hD hP (fun w1 h1 => hwalk w1 (bd w1 h1))
  refine wp_region_any hm ?_
  rw [hmap] at H inv0
  have hsz : (l.toArray.map shade).size = l.toArray.size := by simp
  rw [hsz] at H inv0
  have := sim_head (P := P) (md := .any) (ops := l.toArray) (n := n) (gg := l.toArray.size - n) (zc := zc) (w0 := { w with drawn := w.drawn + 1 }) (aF := aF) (Q' := Q) hA hseln (fun i o T hin ho ha hT => by
      have hd : ∃ d, o.dst = some d := by
        unfold isAlloc at ha
        rw [hT] at ha
        simp at ha
        exact Option.isSome_iff_exists.1 ha.2
      obtain ⟨d, hd⟩ := hd
      refine hz o T (mem_allocsOf.2 ⟨o, ?_, ha, by rw [hd]; rfl, hT⟩) hT
      have ho' : l[i]? = some o := by simpa using ho
      exact List.mem_of_getElem? (i := i) (by rw [List.getElem?_take, if_pos hin]; exact ho'))
    (fun listed g w' inv hl hseq => by
      have hready : Region.ready .any l.toArray listed = [n] := by
        have hpos : l.toArray.size - n = (l.toArray.size - n - 1) + 1 := by simp at hn; simp; omega
        rw [hpos] at hseq
        simp only [Region.seqB, Bool.and_eq_true, decide_eq_true_eq] at hseq
        exact hseq.1
      have hall : ∀ i, i < n → listed.getD i false = true := fun i hi => by
        cases hh : listed.getD i false with
        | true => rfl
        | false =>
          have hin : i < listed.size := by rw [inv.size, hsz]; simp; omega
          refine absurd ?_ (tail_waits (md := .any) (ops := l.toArray.map shade) (by rw [← hmap]; exact hs) (by rw [← hmap]; exact hc) (by rw [hsz]; simp; omega) inv _ i rfl hi (getD_in hin hh) n (Nat.le_refl _))
          rw [ready_shade, hready]
          simp
      have hg : ∀ d T, (d, T) ∈ allocsOf (l.take n) → ∃ b, g d = some b := fun d T hm => by
        obtain ⟨o, ho, ha, hd, hT⟩ := mem_allocsOf.1 hm
        obtain ⟨i, hi⟩ := List.mem_iff_getElem?.1 ho
        have hin : i < n := by
          rcases Nat.lt_or_ge i n with h | h
          · exact h
          · rw [List.getElem?_take, if_neg (by omega)] at hi; cases hi
        have hi' : l.toArray[i]? = some o := by
          rw [List.getElem?_take, if_pos hin] at hi
          simpa using hi
        cases hgd : g d with
        | some b => exact ⟨b, rfl⟩
        | none => exact absurd hgd (hl.all i o d hin hi' ha hd (hall i hin))
      have hover : over g aF = putAll (allocsOf (l.take n)) (fun d => (g d).getD 0) aF := over_putAll _ _ g aF (fun t ⟨T, ht⟩ => by
        obtain ⟨b, hb⟩ := hg t T ht
        simp [hb]) (fun t ht => by
        cases hgt : g t with
        | none => rfl
        | some b =>
          obtain ⟨_, _, i, o, T, h3, h4, h5, h6, h7, _⟩ := hl.at_ t b hgt
          refine absurd ⟨T, mem_allocsOf.2 ⟨o, ?_, h5, h6, h7⟩⟩ ht
          have h4' : l[i]? = some o := by simpa using h4
          exact List.mem_of_getElem? (i := i) (by rw [List.getElem?_take, if_pos h3]; exact h4'))
      rw [hover]
      have hw := hrest (fun d => (g d).getD 0) w' (bd w' hl.below) (fun d T hm => by
        obtain ⟨b, hb⟩ := hg d T hm
        obtain ⟨h1, _, i, o, T', h3, h4, h5, h6, h7, h8⟩ := hl.at_ d b hb
        simp only [hb, Option.getD_some]
        refine ⟨h1, ?_⟩
        obtain ⟨o2, ho2, ha2, hd2, hT2⟩ := mem_allocsOf.1 hm
        obtain ⟨i2, hi2⟩ := List.mem_iff_getElem?.1 ho2
        have hin2 : i2 < n := by
          rcases Nat.lt_or_ge i2 n with h | h
          · exact h
          · rw [List.getElem?_take, if_neg (by omega)] at hi2; cases hi2
        have hi2' : l.toArray[i2]? = some o2 := by
          rw [List.getElem?_take, if_pos hin2] at hi2
          simpa using hi2
        have e : i2 = i := Classical.byContradiction fun hne => (aloneB_spec hA h3 h4 h5 h6 hin2 hi2' hne).2 hd2
        subst e
        rw [h4] at hi2'
        cases hi2'
        rw [h7] at hT2
        cases hT2
        exact h8) (fun d T d' T' hm hm' hne e => by
        obtain ⟨b, hb⟩ := hg d T hm
        obtain ⟨b', hb'⟩ := hg d' T' hm'
        simp only [hb, hb', Option.getD_some] at e
        subst e
        exact hne (hl.one d d' b hb hb'))
      have := wpAny_of_seq (md := .any) (Q' := Q) (l.drop n) n listed (putAll (allocsOf (l.take n)) (fun d => (g d).getD 0) aF) w' (fun j => by simp [List.getElem?_drop]) (by simpa using hseq) hw
      simpa using this)
    _ _ (fun _ => none) a { w with drawn := w.drawn + 1 } inv0 ⟨Below.refl _ _, fun t b h => by (cases h), fun t t' b h => by (cases h), fun i o d _ _ _ _ hl => by (rw [getD_replicate_false] at hl; cases hl)⟩ H
  rw [htl, show n + (l.toArray.size - n) = l.toArray.size by simp at hn ⊢; omega] at this
  have e0 : over (fun _ => none) a = a := over_putAll (fun _ => 0) [] _ a (fun t ⟨T, h⟩ => by cases h) (fun _ _ => rfl)
  rw [e0] at this
  exact this
end
end Go.Proofs.YtpknglbpbodnbaaDoor
namespace Go.Proofs.YtpknglbpbodnbaaDoor
set_option linter.unusedVariables false
open Go.RowKit Go.Sort

section
variable {P : Program} {ops : Array Oper} {md : Region.Mode} {C : World → Prop}

/-- what is to be checked of an order: (1) the tail's first waits for each of the head's (by way of later ones of the head) (2) each of the tail waits for the one ahead of it -/
def pickSink (md : Region.Mode) (ops : Array Oper) (t0 : Nat) : List Nat → Bool
  | [] => true
  | i :: r => (t0 :: r).any (fun j => Region.waitsFor md ops j i) && pickSink md ops t0 r
def pickChain (md : Region.Mode) (ops : Array Oper) : Nat → List Nat → Bool
  | _, [] => true
  | t, u :: r => Region.waitsFor md ops u t && pickChain md ops u r
def pickSeq (md : Region.Mode) (ops : Array Oper) : List Nat → Array Bool → Bool
  | [], listed => (Region.ready md ops listed).isEmpty
  | t :: r, listed => decide (Region.ready md ops listed = [t]) && pickSeq md ops r (listed.setIfInBounds t true)
def pickHead (md : Region.Mode) (ops : Array Oper) (tl : List Nat) : List Nat → Array Bool → Bool
  | [], listed => pickSeq md ops tl listed
  | k :: r, listed => (Region.ready md ops listed).contains k && Region.free md ops listed k && pickHead md ops tl r (listed.setIfInBounds k true)
def pickClosed (md : Region.Mode) (ops : Array Oper) (listed : Array Bool) : Bool :=
  decide (listed.size = ops.size) && (List.range ops.size).all fun j => !listed.getD j false || match ops[j]? with
    | some o => o.after.all fun e => !Region.binds md e || listed.getD e.on false
    | none => true

/-- what holds while the head is walked -/
structure PickInv (md : Region.Mode) (ops : Array Oper) (tl : List Nat) (listed : Array Bool) : Prop where
  size : listed.size = ops.size
  closed : ∀ j oj, ops[j]? = some oj → listed.getD j false = true → ∀ e ∈ oj.after, Region.binds md e = true → listed.getD e.on false = true
  tail : ∀ t ∈ tl, listed.getD t true = false

theorem PickInv.of_closed {tl : List Nat} {listed : Array Bool} (h : pickClosed md ops listed = true) (ht : tl.all (fun t => !listed.getD t true) = true) : PickInv md ops tl listed := by
  simp only [pickClosed, Bool.and_eq_true, decide_eq_true_eq, List.all_eq_true, List.mem_range] at h
  refine ⟨h.1, fun j oj hj hl e he hb => ?_, fun t hm => by simpa using List.all_eq_true.1 ht t hm⟩
  have h1 := h.2 j (Array.getElem?_eq_some_iff.1 hj).1
  simp only [hj, hl, Bool.not_true, Bool.false_or] at h1
  have h2 := Array.all_eq_true_iff_forall_mem.1 h1 e he
  simpa [hb] using h2
theorem PickInv.set {i : Nat} {tl : List Nat} {listed : Array Bool} (inv : PickInv md ops tl listed) (hi : i ∈ Region.ready md ops listed) (hin : i ∉ tl) : PickInv md ops tl (listed.setIfInBounds i true) := by
  obtain ⟨_, oi, hoi, hall⟩ := mem_ready.1 hi
  refine ⟨by simp [inv.size], fun j oj hj hl e he hb => ?_, fun t ht => (by
    have hne : i ≠ t := by rintro rfl; exact hin ht
    rw [getD_set_ne true hne]
    exact inv.tail t ht)⟩
  by_cases hij : i = j
  · subst hij
    have : oj = oi := Option.some.inj (hj.symm.trans hoi)
    subst this
    exact getD_set_true (hall e he hb)
  · rw [getD_set_ne false hij] at hl
    exact getD_set_true (inv.closed j oj hj hl e he hb)

theorem pick_chain_waits {listed : Array Bool} : ∀ (r : List Nat) (t : Nat), pickChain md ops t r = true → (∀ u ∈ t :: r, listed.getD u true = false) → ∀ u ∈ r, u ∉ Region.ready md ops listed := by
  intro r
  induction r with
  | nil => intro t _ _ u hu; cases hu
  | cons v r ih =>
    intro t hc hl u hu hr
    simp only [pickChain, Bool.and_eq_true] at hc
    rcases List.mem_cons.1 hu with rfl | hu
    · obtain ⟨o', ho', e, he, hb, hon⟩ := Region.waitsFor_spec hc.1
      obtain ⟨_, ot, hot, hall⟩ := mem_ready.1 hr
      have : o' = ot := Option.some.inj (ho'.symm.trans hot)
      subst this
      have h2 := hall e he hb
      rw [hon, getD_both (hl t (by simp))] at h2
      cases h2
    · exact ih v hc.2 (fun x hx => hl x (by simp at hx ⊢; exact .inr hx)) u hu hr
theorem pick_first_waits {listed : Array Bool} {t0 : Nat} (hcl : ∀ j oj, ops[j]? = some oj → listed.getD j false = true → ∀ e ∈ oj.after, Region.binds md e = true → listed.getD e.on false = true) (hsz : listed.size = ops.size) :
    ∀ (l : List Nat), pickSink md ops t0 l = true → (∃ i ∈ l, listed.getD i true = false) → t0 ∉ Region.ready md ops listed := by
  intro l
  induction l with
  | nil => rintro _ ⟨i, hi, _⟩; cases hi
  | cons x r ih =>
    rintro hs ⟨i, hi, hun⟩ hr
    simp only [pickSink, Bool.and_eq_true] at hs
    rcases List.mem_cons.1 hi with rfl | hi
    · obtain ⟨j, hj, hj2⟩ := List.any_eq_true.1 hs.1
      obtain ⟨oj, hoj, e, he, hb, hon⟩ := Region.waitsFor_spec hj2
      rcases List.mem_cons.1 hj with rfl | hj
      · obtain ⟨_, ot, hot, hall⟩ := mem_ready.1 hr
        have : oj = ot := Option.some.inj (hoj.symm.trans hot)
        subst this
        have h2 := hall e he hb
        rw [hon, getD_both hun] at h2
        cases h2
      · cases hl : listed.getD j false with
        | true =>
          have h2 := hcl j oj hoj hl e he hb
          rw [hon, getD_both hun] at h2
          cases h2
        | false =>
          have hjs : j < listed.size := by rw [hsz]; exact (Array.getElem?_eq_some_iff.1 hoj).1
          exact ih hs.2 ⟨j, hj, getD_in hjs hl⟩ hr
    · exact ih hs.2 ⟨i, hi, hun⟩ hr
theorem pick_waits {t0 : Nat} {tl l : List Nat} {listed : Array Bool} (hs : pickSink md ops t0 l = true) (hc : pickChain md ops t0 tl = true) (inv : PickInv md ops (t0 :: tl) listed) (hu : ∃ i ∈ l, listed.getD i true = false) :
    ∀ t ∈ t0 :: tl, t ∉ Region.ready md ops listed := by
  intro t ht
  rcases List.mem_cons.1 ht with rfl | ht
  · exact pick_first_waits inv.closed inv.size l hs hu
  · exact pick_chain_waits tl t0 hc inv.tail t ht

/-- whatever order is picked for the head, L holds behind it -/
def pickAny (P : Program) (md : Region.Mode) (ops : Array Oper) (C : World → Prop) (tl : List Nat) (L : Array Bool → Act → Prop) : Nat → Array Bool → Act → Prop
  | 0, listed, a => L listed a
  | f + 1, listed, a =>
    Region.ready md ops listed ≠ [] ∧ ∀ i ∈ Region.ready md ops listed, i ∉ tl ∧ qOp P ops C i (pickAny P md ops C tl L f (listed.setIfInBounds i true)) a

theorem any_of_pick {g : Nat} {tl : List Nat} {L : Array Bool → Act → Prop} {Q' : Exit → Act → World → Prop} (hL : ∀ listed a w, C w → L listed a → wpAny P md ops Q' g listed a w) :
    ∀ (f : Nat) (listed : Array Bool) (a : Act) (w : World), C w → pickAny P md ops C tl L f listed a → wpAny P md ops Q' (f + g) listed a w
  | 0, listed, a, w, hw, h => by rw [Nat.zero_add]; exact hL _ _ _ hw h
  | f + 1, listed, a, w, hw, h => by
    rw [show f + 1 + g = (f + g) + 1 by omega]
    exact ⟨fun h0 => absurd h0 h.1, fun i hi => wpOp_of_qOp hw (fun a' w' hw' h' => any_of_pick hL f _ a' w' hw' h') (h.2 i hi).2⟩

theorem pickAny_first {i t0 : Nat} {tl l0 : List Nat} {oi : Oper} {v : Value} {L : Array Bool → Act → Prop} (hi : ops[i]? = some oi) (hsel : ∀ (j : Nat) (o : Oper) cs b, ops[j]? = some o → o.op ≠ .select cs b)
    (hs : pickSink md ops t0 l0 = true) (hc : pickChain md ops t0 tl = true) (hin : i ∈ l0) (hin' : i ∉ t0 :: tl)
    (hdone : ∀ listed a, L listed a → ∀ j ∈ Region.ready md ops listed, j ∈ t0 :: tl) :
    ∀ (f : Nat) (listed : Array Bool) (a : Act), PickInv md ops (t0 :: tl) listed →
      (∀ j oj, ops[j]? = some oj → j ≠ i → listed.getD j true = false → (∀ e ∈ oj.after, Region.binds md e = true → e.on ≠ i) → oi.apart ops oj = true) →
      i ∈ Region.ready md ops listed → YieldsIn P ops C oi v a →
      pickAny P md ops C (t0 :: tl) L f (listed.setIfInBounds i true) (a.put oi.dst v) → pickAny P md ops C (t0 :: tl) L (f + 1) listed a := by
  intro f
  induction f with
  | zero =>
    intro listed a inv _ hr hy H
    have hun := (mem_ready.1 hr).1
    refine ⟨fun h => (by rw [h] at hr; cases hr), fun j hj => ?_⟩
    have hjn : j ∉ t0 :: tl := fun h => pick_waits hs hc inv ⟨i, hin, hun⟩ j h hj
    refine ⟨hjn, ?_⟩
    by_cases hji : j = i
    · subst hji; exact hy.qOp hi H
    · exact absurd (hdone _ _ H j (ready_mono hj hji)) hjn
  | succ f ih =>
    intro listed a inv hfree hr hy H
    have hun := (mem_ready.1 hr).1
    refine ⟨fun h => (by rw [h] at hr; cases hr), fun j hj => ?_⟩
    have hjn : j ∉ t0 :: tl := fun h => pick_waits hs hc inv ⟨i, hin, hun⟩ j h hj
    refine ⟨hjn, ?_⟩
    by_cases hji : j = i
    · subst hji; exact hy.qOp hi H
    · have h1 := (H.2 j (ready_mono hj hji)).2
      obtain ⟨hjun, oj, hoj, hall⟩ := mem_ready.1 hj
      have hnot : ∀ e ∈ oj.after, Region.binds md e = true → e.on ≠ i := fun e he hb heq => by
        have h1 := hall e he hb
        rw [heq, getD_both hun] at h1
        cases h1
      have h2 := qOp_put hoj (hfree j oj hoj hji hjun hnot) (fun cs b => hsel i oi cs b hi) (fun cs b => hsel j oj cs b hoj) hy h1
      have hfree' : ∀ k ok, ops[k]? = some ok → k ≠ i → (listed.setIfInBounds j true).getD k true = false →
          (∀ e ∈ ok.after, Region.binds md e = true → e.on ≠ i) → oi.apart ops ok = true := fun k ok hk hki hun hno => by
        refine hfree k ok hk hki ?_ hno
        by_cases hjk : j = k
        · subst hjk; exact hjun
        · rw [getD_set_ne true hjk] at hun; exact hun
      refine qOp_mono (fun a' h3 => ih (listed.setIfInBounds j true) a' (inv.set hj hjn) hfree' (ready_mono hr (Ne.symm hji)) h3.1 ?_) h2
      rw [Array.setIfInBounds_comm _ _ hji]
      exact h3.2

theorem pickSeq_ready {tl : List Nat} {listed : Array Bool} (h : pickSeq md ops tl listed = true) : ∀ j ∈ Region.ready md ops listed, j ∈ tl := by
  cases tl with
  | nil => intro j hj; simp only [pickSeq, List.isEmpty_iff] at h; rw [h] at hj; cases hj
  | cons t r =>
    intro j hj
    simp only [pickSeq, Bool.and_eq_true, decide_eq_true_eq] at h
    rw [h.1] at hj
    have : j = t := by simpa using hj
    subst this
    simp

def atIdx (ops : Array Oper) (l : List Nat) : List Oper := l.filterMap fun i => ops[i]?

theorem pickAny_lex {t0 : Nat} {tl l0 : List Nat} {Lq : Act → Prop} (hsel : Region.noSelect ops = true) (hs : pickSink md ops t0 l0 = true) (hc : pickChain md ops t0 tl = true) :
    ∀ (l : List Nat) (listed : Array Bool) (a : Act), (∀ i ∈ l, i ∈ l0 ∧ i ∉ t0 :: tl ∧ i < ops.size) → PickInv md ops (t0 :: tl) listed →
    pickHead md ops (t0 :: tl) l listed = true → wpQuiet P ops C Lq (atIdx ops l) a →
    pickAny P md ops C (t0 :: tl) (fun listed' a' => pickSeq md ops (t0 :: tl) listed' = true ∧ Lq a') l.length listed a
  | [], listed, a, _, _, hB, h => ⟨by simpa [pickHead] using hB, h⟩
  | k :: l, listed, a, hl, inv, hB, h => by
    obtain ⟨hk1, hk2, hk3⟩ := hl k (by simp)
    have h0 : ops[k]? = some (ops[k]'hk3) := Array.getElem?_eq_getElem hk3
    simp only [pickHead, Bool.and_eq_true] at hB
    obtain ⟨⟨hr, hf⟩, hB'⟩ := hB
    have hr' : k ∈ Region.ready md ops listed := by simpa using hr
    have e : atIdx ops (k :: l) = ops[k]'hk3 :: atIdx ops l := by simp [atIdx, h0]
    rw [e] at h
    have hst : qOp P ops C k (wpQuiet P ops C Lq (atIdx ops l)) a := by unfold qOp; simp only [h0]; exact h
    obtain ⟨v, hy, hK⟩ := yieldsIn_of_qOp h0 hst
    exact pickAny_first h0 (Region.noSelect_spec hsel) hs hc hk1 hk2 (fun listed' a' hL => pickSeq_ready hL.1) l.length listed a inv (Region.free_spec h0 hf) hr' hy
      (pickAny_lex hsel hs hc l _ _ (fun i hi => hl i (by simp [hi])) (inv.set hr' hk2) hB' hK)

theorem wpAny_of_pickSeq {Q' : Exit → Act → World → Prop} : ∀ (l : List Nat) (listed : Array Bool) (a : Act) (w : World), (∀ i ∈ l, i < ops.size) →
    pickSeq md ops l listed = true → wpList P ops Q' (atIdx ops l) a w → wpAny P md ops Q' l.length listed a w
  | [], _, _, _, _, hB, h => ⟨by simpa [pickSeq] using hB, h⟩
  | k :: l, listed, a, w, hl, hB, h => by
    have hk3 := hl k (by simp)
    have h0 : ops[k]? = some (ops[k]'hk3) := Array.getElem?_eq_getElem hk3
    have e : atIdx ops (k :: l) = ops[k]'hk3 :: atIdx ops l := by simp [atIdx, h0]
    rw [e] at h
    simp only [pickSeq, Bool.and_eq_true, decide_eq_true_eq] at hB
    refine ⟨fun h1 => (by rw [hB.1] at h1; cases h1), fun i hi => ?_⟩
    rw [hB.1] at hi
    have hik : i = k := by simpa using hi
    subst hik
    have hw : wpOp P ops Q' i (wpList P ops Q' (atIdx ops l)) a w := by unfold wpOp; simp only [h0]; exact h
    exact wpOp_mono (fun a' w' h' => wpAny_of_pickSeq l _ a' w' (fun i hi => hl i (by simp [hi])) hB.2 h') hw

/-- all that is to be checked -/
def pickB (md : Region.Mode) (ops : Array Oper) (listed : Array Bool) (hd : List Nat) (t0 : Nat) (tl : List Nat) : Bool :=
  Region.noSelect ops && pickSink md ops t0 hd && pickChain md ops t0 tl && pickClosed md ops listed && (t0 :: tl).all (fun t => !listed.getD t true) &&
  hd.all (fun i => !(t0 :: tl).contains i && decide (i < ops.size)) && (t0 :: tl).all (fun i => decide (i < ops.size)) && pickHead md ops (t0 :: tl) hd listed

theorem wpAny_pick {Q : Exit → Act → World → Prop} {a : Act} {w : World} {listed : Array Bool} {fuel : Nat} (hd : List Nat) (t0 : Nat) (tl : List Nat) (hB : pickB md ops listed hd t0 tl = true) (hf : fuel = hd.length + (t0 :: tl).length) (hC : C w)
    (h : wpQuiet P ops C (fun a' => ∀ w', C w' → wpList P ops Q (atIdx ops (t0 :: tl)) a' w') (atIdx ops hd) a) : wpAny P md ops Q fuel listed a w := by
  subst hf
  simp only [pickB, Bool.and_eq_true] at hB
  obtain ⟨⟨⟨⟨⟨⟨⟨hsel, hs⟩, hc⟩, hcl⟩, htl⟩, hin⟩, hlt⟩, hh⟩ := hB
  have hin' : ∀ i ∈ hd, i ∈ hd ∧ i ∉ t0 :: tl ∧ i < ops.size := fun i hi => by
    have := List.all_eq_true.1 hin i hi
    simp only [Bool.and_eq_true, decide_eq_true_eq, Bool.not_eq_true'] at this
    refine ⟨hi, (fun hm => ?_), this.2⟩
    have h1 := this.1
    rw [List.contains_iff_mem.2 hm] at h1
    cases h1
  have H := pickAny_lex (md := md) (Lq := fun a' => ∀ w', C w' → wpList P ops Q (atIdx ops (t0 :: tl)) a' w') hsel hs hc hd listed a hin' (PickInv.of_closed hcl htl) hh h
  exact any_of_pick (Q' := Q) (g := (t0 :: tl).length) (fun listed a' w' hw' hL => wpAny_of_pickSeq (t0 :: tl) listed a' w' (fun i hi => by simpa using List.all_eq_true.1 hlt i hi) hL.1 (hL.2 w' hw')) _ _ _ _ hC H

/-- the region in the order hd, then t0 :: tl; the head's calls make memory alone -/
theorem wp_region_pick {id : Nat} {Q : Exit → Act → World → Prop} {a : Act} {w : World} (hd : List Nat) (t0 : Nat) (tl : List Nat) (hm : P.follows .mixedOrders = true) (hB : pickB .any ops (Array.replicate ops.size false) hd t0 tl = true) (hf : ops.size = hd.length + (t0 :: tl).length)
    (h : wpQuiet P ops (fun w' => ∃ p : Regrown, w' = grow (redrawn w p.d) p.os) (fun a' => ∀ w', (∃ p : Regrown, w' = grow (redrawn w p.d) p.os) → wpList P ops Q (atIdx ops (t0 :: tl)) a' w') (atIdx ops hd) a) : (Code.region id ops true).wp P Q a w := by
  refine wp_region_any hm ?_
  exact wpAny_pick (C := fun w' => ∃ p : Regrown, w' = grow (redrawn w p.d) p.os) hd t0 tl hB hf ⟨⟨w.drawn + 1, #[]⟩, by rw [grow_empty]; rfl⟩ h
end
end Go.Proofs.YtpknglbpbodnbaaDoor
namespace Go.Proofs.YtpknglbpbodnbaaDoor
set_option linter.unusedVariables false
open Go.RowKit Go.Sort

section
variable {P : Program} {ops : Array Oper} {md : Region.Mode} {C D : World → Prop}

/-- each of the rest waits for the call, or for another of the rest -/
def chainT (md : Region.Mode) (ops : Array Oper) (c : Nat) (r : List Nat) : Bool := r.all fun u => (c :: r).any fun t => Region.waitsFor md ops u t
theorem chainT_waits {listed : Array Bool} {c : Nat} {r : List Nat} (h : chainT md ops c r = true) (hl : ∀ u ∈ c :: r, listed.getD u true = false) : ∀ u ∈ r, u ∉ Region.ready md ops listed := by
  intro u hu hr
  obtain ⟨t, ht, hw⟩ := List.any_eq_true.1 (List.all_eq_true.1 h u hu)
  obtain ⟨o', ho', e, he, hb, hon⟩ := Region.waitsFor_spec hw
  obtain ⟨_, ot, hot, hall⟩ := mem_ready.1 hr
  have : o' = ot := Option.some.inj (ho'.symm.trans hot)
  subst this
  have h2 := hall e he hb
  rw [hon, getD_both (hl t ht)] at h2
  cases h2
theorem pickT_waits {t0 : Nat} {tl l : List Nat} {listed : Array Bool} (hs : pickSink md ops t0 l = true) (hc : chainT md ops t0 tl = true) (inv : PickInv md ops (t0 :: tl) listed) (hu : ∃ i ∈ l, listed.getD i true = false) :
    ∀ t ∈ t0 :: tl, t ∉ Region.ready md ops listed := by
  intro t ht
  rcases List.mem_cons.1 ht with rfl | ht
  · exact pick_first_waits inv.closed inv.size l hs hu
  · exact chainT_waits hc inv.tail t ht

def pickT (P : Program) (md : Region.Mode) (ops : Array Oper) (C : World → Prop) (tl : List Nat) (L : Array Bool → Act → Prop) : Nat → Array Bool → Act → Prop
  | 0, listed, a => L listed a
  | f + 1, listed, a =>
    Region.ready md ops listed ≠ [] ∧ ∀ i ∈ Region.ready md ops listed, i ∉ tl ∧ tOp P ops C i (pickT P md ops C tl L f (listed.setIfInBounds i true)) a

theorem pickT_first {i t0 : Nat} {tl l0 : List Nat} {oi : Oper} {v : Value} {L : Array Bool → Act → Prop} (hi : ops[i]? = some oi) (hsel : ∀ (j : Nat) (o : Oper) cs b, ops[j]? = some o → o.op ≠ .select cs b)
    (hs : pickSink md ops t0 l0 = true) (hc : chainT md ops t0 tl = true) (hin : i ∈ l0) (hin' : i ∉ t0 :: tl)
    (hdone : ∀ listed a, L listed a → ∀ j ∈ Region.ready md ops listed, j ∈ t0 :: tl) :
    ∀ (f : Nat) (listed : Array Bool) (a : Act), PickInv md ops (t0 :: tl) listed →
      (∀ j oj, ops[j]? = some oj → j ≠ i → listed.getD j true = false → (∀ e ∈ oj.after, Region.binds md e = true → e.on ≠ i) → oi.apart ops oj = true) →
      i ∈ Region.ready md ops listed → YieldsT P ops C oi v a →
      pickT P md ops C (t0 :: tl) L f (listed.setIfInBounds i true) (a.put oi.dst v) → pickT P md ops C (t0 :: tl) L (f + 1) listed a := by
  intro f
  induction f with
  | zero =>
    intro listed a inv _ hr hy H
    have hun := (mem_ready.1 hr).1
    refine ⟨fun h => (by rw [h] at hr; cases hr), fun j hj => ?_⟩
    have hjn : j ∉ t0 :: tl := fun h => pickT_waits hs hc inv ⟨i, hin, hun⟩ j h hj
    refine ⟨hjn, ?_⟩
    by_cases hji : j = i
    · subst hji; exact hy.tOp hi H
    · exact absurd (hdone _ _ H j (ready_mono hj hji)) hjn
  | succ f ih =>
    intro listed a inv hfree hr hy H
    have hun := (mem_ready.1 hr).1
    refine ⟨fun h => (by rw [h] at hr; cases hr), fun j hj => ?_⟩
    have hjn : j ∉ t0 :: tl := fun h => pickT_waits hs hc inv ⟨i, hin, hun⟩ j h hj
    refine ⟨hjn, ?_⟩
    by_cases hji : j = i
    · subst hji; exact hy.tOp hi H
    · have h1 := (H.2 j (ready_mono hj hji)).2
      obtain ⟨hjun, oj, hoj, hall⟩ := mem_ready.1 hj
      have hnot : ∀ e ∈ oj.after, Region.binds md e = true → e.on ≠ i := fun e he hb heq => by
        have h1 := hall e he hb
        rw [heq, getD_both hun] at h1
        cases h1
      have h2 := tOp_put hoj (hfree j oj hoj hji hjun hnot) (fun cs b => hsel i oi cs b hi) (fun cs b => hsel j oj cs b hoj) hy h1
      have hfree' : ∀ k ok, ops[k]? = some ok → k ≠ i → (listed.setIfInBounds j true).getD k true = false →
          (∀ e ∈ ok.after, Region.binds md e = true → e.on ≠ i) → oi.apart ops ok = true := fun k ok hk hki hun hno => by
        refine hfree k ok hk hki ?_ hno
        by_cases hjk : j = k
        · subst hjk; exact hjun
        · rw [getD_set_ne true hjk] at hun; exact hun
      refine tOp_mono (fun a' h3 => ih (listed.setIfInBounds j true) a' (inv.set hj hjn) hfree' (ready_mono hr (Ne.symm hji)) h3.1 ?_) h2
      rw [Array.setIfInBounds_comm _ _ hji]
      exact h3.2

def headE (md : Region.Mode) (ops : Array Oper) (E : Array Bool → Bool) : List Nat → Array Bool → Bool
  | [], listed => E listed
  | k :: r, listed => (Region.ready md ops listed).contains k && Region.free md ops listed k && headE md ops E r (listed.setIfInBounds k true)

theorem pickT_lex {t0 : Nat} {tl l0 : List Nat} (w0 : World) (aF : Act) (E : Array Bool → Bool) (hE : ∀ listed, E listed = true → ∀ j ∈ Region.ready md ops listed, j ∈ t0 :: tl)
    (hsel : Region.noSelect ops = true) (hs : pickSink md ops t0 l0 = true) (hc : chainT md ops t0 tl = true) :
    ∀ (l : List Nat) (listed : Array Bool) (a : Act), (∀ i ∈ l, i ∈ l0 ∧ i ∉ t0 :: tl ∧ i < ops.size) → PickInv md ops (t0 :: tl) listed →
    headE md ops E l listed = true → dstsB (atIdx ops l) a.tmps.size = true → apartB (atIdx ops l) = true →
    (∀ w1, Below w0.heap.size w0 w1 → wpQuiet P ops (fun w' => ∃ p : Regrown, w' = grow (redrawn w1 p.d) p.os) (fun a' => a' = aF) (atIdx ops l) a) →
    pickT P md ops (fun w => Below w0.heap.size w0 w) (t0 :: tl) (fun listed' a' => E listed' = true ∧ a' = aF) l.length listed a
  | [], listed, a, _, _, hB, _, _, h => ⟨by simpa [headE] using hB, h w0 (Below.refl _ _)⟩
  | k :: l, listed, a, hl, inv, hB, hd, hap, h => by
    obtain ⟨hk1, hk2, hk3⟩ := hl k (by simp)
    have h0 : ops[k]? = some (ops[k]'hk3) := Array.getElem?_eq_getElem hk3
    simp only [headE, Bool.and_eq_true] at hB
    obtain ⟨⟨hr, hf⟩, hB'⟩ := hB
    have hr' : k ∈ Region.ready md ops listed := by simpa using hr
    have e : atIdx ops (k :: l) = ops[k]'hk3 :: atIdx ops l := by simp [atIdx, h0]
    rw [e] at h hd hap
    generalize ops[k]'hk3 = o at *
    have hd1 := List.all_eq_true.1 hd o (by simp)
    cases ed : o.dst with
    | none => rw [ed] at hd1; cases hd1
    | some d =>
      rw [ed] at hd1
      have hdlt : d < a.tmps.size := by simpa using hd1
      simp only [apartB, Bool.and_eq_true] at hap
      have hrest : ∀ x ∈ atIdx ops l, x.dst ≠ some d := fun x hx => by
        have := List.all_eq_true.1 hap.1 x hx
        rw [ed] at this
        simpa using this
      obtain ⟨v, hy, hK⟩ := yields_of_walks w0 aF o (atIdx ops l) a d ed hdlt hrest h
      have hsz : (a.put o.dst v).tmps.size = a.tmps.size := by rw [ed]; simp [Act.put]
      exact pickT_first h0 (Region.noSelect_spec hsel) hs hc hk1 hk2 (fun listed' a' hL => hE _ hL.1) l.length listed a inv (Region.free_spec h0 hf) hr' hy
        (pickT_lex w0 aF E hE hsel hs hc l _ _ (fun i hi => hl i (by simp [hi])) (inv.set hr' hk2) hB'
          (by rw [hsz]; exact List.all_eq_true.2 fun x hx => List.all_eq_true.1 hd x (by simp [hx])) hap.2 hK)

theorem pickT_put {k : Nat} {ok : Oper} (hsel : ∀ (j : Nat) (o : Oper) cs b, ops[j]? = some o → o.op ≠ .select cs b) {tl : List Nat} {L : Array Bool → Act → Prop}
    (hap : ∀ j oj, ops[j]? = some oj → j ∉ tl → j ≠ k → ok.apart ops oj = true) (u : Value) :
    ∀ (f : Nat) (listed : Array Bool) (a : Act), listed.getD k true = true → pickT P md ops C tl L f listed a →
      pickT P md ops C tl (fun listed' a' => ∃ a0, L listed' a0 ∧ a' = a0.put ok.dst u) f listed (a.put ok.dst u)
  | 0, listed, a, _, h => ⟨a, h, rfl⟩
  | f + 1, listed, a, hk, h => ⟨h.1, fun i hi => ⟨(h.2 i hi).1, by
      obtain ⟨hun, oi, hoi, _⟩ := mem_ready.1 hi
      have hik : i ≠ k := by rintro rfl; rw [hk] at hun; cases hun
      obtain ⟨h1, h2, h3⟩ := Oper.apart_spec (hap i oi hoi (h.2 i hi).1 hik)
      have hk' : (listed.setIfInBounds i true).getD k true = true := by rw [getD_set_ne true hik]; exact hk
      have this := (h.2 i hi).2
      unfold tOp at this ⊢
      simp only [hoi] at this ⊢
      rw [wanted_put oi a ok.dst u h1]
      split
      · rename_i hw
        simp only [hw, if_true] at this
        obtain ⟨v, hv, hn⟩ := this
        refine ⟨v, fun w hw' => ?_, ?_⟩
        · have h5 := hv w hw'
          unfold Oper.quietAt at *
          rwa [execOp_put oi (fun cs b => hsel i oi cs b hoi) a ok.dst u h1]
        · rw [Act.put_comm a u v h2]
          exact pickT_put hsel hap u f _ _ hk' hn
      · rename_i hw
        simp only [hw] at this
        rw [Act.put_comm a u undef h2]
        exact pickT_put hsel hap u f _ _ hk' this⟩⟩

theorem wpOp_of_tOp {i : Nat} {a : Act} {K : Act → Prop} {K' : Act → World → Prop} {Q' : Exit → Act → World → Prop} {w : World} (hDC : ∀ w, D w → C w) (hDB : ∀ w w'', D w → Below w.heap.size w w'' → D w'') (hw : D w)
    (h : ∀ a' w', D w' → K a' → K' a' w') (hh : tOp P ops C i K a) : wpOp P ops Q' i K' a w := by
  unfold tOp at hh
  unfold wpOp
  split
  · rename_i ho; simp only [ho] at hh; exact h _ _ hw hh
  · rename_i o ho
    simp only [ho] at hh
    split
    · rename_i hwn
      simp only [hwn, if_true] at hh
      obtain ⟨v, hv, hn⟩ := hh
      have hq := hv w (hDC w hw)
      refine .inl ?_
      unfold Oper.quietAt at hq
      unfold Oper.wp
      generalize (execOp a.eval o).run P w = r at hq ⊢
      cases r with
      | ok nx w' =>
        cases nx <;> simp only [Oper.quietUpon] at hq <;> simp only [Oper.upon]
        case value u => obtain ⟨rfl, rfl⟩ := hq; exact h _ _ hw hn
        case skip => obtain ⟨rfl, rfl⟩ := hq; exact h _ _ hw hn
        case enter f args =>
          obtain ⟨rfl, hc⟩ := hq
          refine hc.mono fun e w'' ⟨he, hb⟩ => ?_
          subst he
          exact h _ _ (hDB _ _ hw hb) hn
      | halt x w' => simp only [Oper.quietUpon] at hq
    · rename_i hwn; simp only [hwn] at hh; exact h _ _ hw hh

theorem any_of_pickT {g : Nat} {tl : List Nat} {L : Array Bool → Act → Prop} {Q' : Exit → Act → World → Prop} (hDC : ∀ w, D w → C w) (hDB : ∀ w w'', D w → Below w.heap.size w w'' → D w'')
    (hL : ∀ listed a w, D w → L listed a → wpAny P md ops Q' g listed a w) :
    ∀ (f : Nat) (listed : Array Bool) (a : Act) (w : World), D w → pickT P md ops C tl L f listed a → wpAny P md ops Q' (f + g) listed a w
  | 0, listed, a, w, hw, h => by rw [Nat.zero_add]; exact hL _ _ _ hw h
  | f + 1, listed, a, w, hw, h => by
    rw [show f + 1 + g = (f + g) + 1 by omega]
    exact ⟨fun h0 => absurd h0 h.1, fun i hi => wpOp_of_tOp hDC hDB hw (fun a' w' hw' h' => any_of_pickT hDC hDB hL f _ a' w' hw' h') (h.2 i hi).2⟩

/-- the variable is laid somewhere while the head is walked, or not yet -/
theorem any_split {k d B : Nat} {T : TypeId} {ok : Oper} {zc : Array Value} {g : Nat} {tl : List Nat} {L : Array Bool → Act → Prop} {Q' : Exit → Act → World → Prop}
    (hk : ops[k]? = some ok) (hg : ok.guard = none) (hd : ok.dst = some d) (haf : ∀ e ∈ ok.after, Region.binds md e = true → False)
    (hrun : ∀ ρ w, (execOp ρ ok).run P w = .ok (.value (.pointer (some ⟨w.heap.size, 0, none⟩))) (w.alloc (.cells zc T)))
    (hsel : ∀ (j : Nat) (o : Oper) cs b, ops[j]? = some o → o.op ≠ .select cs b)
    (hap : ∀ j oj, ops[j]? = some oj → j ∉ tl → j ≠ k → ok.apart ops oj = true)
    (hCB : ∀ w w'', C w → Below w.heap.size w w'' → C w'') (hBs : ∀ w, C w → B ≤ w.heap.size)
    (hL1 : ∀ listed a w, listed.getD k true = false → C w → L (listed.setIfInBounds k true) a → wpAny P md ops Q' (g + 1) listed a w)
    (hL2 : ∀ listed a0 w p, C w → B ≤ p → w.heap[p]? = some (.cells zc T (0, 0)) → L listed a0 → wpAny P md ops Q' g listed (a0.put (some d) (.pointer (some ⟨p, 0, none⟩))) w) :
    ∀ (f : Nat) (listed : Array Bool) (a : Act) (w : World), listed.getD k true = false → C w → pickT P md ops C tl L f (listed.setIfInBounds k true) a → wpAny P md ops Q' (f + (g + 1)) listed a w
  | 0, listed, a, w, hkl, hw, h => by rw [Nat.zero_add]; exact hL1 _ _ _ hkl hw h
  | f + 1, listed, a, w, hkl, hw, h => by
    have hkr : k ∈ Region.ready md ops listed := mem_ready.2 ⟨hkl, ok, hk, fun e he hb => (haf e he hb).elim⟩
    have hksz : k < listed.size := by
      rcases Nat.lt_or_ge k listed.size with h' | h'
      · exact h'
      · simp [Array.getElem?_eq_none h'] at hkl
    rw [show f + 1 + (g + 1) = (f + (g + 1)) + 1 by omega]
    refine ⟨fun h0 => absurd hkr (by rw [h0]; simp), fun i hi => ?_⟩
    by_cases hik : i = k
    · subst hik
      unfold wpOp
      simp only [hk]
      have hwt : Region.wanted ok (yielded ops a.tmps) = true := by simp [Region.wanted, hg]
      rw [if_pos hwt]
      refine .inl ?_
      unfold Oper.wp
      rw [hrun, Oper.upon_value]
      rw [show f + (g + 1) = (f + 1) + g by omega]
      have hx : (listed.setIfInBounds i true).getD i true = true := by simp [hksz]
      have hput := pickT_put (P := P) (C := C) (md := md) (k := i) (ok := ok) hsel hap (.pointer (some ⟨w.heap.size, 0, none⟩)) (f + 1) _ a hx h
      refine any_of_pickT (D := fun w' => C w' ∧ w.heap.size < w'.heap.size ∧ w'.heap[w.heap.size]? = some (.cells zc T (0, 0))) (fun w' h' => h'.1) (fun w' w'' h' hb => ⟨hCB _ _ h'.1 hb, Nat.lt_of_lt_of_le h'.2.1 hb.size, (hb.block _ h'.2.1).trans h'.2.2⟩) ?_ (f + 1) _ _ _ ?_ hput
      · rintro listed' a' w' ⟨hc', hlt', hp'⟩ ⟨a0, hl', rfl⟩
        rw [hd]
        exact hL2 listed' a0 w' w.heap.size hc' (hBs w hw) hp' hl'
      · exact ⟨hCB _ _ hw ((Below.refl _ _).alloc (Nat.le_refl _) _), by simp, heap_alloc_new w _⟩
    · have hi' := ready_mono hi hik
      have hst := (h.2 i hi').2
      refine wpOp_of_tOp (C := C) (D := C) (fun _ h => h) hCB hw (fun a' w' hw' h' => any_split hk hg hd haf hrun hsel hap hCB hBs hL1 hL2 f _ a' w' ?_ hw' ?_) hst
      · rw [getD_set_ne true hik]; exact hkl
      · rw [Array.setIfInBounds_comm _ _ hik]; exact h'

/-- a call, its result leaning on memory -/
def callAt (P : Program) (o : Oper) (a : Act) (w : World) (R : Value → World → Prop) : Prop :=
  match (execOp a.eval o).run P w with
  | .ok (.enter f args) w' => w' = w ∧ Calls P f args w fun e w'' => ∃ v, e = .returned v ∧ Below w.heap.size w w'' ∧ R v w''
  | .ok (.value v) w' => w' = w ∧ R v w
  | _ => False
theorem callAt_value {o : Oper} {a : Act} {w : World} {R : Value → World → Prop} {v : Value} (h : (execOp a.eval o).run P w = .ok (.value v) w) (hc : R v w) : callAt P o a w R := by
  unfold callAt
  rw [h]
  exact ⟨rfl, hc⟩
theorem callAt_enter {o : Oper} {a : Act} {w : World} {R : Value → World → Prop} {f : FuncId} {args : Array Value} (h : (execOp a.eval o).run P w = .ok (.enter f args) w)
    (hc : Calls P f args w fun e w'' => ∃ v, e = .returned v ∧ Below w.heap.size w w'' ∧ R v w'') : callAt P o a w R := by
  unfold callAt
  rw [h]
  exact ⟨rfl, hc⟩
theorem callAt_put {o : Oper} {a : Act} {w : World} {R : Value → World → Prop} {dst : Option Tmp} {u : Value} (hs : ∀ cs b, o.op ≠ .select cs b) (h1 : ∀ d, dst = some d → d ∉ o.looksAt ops) (h : callAt P o a w R) : callAt P o (a.put dst u) w R := by
  unfold callAt at *
  rw [execOp_put o hs a dst u h1]
  exact h
theorem wpOp_of_callAt {c : Nat} {oc : Oper} (hc : ops[c]? = some oc) (hg : oc.guard = none) {a : Act} {w : World} {R : Value → World → Prop} {Q' : Exit → Act → World → Prop} {K : Act → World → Prop} (h : callAt P oc a w R)
    (hK : ∀ v w'', Below w.heap.size w w'' → R v w'' → K (a.put oc.dst v) w'') : wpOp P ops Q' c K a w := by
  unfold wpOp
  simp only [hc]
  have hwt : Region.wanted oc (yielded ops a.tmps) = true := by simp [Region.wanted, hg]
  rw [if_pos hwt]
  refine .inl ?_
  unfold callAt at h
  unfold Oper.wp
  generalize (execOp a.eval oc).run P w = r at h ⊢
  cases r with
  | ok nx w' =>
    cases nx <;> simp only [Oper.upon] <;> simp only at h
    case enter f args =>
      obtain ⟨rfl, hcl⟩ := h
      refine hcl.mono fun e w'' ⟨v, he, hb, hR⟩ => ?_
      subst he
      exact hK v w'' hb hR
    case value v =>
      obtain ⟨rfl, hR⟩ := h
      exact hK v _ (Below.refl _ _) hR
  | halt x w' => simp only at h
end

/-- one end alone: the normal one -/
def onlyNormal (Q : Exit → Act → World → Prop) : Exit → Act → World → Prop
  | .normal, a, w => Q .normal a w
  | _, _, _ => False
theorem onlyNormal_ok {Q : Exit → Act → World → Prop} {a : Act} {w : World} (h : Q .normal a w) : onlyNormal Q .normal a w := h
theorem letsOut_only (Q : Exit → Act → World → Prop) : ¬ LetsOut (onlyNormal Q) := fun ⟨_, _, h⟩ => h
section
variable {P : Program} {ops : Array Oper} {md : Region.Mode} {Q : Exit → Act → World → Prop}
theorem wpOp_only {i : Nat} {a : Act} {w : World} {K : Act → World → Prop} (h : wpOp P ops (onlyNormal Q) i K a w) : wpOp P ops Q i K a w := by
  unfold wpOp at *
  cases ho : ops[i]? with
  | none => simpa [ho] using h
  | some o =>
    simp only [ho] at h ⊢
    split
    · rename_i hw
      simp only [hw, if_true] at h
      rcases h with h | h
      · refine .inl ?_
        unfold Oper.wp at *
        generalize (execOp a.eval o).run P w = r at *
        cases r with
        | ok n w' =>
          cases n <;> simp only [Oper.upon] at h ⊢ <;> first | exact h | skip
          case enter f args => exact Calls.mono h (fun e w'' he => by
            cases e
            · exact he
            · exact he.elim
            · exact absurd he (letsOut_only Q))
        | halt x w' => cases x <;> simp only [Oper.upon] at h ⊢ <;> exact h.elim
      · exact absurd h.2 (letsOut_only Q)
    · rename_i hw; simp only [hw] at h; exact h
theorem wpAny_only : ∀ (f : Nat) (listed : Array Bool) (a : Act) (w : World), wpAny P md ops (onlyNormal Q) f listed a w → wpAny P md ops Q f listed a w
  | 0, _, _, _, h => h
  | f + 1, _, _, _, h => ⟨h.1, fun i hi => wpOp_only (wpOp_mono (fun a' w' h' => wpAny_only f _ a' w' h') (h.2 i hi))⟩

def pureB (o : Oper) : Bool := match o.op with
  | .move _ => o.guard.isNone
  | .extract _ _ => o.guard.isNone
  | _ => false
theorem pure_run {o : Oper} (h : pureB o = true) (ρ : Operand → Value) : (∃ v, ∀ w, (execOp ρ o).run P w = .ok (.value v) w) ∨ (∃ x, ∀ w, (execOp ρ o).run P w = .halt x w) := by
  unfold pureB at h
  split at h
  · rename_i x hx
    exact .inl ⟨ρ x, fun w => by simp [execOp, hx]⟩
  · rename_i x n hx
    simp only [execOp, hx]
    cases hv : ρ x with
    | tuple vs =>
      cases hn : vs[n]? with
      | some u => exact .inl ⟨u, fun w => by simp [Instr.extract, hn]⟩
      | none => exact .inr ⟨_, fun w => by simp [Instr.extract, hn]; rfl⟩
    | _ => exact .inr ⟨_, fun w => by simp [Instr.extract]; rfl⟩
  · cases h
theorem pure_guard {o : Oper} (h : pureB o = true) : o.guard = none := by
  unfold pureB at h
  split at h <;> first | exact Option.isNone_iff_eq_none.1 h | cases h

theorem wpOp_putK {j : Nat} {oj ox : Oper} {dst : Option Tmp} {v : Value} {a : Act} {w : World} {K : Act → World → Prop} (hj : ops[j]? = some oj) (hs : ∀ cs b, oj.op ≠ .select cs b) (hsx : ∀ cs b, ox.op ≠ .select cs b)
    (h1 : ∀ d, dst = some d → d ∉ oj.looksAt ops) (h2 : ∀ d, dst = some d → oj.dst ≠ some d) (h3 : ∀ d, oj.dst = some d → d ∉ ox.looksAt ops)
    (h : wpOp P ops (onlyNormal Q) j K (a.put dst v) w) : wpOp P ops (onlyNormal Q) j (fun a' w' => execOp a'.eval ox = execOp a.eval ox ∧ K (a'.put dst v) w') a w := by
  unfold wpOp at *
  simp only [hj] at h ⊢
  rw [wanted_put oj a dst v h1] at h
  have hput : ∀ u, execOp (a.put oj.dst u).eval ox = execOp a.eval ox ∧ (a.put dst v).put oj.dst u = (a.put oj.dst u).put dst v := fun u => ⟨execOp_put ox hsx a oj.dst u h3, Act.put_comm a v u h2⟩
  split
  · rename_i hw
    simp only [hw, if_true] at h
    rcases h with h | h
    · refine .inl ?_
      unfold Oper.wp at *
      rw [execOp_put oj hs a dst v h1] at h
      generalize (execOp a.eval oj).run P w = r at *
      cases r with
      | ok n w' =>
        cases n <;> simp only [Oper.upon] at h ⊢
        case value u => exact ⟨(hput u).1, by rw [← (hput u).2]; exact h⟩
        case skip => exact ⟨(hput undef).1, by rw [← (hput undef).2]; exact h⟩
        case defer dd =>
          refine ⟨execOp_put (a := { a with defers := dd :: a.defers }) (ops := ops) ox hsx oj.dst undef h3, ?_⟩
          rw [← Act.put_comm { a with defers := dd :: a.defers } v undef h2]
          cases dst <;> exact h
        case enter f args => exact Calls.mono h (fun e w'' he => by
            cases e
            · rename_i u; exact ⟨(hput u).1, by rw [← (hput u).2]; exact he⟩
            · exact he
            · exact he)
        case row rw_ args => exact Rows.mono h (fun u w'' he => ⟨(hput u).1, by rw [← (hput u).2]; exact he⟩)
        all_goals exact h
      | halt x w' => cases x <;> simp only [Oper.upon] at h ⊢ <;> exact h
    · exact absurd h.2 (letsOut_only Q)
  · rename_i hw
    simp only [hw] at h
    exact ⟨(hput undef).1, by rw [← (hput undef).2]; exact h⟩

theorem wpAny_pure_first {x : Nat} {ox : Oper} {v : Value} (hx : ops[x]? = some ox) (hgx : ox.guard = none) (hsel : ∀ (j : Nat) (o : Oper) cs b, ops[j]? = some o → o.op ≠ .select cs b) :
    ∀ (f : Nat) (listed : Array Bool) (a : Act) (w : World), x ∈ Region.ready md ops listed → (∀ w, (execOp a.eval ox).run P w = .ok (.value v) w) →
      (∀ j oj, ops[j]? = some oj → j ≠ x → listed.getD j true = false → (∀ e ∈ oj.after, Region.binds md e = true → e.on ≠ x) → ox.apart ops oj = true) →
      wpAny P md ops (onlyNormal Q) f (listed.setIfInBounds x true) (a.put ox.dst v) w → wpAny P md ops (onlyNormal Q) (f + 1) listed a w := by
  intro f
  induction f with
  | zero =>
    intro listed a w hr hv _ H
    refine ⟨fun h => (by rw [h] at hr; cases hr), fun j hj => ?_⟩
    by_cases hji : j = x
    · subst hji
      unfold wpOp
      simp only [hx]
      rw [if_pos (by simp [Region.wanted, hgx])]
      refine .inl ?_
      unfold Oper.wp
      rw [hv w, Oper.upon_value]
      exact H
    · have := ready_mono hj hji
      rw [H.1] at this
      cases this
  | succ f ih =>
    intro listed a w hr hv hfree H
    have hun := (mem_ready.1 hr).1
    refine ⟨fun h => (by rw [h] at hr; cases hr), fun j hj => ?_⟩
    by_cases hji : j = x
    · subst hji
      unfold wpOp
      simp only [hx]
      rw [if_pos (by simp [Region.wanted, hgx])]
      refine .inl ?_
      unfold Oper.wp
      rw [hv w, Oper.upon_value]
      exact H
    · have h1 := H.2 j (ready_mono hj hji)
      obtain ⟨hjun, oj, hoj, hall⟩ := mem_ready.1 hj
      have hnot : ∀ e ∈ oj.after, Region.binds md e = true → e.on ≠ x := fun e he hb heq => by
        have h1 := hall e he hb
        rw [heq, getD_both hun] at h1
        cases h1
      obtain ⟨g1, g2, g3⟩ := Oper.apart_spec (hfree j oj hoj hji hjun hnot)
      have h2 := wpOp_putK (ox := ox) hoj (fun cs b => hsel j oj cs b hoj) (fun cs b => hsel x ox cs b hx) g1 g2 g3 h1
      refine wpOp_mono (fun a' w' h3 => ih (listed.setIfInBounds j true) a' w' (ready_mono hr (Ne.symm hji)) (by rw [h3.1]; exact hv) (fun k ok hk hki hun hno => hfree k ok hk hki ?_ hno) ?_) h2
      · by_cases hjk : j = k
        · subst hjk; exact hjun
        · rw [getD_set_ne true hjk] at hun; exact hun
      · rw [Array.setIfInBounds_comm _ _ hji]
        exact h3.2

def pureSeq (md : Region.Mode) (ops : Array Oper) (tl : List Nat) : List Nat → Array Bool → Bool
  | [], listed => pickSeq md ops tl listed
  | x :: l, listed => (Region.ready md ops listed).contains x && Region.free md ops listed x && (match ops[x]? with | some o => pureB o | none => false) && pureSeq md ops tl l (listed.setIfInBounds x true)
theorem wpAny_pures {tl : List Nat} (hsel : ∀ (j : Nat) (o : Oper) cs b, ops[j]? = some o → o.op ≠ .select cs b) (htl : ∀ i ∈ tl, i < ops.size) :
    ∀ (l : List Nat) (listed : Array Bool) (a : Act) (w : World), pureSeq md ops tl l listed = true → wpList P ops (onlyNormal Q) (atIdx ops (l ++ tl)) a w → wpAny P md ops (onlyNormal Q) (l.length + tl.length) listed a w
  | [], listed, a, w, hB, h => by
    simp only [List.length_nil, Nat.zero_add]
    exact wpAny_of_pickSeq tl listed a w htl hB h
  | x :: l, listed, a, w, hB, h => by
    simp only [pureSeq, Bool.and_eq_true] at hB
    obtain ⟨⟨⟨hr, hf⟩, hp⟩, hB'⟩ := hB
    cases ho : ops[x]? with
    | none => rw [ho] at hp; cases hp
    | some o =>
      rw [ho] at hp
      simp only at hp
      have hr' : x ∈ Region.ready md ops listed := by simpa using hr
      have e : atIdx ops (x :: l ++ tl) = o :: atIdx ops (l ++ tl) := by simp [atIdx, ho]
      rw [e] at h
      have hg := pure_guard hp
      unfold wpList at h
      rw [if_pos (by simp [Region.wanted, hg])] at h
      rcases h with h | h
      · unfold Oper.wp at h
        rcases pure_run (P := P) hp a.eval with ⟨v, hv⟩ | ⟨y, hy⟩
        · rw [hv w, Oper.upon_value] at h
          rw [show (x :: l).length + tl.length = (l.length + tl.length) + 1 by simp; omega]
          exact wpAny_pure_first ho hg hsel _ listed a w hr' hv (Region.free_spec ho hf) (wpAny_pures hsel htl l _ _ w hB' h)
        · rw [hy w] at h
          cases y <;> simp only [Oper.upon] at h <;> exact h.elim
      · exact absurd h.2 (letsOut_only Q)
end

def splitE1 (md : Region.Mode) (ops : Array Oper) (k c : Nat) (LC : Array Bool) (listed : Array Bool) : Bool :=
  decide (Region.ready md ops listed = [c]) && (Region.ready md ops (listed.setIfInBounds k false)).all (fun j => j == c || j == k) && listed.getD k true && decide (listed.setIfInBounds c true = LC)
def splitB (md : Region.Mode) (ops : Array Oper) (hd : List Nat) (k c : Nat) (tl : List Nat) (LC : Array Bool) (listed : Array Bool) : Bool :=
  Region.noSelect ops && pickSink md ops c hd && chainT md ops c tl && pickClosed md ops listed && (c :: tl).all (fun t => !listed.getD t true) &&
  hd.all (fun i => !(c :: tl).contains i && decide (i < ops.size)) && headE md ops (splitE1 md ops k c LC) hd listed
/-- the variable apart from all but what is forced behind it -/
def splitK (md : Region.Mode) (ops : Array Oper) (k : Nat) (rest : List Nat) : Bool :=
  match ops[k]? with
  | none => false
  | some ok => ok.after.all (fun e => !Region.binds md e) && (List.range ops.size).all fun j => rest.contains j || j == k || match ops[j]? with
    | some oj => ok.apart ops oj
    | none => true

section
variable {P : Program} {ops : Array Oper} {md : Region.Mode}
theorem in_all {hd tl : List Nat} {n : Nat} (h : hd.all (fun i => !tl.contains i && decide (i < n)) = true) : ∀ i ∈ hd, i ∈ hd ∧ i ∉ tl ∧ i < n := fun i hi => by
  have := List.all_eq_true.1 h i hi
  simp only [Bool.and_eq_true, decide_eq_true_eq, Bool.not_eq_true'] at this
  refine ⟨hi, (fun hm => ?_), this.2⟩
  have h1 := this.1
  rw [List.contains_iff_mem.2 hm] at h1
  cases h1

theorem wpAny_split {Q : Exit → Act → World → Prop} {a : Act} {w : World} {listed LC : Array Bool} {g fuel : Nat} (hd : List Nat) (k c : Nat) (tl rest : List Nat) (T : TypeId) (zc : Array Value) (d : Tmp) (ok oc : Oper) (aF : Act)
    (hB : splitB md ops hd k c tl LC (listed.setIfInBounds k true) = true) (hK : splitK md ops k rest = true) (hrt : ∀ i ∈ rest, i ∈ tl) (hf : fuel = hd.length + ((1 + g) + 1)) (hkl : listed.getD k true = false)
    (hk : ops[k]? = some ok) (hg : ok.guard = none) (hdd : ok.dst = some d) (hc : ops[c]? = some oc) (hcg : oc.guard = none) (hck : c ≠ k) (hcr : c ∉ rest)
    (hds : dstsB (atIdx ops hd) a.tmps.size = true) (hda : apartB (atIdx ops hd) = true)
    (hrun : ∀ ρ w, (execOp ρ ok).run P w = .ok (.value (.pointer (some ⟨w.heap.size, 0, none⟩))) (w.alloc (.cells zc T)))
    (hhead : ∀ w1, Below w.heap.size w w1 → wpQuiet P ops (fun w' => ∃ p : Regrown, w' = grow (redrawn w1 p.d) p.os) (fun a' => a' = aF) (atIdx ops hd) a)
    (hcall : ∀ w1, Below w.heap.size w w1 → callAt P oc aF w1 fun v w' =>
      (∀ p, w.heap.size ≤ p → p < w'.heap.size → w'.heap[p]? = some (.cells zc T (0, 0)) → wpAny P md ops Q g LC ((aF.put oc.dst v).put (some d) (.pointer (some ⟨p, 0, none⟩))) w') ∧
      wpAny P md ops Q (g + 1) (LC.setIfInBounds k false) (aF.put oc.dst v) w') :
    wpAny P md ops Q fuel listed a w := by
  subst hf
  simp only [splitB, Bool.and_eq_true] at hB
  obtain ⟨⟨⟨⟨⟨⟨hns, hs⟩, hch⟩, hcl⟩, htl⟩, hin⟩, hh⟩ := hB
  simp only [splitK, hk, Bool.and_eq_true] at hK
  obtain ⟨hK1, hK2⟩ := hK
  have haf : ∀ e ∈ ok.after, Region.binds md e = true → False := fun e he hb => by
    have := Array.all_eq_true_iff_forall_mem.1 hK1 e he
    rw [hb] at this
    cases this
  have hap : ∀ j oj, ops[j]? = some oj → j ∉ rest → j ≠ k → ok.apart ops oj = true := fun j oj hj hjr hjk => by
    have := List.all_eq_true.1 hK2 j (List.mem_range.2 (Array.getElem?_eq_some_iff.1 hj).1)
    simp only [hj, Bool.or_eq_true, beq_iff_eq, hjk, or_false] at this
    rcases this with h | h
    · exact absurd (List.contains_iff_mem.1 h) hjr
    · exact h
  have hsel := Region.noSelect_spec hns
  have hE1 : ∀ l, splitE1 md ops k c LC l = true → ∀ j ∈ Region.ready md ops l, j ∈ c :: tl := fun l hl j hj => by
    simp only [splitE1, Bool.and_eq_true, decide_eq_true_eq] at hl
    rw [hl.1.1.1] at hj
    simp at hj
    subst hj
    simp
  have H := pickT_lex (md := md) w aF (splitE1 md ops k c LC) hE1 hns hs hch hd _ a (in_all hin) (PickInv.of_closed hcl htl) hh hds hda hhead
  -- the variable is there, the call is next
  have done : ∀ (l : Array Bool) (w1 : World) (p : Nat), Below w.heap.size w w1 → w.heap.size ≤ p → p < w1.heap.size → w1.heap[p]? = some (.cells zc T (0, 0)) → splitE1 md ops k c LC l = true →
      wpAny P md ops Q (1 + g) l (aF.put (some d) (.pointer (some ⟨p, 0, none⟩))) w1 := by
    intro l w1 p hb hBp hlt hp hl
    simp only [splitE1, Bool.and_eq_true, decide_eq_true_eq] at hl
    obtain ⟨⟨⟨hr, _⟩, _⟩, hLC⟩ := hl
    rw [Nat.add_comm 1 g]
    refine ⟨fun h0 => (by rw [hr] at h0; cases h0), fun i hi => ?_⟩
    rw [hr] at hi
    have hic : i = c := by simpa using hi
    subst hic
    obtain ⟨g1, g2, g3⟩ := Oper.apart_spec (hap i oc hc hcr hck)
    have hcb := callAt_put (ops := ops) (u := .pointer (some ⟨p, 0, none⟩)) (fun cs b => hsel i oc cs b hc) g1 (hcall w1 hb)
    rw [hdd] at hcb
    refine wpOp_of_callAt hc hcg hcb fun v w'' hbv hR => ?_
    rw [hLC, ← hdd, Act.put_comm aF _ v g2, hdd]
    exact hR.1 p hBp (Nat.lt_of_lt_of_le hlt hbv.size) ((hbv.block p hlt).trans hp)
  have unset : ∀ l : Array Bool, l.getD k true = false → (l.setIfInBounds k true).setIfInBounds k false = l := fun l h => by
    have hks : k < l.size := by
      rcases Nat.lt_or_ge k l.size with h' | h'
      · exact h'
      · simp [Array.getElem?_eq_none h'] at h
    apply Array.ext_getElem?
    intro i
    by_cases e : k = i
    · subst e
      simp [hks] at h ⊢
      exact h
    · rw [Array.getElem?_setIfInBounds_ne e, Array.getElem?_setIfInBounds_ne e]
  refine any_split (C := fun w1 => Below w.heap.size w w1) (B := w.heap.size) (T := T) (zc := zc) (g := 1 + g) hk hg hdd haf hrun hsel (tl := c :: tl) (fun j oj hj hjt hjk => hap j oj hj (fun hm => hjt (List.mem_cons_of_mem _ (hrt j hm))) hjk)
    (fun x y h hb => h.trans (hb.mono h.size)) (fun x h => h.size) ?_ ?_ hd.length listed a w hkl (Below.refl _ _) H
  · -- the call is next, the variable not yet there
    rintro l a' w1 hl hb ⟨hE, rfl⟩
    have hE' := hE
    simp only [splitE1, Bool.and_eq_true, decide_eq_true_eq] at hE'
    obtain ⟨⟨⟨hr, hr2⟩, _⟩, hLC⟩ := hE'
    rw [unset l hl] at hr2
    have hkr : k ∈ Region.ready md ops l := mem_ready.2 ⟨hl, ok, hk, fun e he hb => (haf e he hb).elim⟩
    refine ⟨fun h0 => absurd hkr (by rw [h0]; simp), fun i hi => ?_⟩
    have hi2 := List.all_eq_true.1 hr2 i hi
    simp only [Bool.or_eq_true, beq_iff_eq] at hi2
    by_cases hik : i = k
    · subst hik
      unfold wpOp
      simp only [hk]
      rw [if_pos (by simp [Region.wanted, hg])]
      refine .inl ?_
      unfold Oper.wp
      rw [hrun, Oper.upon_value, hdd]
      exact done _ _ w1.heap.size (hb.alloc hb.size _) hb.size (by simp) (heap_alloc_new w1 _) hE
    · have hic : i = c := by rcases hi2 with h | h; exact h; exact absurd h hik
      subst hic
      refine wpOp_of_callAt hc hcg (hcall w1 hb) fun v w'' hbv hR => ?_
      have hl2 : (l.setIfInBounds i true).getD k true = false := by rw [getD_set_ne true hck]; exact hl
      rw [Array.setIfInBounds_comm _ _ (fun e => hik e.symm)] at hLC
      have e2 := unset _ hl2
      rw [hLC] at e2
      rw [← e2, Nat.add_comm 1 g]
      exact hR.2
  · rintro l a' w1 p hb hBp hp ⟨hE, rfl⟩
    have hlt : p < w1.heap.size := by
      rcases Nat.lt_or_ge p w1.heap.size with h | h
      · exact h
      · rw [Array.getElem?_eq_none h] at hp; cases hp
    exact done l w1 p hb hBp hlt hp hE

/-- all that is listed behind the call -/
def splitLC (ops : Array Oper) (hd : List Nat) (k c : Nat) : Array Bool := (hd ++ [k, c]).foldl (fun l i => l.setIfInBounds i true) (Array.replicate ops.size false)
/-- the region as a whole: hd in any order, the call c, dl (pure) in any order, rest in one; the variable k anywhere ahead of rest -/
theorem wp_region_split {id : Nat} {Q : Exit → Act → World → Prop} {a : Act} {w : World} (hd : List Nat) (k c : Nat) (dl rest : List Nat) (T : TypeId) (zc : Array Value) (d : Tmp) (ok oc : Oper) (aF : Act)
    (hm : P.follows .mixedOrders = true)
    (hB : splitB .any ops hd k c (dl ++ rest) (splitLC ops hd k c) ((Array.replicate ops.size false).setIfInBounds k true) = true) (hK : splitK .any ops k rest = true) (hf : ops.size = hd.length + ((1 + (dl.length + rest.length)) + 1))
    (hp1 : pureSeq .any ops rest dl (splitLC ops hd k c) = true) (hp2 : pureSeq .any ops (k :: rest) dl ((splitLC ops hd k c).setIfInBounds k false) = true)
    (hk : ops[k]? = some ok) (hg : ok.guard = none) (hdd : ok.dst = some d) (hc : ops[c]? = some oc) (hcg : oc.guard = none) (hck : c ≠ k) (hcr : c ∉ rest) (hlt : (k :: rest).all (fun i => decide (i < ops.size)) = true)
    (hds : dstsB (atIdx ops hd) a.tmps.size = true) (hda : apartB (atIdx ops hd) = true)
    (hrun : ∀ ρ w, (execOp ρ ok).run P w = .ok (.value (.pointer (some ⟨w.heap.size, 0, none⟩))) (w.alloc (.cells zc T)))
    (hhead : ∀ w1, Below w.heap.size w w1 → wpQuiet P ops (fun w' => ∃ p : Regrown, w' = grow (redrawn w1 p.d) p.os) (fun a' => a' = aF) (atIdx ops hd) a)
    (hcall : ∀ w1, Below w.heap.size w w1 → callAt P oc aF w1 fun v w' =>
      (∀ p, w.heap.size ≤ p → p < w'.heap.size → w'.heap[p]? = some (.cells zc T (0, 0)) → wpList P ops (onlyNormal Q) (atIdx ops (dl ++ rest)) ((aF.put oc.dst v).put (some d) (.pointer (some ⟨p, 0, none⟩))) w') ∧
      wpList P ops (onlyNormal Q) (atIdx ops (dl ++ k :: rest)) (aF.put oc.dst v) w') :
    (Code.region id ops true).wp P Q a w := by
  have hkl : (Array.replicate ops.size false).getD k true = false := by
    have : k < ops.size := (Array.getElem?_eq_some_iff.1 hk).1
    simp [this]
  have bd : ∀ w1, Below ({ w with drawn := w.drawn + 1 } : World).heap.size { w with drawn := w.drawn + 1 } w1 → Below w.heap.size w w1 := fun w1 h => ⟨h.os, h.tape, h.output, h.size, h.block⟩
  have hsel := Region.noSelect_spec (by simp only [splitB, Bool.and_eq_true] at hB; exact hB.1.1.1.1.1.1 : Region.noSelect ops = true)
  have hlts : ∀ i ∈ k :: rest, i < ops.size := fun i hi => by simpa using List.all_eq_true.1 hlt i hi
  refine wp_region_any hm (wpAny_only _ _ _ _ (wpAny_split hd k c (dl ++ rest) rest T zc d ok oc aF (g := dl.length + rest.length) hB hK (fun i hi => by simp [hi]) hf hkl hk hg hdd hc hcg hck hcr hds hda hrun (fun w1 h1 => hhead w1 (bd w1 h1)) (fun w1 h1 => ?_)))
  have h := hcall w1 (bd w1 h1)
  unfold callAt at h ⊢
  generalize (execOp aF.eval oc).run P w1 = r at h ⊢
  cases r with
  | ok nx w' =>
    cases nx <;> simp only at h ⊢
    case enter f args =>
      refine ⟨h.1, h.2.mono fun e w'' ⟨v, he, hb, hR1, hR2⟩ => ⟨v, he, hb, fun p h2 h3 h4 => ?_, ?_⟩⟩
      · exact wpAny_pures hsel (fun i hi => hlts i (by simp [hi])) dl _ _ _ hp1 (hR1 p h2 h3 h4)
      · exact wpAny_pures hsel hlts dl _ _ _ hp2 hR2
    case value v =>
      obtain ⟨rfl, hR1, hR2⟩ := h
      refine ⟨rfl, fun p h2 h3 h4 => ?_, ?_⟩
      · exact wpAny_pures hsel (fun i hi => hlts i (by simp [hi])) dl _ _ _ hp1 (hR1 p h2 h3 h4)
      · exact wpAny_pures hsel hlts dl _ _ _ hp2 hR2
  | halt x w' => simp only at h

/-- the call (or whatever comes next) alone is ready behind the head -/
def floatE (md : Region.Mode) (ops : Array Oper) (c : Nat) (LC : Array Bool) (listed : Array Bool) : Bool :=
  decide (Region.ready md ops listed = [c]) && decide (listed.setIfInBounds c true = LC)
def floatB (md : Region.Mode) (ops : Array Oper) (hd : List Nat) (c : Nat) (tl : List Nat) (LC : Array Bool) (listed : Array Bool) : Bool :=
  Region.noSelect ops && pickSink md ops c hd && chainT md ops c tl && pickClosed md ops listed && (c :: tl).all (fun t => !listed.getD t true) &&
  hd.all (fun i => !(c :: tl).contains i && decide (i < ops.size)) && headE md ops (floatE md ops c LC) hd listed
theorem wpAny_float {Q : Exit → Act → World → Prop} {a : Act} {w : World} {listed LC : Array Bool} {g fuel : Nat} (hd : List Nat) (c : Nat) (tl : List Nat) (oc : Oper) (aF : Act)
    (hB : floatB md ops hd c tl LC listed = true) (hf : fuel = hd.length + (g + 1)) (hc : ops[c]? = some oc) (hcg : oc.guard = none)
    (hds : dstsB (atIdx ops hd) a.tmps.size = true) (hda : apartB (atIdx ops hd) = true)
    (hhead : ∀ w1, Below w.heap.size w w1 → wpQuiet P ops (fun w' => ∃ p : Regrown, w' = grow (redrawn w1 p.d) p.os) (fun a' => a' = aF) (atIdx ops hd) a)
    (hcall : ∀ w1, Below w.heap.size w w1 → callAt P oc aF w1 fun v w' => wpAny P md ops Q g LC (aF.put oc.dst v) w') :
    wpAny P md ops Q fuel listed a w := by
  subst hf
  simp only [floatB, Bool.and_eq_true] at hB
  obtain ⟨⟨⟨⟨⟨⟨hns, hs⟩, hch⟩, hcl⟩, htl⟩, hin⟩, hh⟩ := hB
  have hE1 : ∀ l, floatE md ops c LC l = true → ∀ j ∈ Region.ready md ops l, j ∈ c :: tl := fun l hl j hj => by
    simp only [floatE, Bool.and_eq_true, decide_eq_true_eq] at hl
    rw [hl.1] at hj
    simp at hj
    subst hj
    simp
  have H := pickT_lex (md := md) w aF (floatE md ops c LC) hE1 hns hs hch hd _ a (in_all hin) (PickInv.of_closed hcl htl) hh hds hda hhead
  refine any_of_pickT (C := fun w1 => Below w.heap.size w w1) (D := fun w1 => Below w.heap.size w w1) (g := g + 1) (fun _ h => h) (fun x y h hb => h.trans (hb.mono h.size)) ?_ hd.length listed a w (Below.refl _ _) H
  rintro l a' w1 hb ⟨hE, rfl⟩
  simp only [floatE, Bool.and_eq_true, decide_eq_true_eq] at hE
  obtain ⟨hr, hLC⟩ := hE
  refine ⟨fun h0 => (by rw [hr] at h0; cases h0), fun i hi => ?_⟩
  rw [hr] at hi
  have hic : i = c := by simpa using hi
  subst hic
  refine wpOp_of_callAt hc hcg (hcall w1 hb) fun v w'' hbv hR => ?_
  rw [hLC]
  exact hR
def floatLC (ops : Array Oper) (hd : List Nat) (c : Nat) : Array Bool := (hd ++ [c]).foldl (fun l i => l.setIfInBounds i true) (Array.replicate ops.size false)
/-- the region as a whole: hd in any order, c (a call, or an operation that tells a value), dl (pure) in any order, rest in one -/
theorem wp_region_float {id : Nat} {Q : Exit → Act → World → Prop} {a : Act} {w : World} (hd : List Nat) (c : Nat) (dl rest : List Nat) (oc : Oper) (aF : Act)
    (hm : P.follows .mixedOrders = true) (hB : floatB .any ops hd c (dl ++ rest) (floatLC ops hd c) (Array.replicate ops.size false) = true) (hf : ops.size = hd.length + ((dl.length + rest.length) + 1))
    (hp : pureSeq .any ops rest dl (floatLC ops hd c) = true) (hc : ops[c]? = some oc) (hcg : oc.guard = none) (hlt : rest.all (fun i => decide (i < ops.size)) = true)
    (hds : dstsB (atIdx ops hd) a.tmps.size = true) (hda : apartB (atIdx ops hd) = true)
    (hhead : ∀ w1, Below w.heap.size w w1 → wpQuiet P ops (fun w' => ∃ p : Regrown, w' = grow (redrawn w1 p.d) p.os) (fun a' => a' = aF) (atIdx ops hd) a)
    (hcall : ∀ w1, Below w.heap.size w w1 → callAt P oc aF w1 fun v w' => wpList P ops (onlyNormal Q) (atIdx ops (dl ++ rest)) (aF.put oc.dst v) w') :
    (Code.region id ops true).wp P Q a w := by
  have bd : ∀ w1, Below ({ w with drawn := w.drawn + 1 } : World).heap.size { w with drawn := w.drawn + 1 } w1 → Below w.heap.size w w1 := fun w1 h => ⟨h.os, h.tape, h.output, h.size, h.block⟩
  have hsel := Region.noSelect_spec (by simp only [floatB, Bool.and_eq_true] at hB; exact hB.1.1.1.1.1.1 : Region.noSelect ops = true)
  have hlts : ∀ i ∈ rest, i < ops.size := fun i hi => by simpa using List.all_eq_true.1 hlt i hi
  refine wp_region_any hm (wpAny_only _ _ _ _ (wpAny_float hd c (dl ++ rest) oc aF (g := dl.length + rest.length) hB hf hc hcg hds hda (fun w1 h1 => hhead w1 (bd w1 h1)) (fun w1 h1 => ?_)))
  have h := hcall w1 (bd w1 h1)
  unfold callAt at h ⊢
  generalize (execOp aF.eval oc).run P w1 = r at h ⊢
  cases r with
  | ok nx w' =>
    cases nx <;> simp only at h ⊢
    case enter f args =>
      exact ⟨h.1, h.2.mono fun e w'' ⟨v, he, hb, hR⟩ => ⟨v, he, hb, wpAny_pures hsel hlts dl _ _ _ hp hR⟩⟩
    case value v => exact ⟨h.1, wpAny_pures hsel hlts dl _ _ _ hp h.2⟩
  | halt x w' => simp only at h

/-- the list by numbers, one operation at a time -/
theorem quiet_idx {W : World → Prop} {Q : Act → Prop} {a : Act} {i : Nat} {l : List Nat} {o : Oper} (h : ops[i]? = some o) (H : wpQuiet P ops W Q (o :: atIdx ops l) a) : wpQuiet P ops W Q (atIdx ops (i :: l)) a := by
  have e : atIdx ops (i :: l) = o :: atIdx ops l := by simp [atIdx, h]
  rw [e]; exact H
theorem list_idx {Q : Exit → Act → World → Prop} {a : Act} {w : World} {i : Nat} {l : List Nat} {o : Oper} (h : ops[i]? = some o) (H : wpList P ops Q (o :: atIdx ops l) a w) : wpList P ops Q (atIdx ops (i :: l)) a w := by
  have e : atIdx ops (i :: l) = o :: atIdx ops l := by simp [atIdx, h]
  rw [e]; exact H
/-- a pure operation that nothing keeps waiting is walked first, then hd in any order, then t0 :: tl -/
theorem wp_region_pick1 {id : Nat} {Q : Exit → Act → World → Prop} {a : Act} {w : World} (x : Nat) (ox : Oper) (v : Value) (hd : List Nat) (t0 : Nat) (tl : List Nat) (hm : P.follows .mixedOrders = true)
    (hx : ops[x]? = some ox) (hp : pureB ox = true) (hr : (Region.ready .any ops (Array.replicate ops.size false)).contains x = true) (hf : Region.free .any ops (Array.replicate ops.size false) x = true)
    (hv : ∀ w, (execOp a.eval ox).run P w = .ok (.value v) w)
    (hB : pickB .any ops ((Array.replicate ops.size false).setIfInBounds x true) hd t0 tl = true) (hfu : ops.size = (hd.length + (t0 :: tl).length) + 1)
    (h : wpQuiet P ops (fun w' => ∃ p : Regrown, w' = grow (redrawn w p.d) p.os) (fun a' => ∀ w', (∃ p : Regrown, w' = grow (redrawn w p.d) p.os) → wpList P ops (onlyNormal Q) (atIdx ops (t0 :: tl)) a' w') (atIdx ops hd) (a.put ox.dst v)) : (Code.region id ops true).wp P Q a w := by
  refine wp_region_any hm (wpAny_only _ _ _ _ ?_)
  have hns : Region.noSelect ops = true := by simp only [pickB, Bool.and_eq_true] at hB; exact hB.1.1.1.1.1.1.1
  generalize hL : Array.replicate ops.size false = L at *
  rw [hfu]
  exact wpAny_pure_first hx (pure_guard hp) (Region.noSelect_spec hns) _ _ a _ (by simpa using hr) hv (Region.free_spec hx hf)
    (wpAny_pick (C := fun w' => ∃ p : Regrown, w' = grow (redrawn w p.d) p.os) hd t0 tl hB rfl ⟨⟨w.drawn + 1, #[]⟩, by rw [grow_empty]; rfl⟩ h)
end
end Go.Proofs.YtpknglbpbodnbaaDoor
namespace Go.Proofs.YtpknglbpbodnbaaDoor
set_option linter.unusedVariables false
set_option linter.unusedSimpArgs false
open Go.RowKit Go.Sort

def isLen (c : Call) : Bool := match c.callee with
  | .builtin .len => true
  | _ => false
def stillOp (o : Oper) : Bool := match o.op with
  | .call c => isLen c
  | .nilCheck _ => true
  | .move _ | .assign _ | .pick _ _ _ | .load _ _ | .fieldAddr _ _ _ | .field _ _ _ | .indexAddr _ _ _ | .index _ _ _ | .lookup _ _ _ _ | .binOp _ _ _ _ _ | .unOp _ _ _ | .extract _ _ | .slice _ _ _ _ _ => true
  | _ => false
section
variable {P : Program}
theorem val_run {s : Sem Value} {w w' : World} {n : Next} (h : (do pure (Next.value (← s)) : Sem Next).run P w = .ok n w') : ∃ x, n = .value x := by
  cases hs : s.run P w with
  | ok x w1 => simp [go_sem, hs] at h; exact ⟨x, h.1.symm⟩
  | halt x w1 => simp [go_sem, hs] at h
theorem pick_run {s : Sem Bool} {x y : Value} {w w' : World} {n : Next} (h : (do pure (Next.value (if ← s then x else y)) : Sem Next).run P w = .ok n w') : ∃ x, n = .value x := by
  cases hs : s.run P w with
  | ok b w1 => simp [go_sem, hs] at h; exact ⟨_, h.1.symm⟩
  | halt b w1 => simp [go_sem, hs] at h
theorem still_value {o : Oper} (hs : stillOp o = true) {ρ : Operand → Value} {w w' : World} {n : Next} (h : (execOp ρ o).run P w = .ok n w') : ∃ x, n = .value x := by
  obtain ⟨dst, op, type, pos, after, guard⟩ := o
  cases op <;> simp only [stillOp, Bool.false_eq_true] at hs <;> simp only [execOp] at h
  case move x => simp [go_sem] at h; exact ⟨_, h.1.symm⟩
  case assign x => simp [go_sem] at h; exact ⟨_, h.1.symm⟩
  case pick c a b => exact pick_run h
  case nilCheck x =>
    generalize ρ x = v at h
    cases v
    case pointer a => cases a <;> simp [go_sem] at h <;> exact ⟨_, h.1.symm⟩
    case func g first captured =>
      cases g
      case method name =>
        simp only at h
        cases hf : (first[0]? : Option Value) with
        | none => simp [hf, go_sem] at h; exact ⟨_, h.1.symm⟩
        | some u =>
          cases u
          case iface t u =>
            simp [hf, go_sem] at h
            cases hr : (nilAhead (P.types.size + 100) t u name).run P w with
            | ok b w1 =>
              rw [hr] at h
              by_cases hb : b = some false
              · simp [Result.andThen, hb] at h; exact ⟨_, h.1.symm⟩
              · simp [Result.andThen, hb] at h
            | halt b w1 => rw [hr] at h; simp [Result.andThen] at h
          case nilIface => simp [hf, go_sem] at h
          all_goals (simp [hf, go_sem] at h; exact ⟨_, h.1.symm⟩)
      all_goals (simp [go_sem] at h; exact ⟨_, h.1.symm⟩)
    all_goals (simp [go_sem] at h; try exact ⟨_, h.1.symm⟩)
  case call c =>
    unfold isLen at hs
    unfold resolve at h
    split at hs
    · rename_i e
      simp only [e] at h
      exact val_run h
    · cases hs
  all_goals exact val_run h
end

section
variable {P : Program} {ops : Array Oper} {md : Region.Mode} {C C' : World → Prop} {U : List Nat} {Q : Exit → Act → World → Prop}
/-- whatever order is picked, and the worlds stay in C, but behind the operations of U -/
def wpT (P : Program) (md : Region.Mode) (ops : Array Oper) (C : World → Prop) (U : List Nat) (Q : Exit → Act → World → Prop) : Nat → Array Bool → Act → World → Prop
  | 0, listed, a, w => Region.ready md ops listed = [] ∧ Q .normal a w
  | f + 1, listed, a, w => (Region.ready md ops listed = [] → Q .normal a w) ∧ ∀ i ∈ Region.ready md ops listed, wpOp P ops (onlyNormal Q) i (fun a' w' => (i ∉ U → C w') ∧ wpT P md ops C U Q f (listed.setIfInBounds i true) a' w') a w
theorem wpT_weak (hC : ∀ w, C w → C' w) : ∀ (f : Nat) (listed : Array Bool) (a : Act) (w : World), wpT P md ops C U Q f listed a w → wpT P md ops C' U Q f listed a w
  | 0, _, _, _, h => h
  | f + 1, _, _, _, h => ⟨h.1, fun i hi => wpOp_mono (fun a' w' h' => ⟨fun hu => hC w' (h'.1 hu), wpT_weak hC f _ a' w' h'.2⟩) (h.2 i hi)⟩
theorem wpAny_of_wpT : ∀ (f : Nat) (listed : Array Bool) (a : Act) (w : World), wpT P md ops C U Q f listed a w → wpAny P md ops (onlyNormal Q) f listed a w
  | 0, _, _, _, h => h
  | f + 1, _, _, _, h => ⟨h.1, fun i hi => wpOp_mono (fun a' w' h' => wpAny_of_wpT f _ a' w' h'.2) (h.2 i hi)⟩
/-- the same value, and asked for or not, in another state -/
structure SameOp (ops : Array Oper) (ox : Oper) (a a' : Act) : Prop where
  run : execOp a'.eval ox = execOp a.eval ox
  want : Region.wanted ox (yielded ops a'.tmps) = Region.wanted ox (yielded ops a.tmps)
theorem wpOp_putS {j : Nat} {oj ox : Oper} {dst : Option Tmp} {v : Value} {a : Act} {w : World} {K : Act → World → Prop} (hj : ops[j]? = some oj) (hs : ∀ cs b, oj.op ≠ .select cs b) (hsx : ∀ cs b, ox.op ≠ .select cs b)
    (h1 : ∀ d, dst = some d → d ∉ oj.looksAt ops) (h2 : ∀ d, dst = some d → oj.dst ≠ some d) (h3 : ∀ d, oj.dst = some d → d ∉ ox.looksAt ops)
    (h : wpOp P ops (onlyNormal Q) j K (a.put dst v) w) : wpOp P ops (onlyNormal Q) j (fun a' w' => SameOp ops ox a a' ∧ K (a'.put dst v) w') a w := by
  unfold wpOp at *
  simp only [hj] at h ⊢
  rw [wanted_put oj a dst v h1] at h
  have hput : ∀ u, SameOp ops ox a (a.put oj.dst u) ∧ (a.put dst v).put oj.dst u = (a.put oj.dst u).put dst v := fun u => ⟨⟨execOp_put ox hsx a oj.dst u h3, wanted_put ox a oj.dst u h3⟩, Act.put_comm a v u h2⟩
  split
  · rename_i hw
    simp only [hw, if_true] at h
    rcases h with h | h
    · refine .inl ?_
      unfold Oper.wp at *
      rw [execOp_put oj hs a dst v h1] at h
      generalize (execOp a.eval oj).run P w = r at *
      cases r with
      | ok n w' =>
        cases n <;> simp only [Oper.upon] at h ⊢
        case value u => exact ⟨(hput u).1, by rw [← (hput u).2]; exact h⟩
        case skip => exact ⟨(hput undef).1, by rw [← (hput undef).2]; exact h⟩
        case defer dd =>
          refine ⟨⟨execOp_put (a := { a with defers := dd :: a.defers }) (ops := ops) ox hsx oj.dst undef h3, wanted_put ox { a with defers := dd :: a.defers } oj.dst undef h3⟩, ?_⟩
          rw [← Act.put_comm { a with defers := dd :: a.defers } v undef h2]
          cases dst <;> exact h
        case enter f args => exact Calls.mono h (fun e w'' he => by
            cases e
            · rename_i u; exact ⟨(hput u).1, by rw [← (hput u).2]; exact he⟩
            · exact he
            · exact he)
        case row rw_ args => exact Rows.mono h (fun u w'' he => ⟨(hput u).1, by rw [← (hput u).2]; exact he⟩)
        all_goals exact h
      | halt x w' => cases x <;> simp only [Oper.upon] at h ⊢ <;> exact h
    · exact absurd h.2 (letsOut_only Q)
  · rename_i hw
    simp only [hw] at h
    exact ⟨(hput undef).1, by rw [← (hput undef).2]; exact h⟩
/-- it tells v in every world of C, and leaves the world alone; or nobody asks for it -/
def StillAt (P : Program) (ops : Array Oper) (C : World → Prop) (o : Oper) (v : Value) (a : Act) : Prop :=
  (Region.wanted o (yielded ops a.tmps) = true ∧ ∀ w, C w → (execOp a.eval o).run P w = .ok (.value v) w) ∨ (Region.wanted o (yielded ops a.tmps) = false ∧ v = undef)
theorem StillAt.same {o : Oper} {v : Value} {a a' : Act} (h : StillAt P ops C o v a) (hs : SameOp ops o a a') : StillAt P ops C o v a' := by
  unfold StillAt at *
  rw [hs.run, hs.want]
  exact h
theorem StillAt.wpOp {x : Nat} {o : Oper} {v : Value} {a : Act} {w : World} {K : Act → World → Prop} (hx : ops[x]? = some o) (h : StillAt P ops C o v a) (hC : C w) (hK : K (a.put o.dst v) w) : wpOp P ops (onlyNormal Q) x K a w := by
  unfold Go.wpOp
  simp only [hx]
  rcases h with ⟨hw, hv⟩ | ⟨hw, rfl⟩
  · rw [if_pos hw]
    refine .inl ?_
    unfold Oper.wp
    rw [hv w hC, Oper.upon_value]
    exact hK
  · rw [if_neg (by rw [hw]; decide)]
    exact hK
/-! who waits for whom -/
def ClosedL (md : Region.Mode) (ops : Array Oper) (listed : Array Bool) : Prop := ∀ j oj, ops[j]? = some oj → listed.getD j false = true → ∀ e ∈ oj.after, Region.binds md e = true → listed.getD e.on false = true
theorem closed_of {listed : Array Bool} (h : pickClosed md ops listed = true) : ClosedL md ops listed := fun j oj hj hl e he hb => by
  simp only [pickClosed, Bool.and_eq_true] at h
  have h1 := List.all_eq_true.1 h.2 j (List.mem_range.2 (Array.getElem?_eq_some_iff.1 hj).1)
  rw [hl, hj] at h1
  simp only [Bool.not_true, Bool.false_or] at h1
  have h2 := Array.all_eq_true'.1 h1 e he
  rw [hb] at h2
  simpa using h2
theorem closed_set {listed : Array Bool} (h : ClosedL md ops listed) {j : Nat} (hj : j ∈ Region.ready md ops listed) : ClosedL md ops (listed.setIfInBounds j true) := fun k ok hk hl e he hb => by
  by_cases hjk : j = k
  · subst hjk
    obtain ⟨_, o, ho, hall⟩ := mem_ready.1 hj
    rw [ho] at hk
    obtain rfl := Option.some.inj hk
    exact getD_set_true (hall e he hb)
  · rw [getD_set_ne false hjk] at hl
    exact getD_set_true (h k ok hk hl e he hb)
def waitsB (md : Region.Mode) (ops : Array Oper) (x : Nat) : Nat → Nat → Bool
  | 0, _ => false
  | n + 1, u => match ops[u]? with
    | some o => o.after.any fun e => Region.binds md e && (e.on == x || waitsB md ops x n e.on)
    | none => false
theorem waits_not {x : Nat} {listed : Array Bool} (h : ClosedL md ops listed) (hx : listed.getD x false = false) : ∀ n u, waitsB md ops x n u = true → ∃ o, ops[u]? = some o ∧ ∃ e ∈ o.after, Region.binds md e = true ∧ listed.getD e.on false = false
  | 0, u, hw => by simp [waitsB] at hw
  | n + 1, u, hw => by
    rw [waitsB] at hw
    cases ho : ops[u]? with
    | none => rw [ho] at hw; cases hw
    | some o =>
      rw [ho] at hw
      obtain ⟨e, he, hb⟩ := Array.any_eq_true'.1 hw
      simp only [Bool.and_eq_true, Bool.or_eq_true, beq_iff_eq] at hb
      refine ⟨o, rfl, e, he, hb.1, ?_⟩
      rcases hb.2 with e1 | e1
      · rw [e1]; exact hx
      · obtain ⟨o2, ho2, e2, he2, hb2, hl2⟩ := waits_not h hx n e.on e1
        cases hl : listed.getD e.on false with
        | false => rfl
        | true =>
          have := h e.on o2 ho2 hl e2 he2 hb2
          rw [hl2] at this
          cases this
def WaitU (md : Region.Mode) (ops : Array Oper) (U : List Nat) (x : Nat) (listed : Array Bool) : Prop := ∀ u ∈ U, listed.getD u true = true ∨ waitsB md ops x ops.size u = true
theorem WaitU.not {x j : Nat} {listed : Array Bool} (h : WaitU md ops U x listed) (hcl : ClosedL md ops listed) (hx : listed.getD x false = false) (hj : j ∈ Region.ready md ops listed) : j ∉ U := fun hm => by
  obtain ⟨h1, o, ho, hall⟩ := mem_ready.1 hj
  rcases h j hm with h2 | h2
  · rw [h2] at h1; cases h1
  · obtain ⟨o2, ho2, e, he, hb, hl⟩ := waits_not hcl hx _ _ h2
    rw [ho] at ho2
    obtain rfl := Option.some.inj ho2
    have := hall e he hb
    rw [hl] at this
    cases this
theorem wpT_first {x : Nat} {ox : Oper} {v : Value} (hx : ops[x]? = some ox) (hsel : ∀ (j : Nat) (o : Oper) cs b, ops[j]? = some o → o.op ≠ .select cs b) :
    ∀ (f : Nat) (listed : Array Bool) (a : Act) (w : World), x ∈ Region.ready md ops listed → StillAt P ops C ox v a → C w → ClosedL md ops listed → WaitU md ops U x listed →
      (∀ j oj, ops[j]? = some oj → j ≠ x → listed.getD j true = false → (∀ e ∈ oj.after, Region.binds md e = true → e.on ≠ x) → ox.apart ops oj = true) →
      wpT P md ops C U Q f (listed.setIfInBounds x true) (a.put ox.dst v) w → wpT P md ops C U Q (f + 1) listed a w := by
  intro f
  induction f with
  | zero =>
    intro listed a w hr hv hC _ _ _ H
    refine ⟨fun h => (by rw [h] at hr; cases hr), fun j hj => ?_⟩
    by_cases hji : j = x
    · subst hji
      exact hv.wpOp hx hC ⟨fun _ => hC, H⟩
    · have := ready_mono hj hji
      rw [H.1] at this
      cases this
  | succ f ih =>
    intro listed a w hr hv hC hcl hU hfree H
    have hun := (mem_ready.1 hr).1
    refine ⟨fun h => (by rw [h] at hr; cases hr), fun j hj => ?_⟩
    by_cases hji : j = x
    · subst hji
      exact hv.wpOp hx hC ⟨fun _ => hC, H⟩
    · have h1 := H.2 j (ready_mono hj hji)
      obtain ⟨hjun, oj, hoj, hall⟩ := mem_ready.1 hj
      have hnot : ∀ e ∈ oj.after, Region.binds md e = true → e.on ≠ x := fun e he hb heq => by
        have h1 := hall e he hb
        rw [heq, getD_both hun] at h1
        cases h1
      have hjU := hU.not hcl (getD_both hun) hj
      obtain ⟨g1, g2, g3⟩ := Oper.apart_spec (hfree j oj hoj hji hjun hnot)
      have h2 := wpOp_putS (ox := ox) hoj (fun cs b => hsel j oj cs b hoj) (fun cs b => hsel x ox cs b hx) g1 g2 g3 h1
      refine wpOp_mono (fun a' w' h3 => ⟨h3.2.1, ih (listed.setIfInBounds j true) a' w' (ready_mono hr (Ne.symm hji)) (hv.same h3.1) (h3.2.1 hjU) (closed_set hcl hj) (fun u hu => by
          have hju : j ≠ u := fun e => hjU (e ▸ hu)
          rcases hU u hu with h4 | h4
          · exact .inl (by rw [getD_set_ne true hju]; exact h4)
          · exact .inr h4) (fun k ok hk hki hun hno => hfree k ok hk hki ?_ hno) ?_⟩) h2
      · by_cases hjk : j = k
        · subst hjk; exact hjun
        · rw [getD_set_ne true hjk] at hun; exact hun
      · rw [Array.setIfInBounds_comm _ _ hji]
        exact h3.2.2

/-- what needs no world may come at any time: it is counted among U -/
theorem wpT_pure {x : Nat} {ox : Oper} {v : Value} (hx : ops[x]? = some ox) (hsel : ∀ (j : Nat) (o : Oper) cs b, ops[j]? = some o → o.op ≠ .select cs b) (hxU : x ∈ U) :
    ∀ (f : Nat) (listed : Array Bool) (a : Act) (w : World), x ∈ Region.ready md ops listed → StillAt P ops (fun _ => True) ox v a →
      (∀ j oj, ops[j]? = some oj → j ≠ x → listed.getD j true = false → (∀ e ∈ oj.after, Region.binds md e = true → e.on ≠ x) → ox.apart ops oj = true) →
      wpT P md ops C U Q f (listed.setIfInBounds x true) (a.put ox.dst v) w → wpT P md ops C U Q (f + 1) listed a w := by
  intro f
  induction f with
  | zero =>
    intro listed a w hr hv _ H
    refine ⟨fun h => (by rw [h] at hr; cases hr), fun j hj => ?_⟩
    by_cases hji : j = x
    · subst hji
      exact hv.wpOp hx trivial ⟨fun h => absurd hxU h, H⟩
    · have := ready_mono hj hji
      rw [H.1] at this
      cases this
  | succ f ih =>
    intro listed a w hr hv hfree H
    have hun := (mem_ready.1 hr).1
    refine ⟨fun h => (by rw [h] at hr; cases hr), fun j hj => ?_⟩
    by_cases hji : j = x
    · subst hji
      exact hv.wpOp hx trivial ⟨fun h => absurd hxU h, H⟩
    · have h1 := H.2 j (ready_mono hj hji)
      obtain ⟨hjun, oj, hoj, hall⟩ := mem_ready.1 hj
      have hnot : ∀ e ∈ oj.after, Region.binds md e = true → e.on ≠ x := fun e he hb heq => by
        have h1 := hall e he hb
        rw [heq, getD_both hun] at h1
        cases h1
      obtain ⟨g1, g2, g3⟩ := Oper.apart_spec (hfree j oj hoj hji hjun hnot)
      have h2 := wpOp_putS (ox := ox) hoj (fun cs b => hsel j oj cs b hoj) (fun cs b => hsel x ox cs b hx) g1 g2 g3 h1
      refine wpOp_mono (fun a' w' h3 => ⟨h3.2.1, ih (listed.setIfInBounds j true) a' w' (ready_mono hr (Ne.symm hji)) (hv.same h3.1) (fun k ok hk hki hun hno => hfree k ok hk hki ?_ hno) ?_⟩) h2
      · by_cases hjk : j = k
        · subst hjk; exact hjun
        · rw [getD_set_ne true hjk] at hun; exact hun
      · rw [Array.setIfInBounds_comm _ _ hji]
        exact h3.2.2
/-! what is not walked yet -/
def unl (listed : Array Bool) : Nat := listed.toList.count false
theorem unl_set {listed : Array Bool} {i : Nat} (h : listed.getD i true = false) : unl listed = unl (listed.setIfInBounds i true) + 1 := by
  have hi : i < listed.size := by
    rcases Nat.lt_or_ge i listed.size with h1 | h1
    · exact h1
    · rw [Array.getD_eq_getD_getElem?, Array.getElem?_eq_none h1] at h; cases h
  have hv : listed.toList[i]'(by simpa using hi) = false := by
    rw [Array.getD_eq_getD_getElem?, Array.getElem?_eq_getElem hi] at h
    simpa using h
  have hpos : 0 < listed.toList.count false := List.count_pos_iff.2 (by rw [← hv]; exact List.getElem_mem _)
  unfold unl
  rw [Array.toList_setIfInBounds, List.count_set (by simpa using hi), hv]
  simp only [beq_self_eq_true, if_true]
  show _ = _ - 1 + 0 + 1
  omega
theorem unl_rep (n : Nat) : unl (Array.replicate n false) = n := by simp [unl]
/-- the walk's own goal -/
def stepT (P : Program) (md : Region.Mode) (ops : Array Oper) (C : World → Prop) (U : List Nat) (Q : Exit → Act → World → Prop) (listed : Array Bool) (a : Act) (w : World) : Prop := wpT P md ops C U Q (unl listed) listed a w
def setAll (listed : Array Bool) : List Nat → Array Bool
  | [] => listed
  | x :: l => setAll (listed.setIfInBounds x true) l
def waitB (md : Region.Mode) (ops : Array Oper) (U : List Nat) (x : Nat) (listed : Array Bool) : Bool := U.all fun u => listed.getD u true || waitsB md ops x ops.size u
theorem waitB_spec {x : Nat} {listed : Array Bool} (h : waitB md ops U x listed = true) : WaitU md ops U x listed := fun u hu => by
  have h1 := List.all_eq_true.1 h u hu
  simpa using h1
def stillSeq (md : Region.Mode) (ops : Array Oper) (U : List Nat) : List Nat → Array Bool → Bool
  | [], _ => true
  | x :: l, listed => (Region.ready md ops listed).contains x && Region.free md ops listed x && (match ops[x]? with | some o => stillOp o | none => false) && waitB md ops U x listed && stillSeq md ops U l (listed.setIfInBounds x true)
theorem stillAt_of {o : Oper} {a : Act} {K : Act → Prop} (hs : stillOp o = true) (hne : ∃ w, C w) (h : if Region.wanted o (yielded ops a.tmps) then o.quiet P a C K else K (a.put o.dst undef)) : ∃ v, StillAt P ops C o v a ∧ K (a.put o.dst v) := by
  by_cases hw : Region.wanted o (yielded ops a.tmps) = true
  · rw [if_pos hw] at h
    obtain ⟨v, h1, h2⟩ := h
    refine ⟨v, .inl ⟨hw, fun w hC => ?_⟩, h2⟩
    have h3 := h1 w hC
    unfold Oper.quietAt at h3
    cases hr : (execOp a.eval o).run P w with
    | ok n w' =>
      obtain ⟨x, rfl⟩ := still_value hs hr
      rw [hr] at h3
      obtain ⟨rfl, rfl⟩ := h3
      rfl
    | halt x w' => rw [hr] at h3; exact h3.elim
  · rw [if_neg hw] at h
    exact ⟨undef, .inr ⟨by simpa using hw, rfl⟩, h⟩
/-- what only reads, all at once -/
theorem stepsQ (l : List Nat) {listed : Array Bool} {a : Act} {w : World} (hsel : Region.noSelect ops = true) (hcl : pickClosed md ops listed = true) (hB : stillSeq md ops U l listed = true) (hC : C w) (h : wpQuiet P ops C (fun a' => stepT P md ops C U Q (setAll listed l) a' w) (atIdx ops l) a) : stepT P md ops C U Q listed a w := by
  replace hcl := closed_of hcl
  induction l generalizing listed a with
  | nil => exact h
  | cons x l ih =>
    simp only [stillSeq, Bool.and_eq_true] at hB
    obtain ⟨⟨⟨⟨hr, hf⟩, hp⟩, hwt⟩, hB'⟩ := hB
    cases ho : ops[x]? with
    | none => rw [ho] at hp; cases hp
    | some o =>
      rw [ho] at hp
      simp only at hp
      have hr' : x ∈ Region.ready md ops listed := by simpa using hr
      have e : atIdx ops (x :: l) = o :: atIdx ops l := by simp [atIdx, ho]
      rw [e] at h
      obtain ⟨v, hv, hK⟩ := stillAt_of hp ⟨w, hC⟩ h
      unfold stepT
      rw [unl_set (mem_ready.1 hr').1]
      exact wpT_first ho (Region.noSelect_spec hsel) _ listed a w hr' hv hC hcl (waitB_spec hwt) (Region.free_spec ho hf) (ih hB' hK (closed_set hcl hr'))
def aloofSeq (md : Region.Mode) (ops : Array Oper) (U : List Nat) : List Nat → Array Bool → Bool
  | [], _ => true
  | x :: l, listed => (Region.ready md ops listed).contains x && Region.free md ops listed x && (match ops[x]? with | some o => stillOp o | none => false) && U.contains x && aloofSeq md ops U l (listed.setIfInBounds x true)
/-- what needs no world, all at once -/
theorem stepsP (l : List Nat) {listed : Array Bool} {a : Act} {w : World} (hsel : Region.noSelect ops = true) (hB : aloofSeq md ops U l listed = true) (h : wpQuiet P ops (fun _ => True) (fun a' => stepT P md ops C U Q (setAll listed l) a' w) (atIdx ops l) a) : stepT P md ops C U Q listed a w := by
  induction l generalizing listed a with
  | nil => exact h
  | cons x l ih =>
    simp only [aloofSeq, Bool.and_eq_true] at hB
    obtain ⟨⟨⟨⟨hr, hf⟩, hp⟩, hu⟩, hB'⟩ := hB
    cases ho : ops[x]? with
    | none => rw [ho] at hp; cases hp
    | some o =>
      rw [ho] at hp
      simp only at hp
      have hr' : x ∈ Region.ready md ops listed := by simpa using hr
      have e : atIdx ops (x :: l) = o :: atIdx ops l := by simp [atIdx, ho]
      rw [e] at h
      obtain ⟨v, hv, hK⟩ := stillAt_of hp ⟨w, trivial⟩ h
      unfold stepT
      rw [unl_set (mem_ready.1 hr').1]
      exact wpT_pure ho (Region.noSelect_spec hsel) (by simpa using hu) _ listed a w hr' hv (Region.free_spec ho hf) (ih hB' hK)
/-- what alone is ready -/
theorem stepS {i : Nat} {o : Oper} {listed : Array Bool} {a : Act} {w : World} (hi : ops[i]? = some o) (hr : Region.ready md ops listed = [i])
    (h : ∀ K : Act → World → Prop, (∀ a' w', (i ∉ U → C w') ∧ stepT P md ops C U Q (listed.setIfInBounds i true) a' w' → K a' w') → if Region.wanted o (yielded ops a.tmps) = true then o.wp P a w K (onlyNormal Q) else K (a.put o.dst undef) w) : stepT P md ops C U Q listed a w := by
  have hun := (mem_ready.1 (show i ∈ Region.ready md ops listed by rw [hr]; simp)).1
  unfold stepT
  rw [unl_set hun]
  refine ⟨fun h0 => (by rw [hr] at h0; cases h0), fun j hj => ?_⟩
  rw [hr] at hj
  obtain rfl := List.mem_singleton.1 hj
  have h1 := h _ fun a' w' h' => h'
  unfold wpOp
  simp only [hi]
  split
  · rename_i hw; rw [if_pos hw] at h1; exact .inl h1
  · rename_i hw; rw [if_neg hw] at h1; exact h1
/-- two are ready -/
theorem stepS2 {i j : Nat} {o o' : Oper} {listed : Array Bool} {a : Act} {w : World} (hi : ops[i]? = some o) (hj : ops[j]? = some o') (hr : Region.ready md ops listed = [i, j])
    (h : ∀ K : Act → World → Prop, (∀ a' w', (i ∉ U → C w') ∧ stepT P md ops C U Q (listed.setIfInBounds i true) a' w' → K a' w') → if Region.wanted o (yielded ops a.tmps) = true then o.wp P a w K (onlyNormal Q) else K (a.put o.dst undef) w)
    (h' : ∀ K : Act → World → Prop, (∀ a' w', (j ∉ U → C w') ∧ stepT P md ops C U Q (listed.setIfInBounds j true) a' w' → K a' w') → if Region.wanted o' (yielded ops a.tmps) = true then o'.wp P a w K (onlyNormal Q) else K (a.put o'.dst undef) w) : stepT P md ops C U Q listed a w := by
  have hun := (mem_ready.1 (show i ∈ Region.ready md ops listed by rw [hr]; simp)).1
  have hun' := (mem_ready.1 (show j ∈ Region.ready md ops listed by rw [hr]; simp)).1
  have e1 := unl_set hun
  have e2 := unl_set hun'
  unfold stepT at h h' ⊢
  rw [e1]
  refine ⟨fun h0 => (by rw [h0] at hr; cases hr), fun k hk => ?_⟩
  rw [hr] at hk
  rcases List.mem_cons.1 hk with rfl | hk
  · have h1 := h _ fun a' w' h' => h'
    unfold wpOp
    simp only [hi]
    split
    · rename_i hw; rw [if_pos hw] at h1; exact .inl h1
    · rename_i hw; rw [if_neg hw] at h1; exact h1
  · obtain rfl := List.mem_singleton.1 hk
    have e3 : unl (listed.setIfInBounds i true) = unl (listed.setIfInBounds k true) := by omega
    rw [e3]
    have h1 := h' _ fun a' w' h' => h'
    unfold wpOp
    simp only [hj]
    split
    · rename_i hw; rw [if_pos hw] at h1; exact .inl h1
    · rename_i hw; rw [if_neg hw] at h1; exact h1
theorem stepT_end {listed : Array Bool} {a : Act} {w : World} (hr : Region.ready md ops listed = []) (h : Q .normal a w) : stepT P md ops C U Q listed a w := by
  unfold stepT
  cases unl listed with
  | zero => exact ⟨hr, h⟩
  | succ f => exact ⟨fun _ => h, by rw [hr]; simp⟩
/-- the class of worlds behind w -/
def Grown (w w' : World) : Prop := ∃ p : Regrown, w' = grow (redrawn w p.d) p.os
theorem Grown.of_below {w w' : World} (h : Below w.heap.size w w') : ∃ p : Regrown, w' = grow (redrawn w p.d) p.os := regrown_of_below h
theorem stepT_base {listed : Array Bool} {a : Act} {w w0 w1 : World} (hb : Below w0.heap.size w0 w1) (h : stepT P md ops (fun w' => ∃ p : Regrown, w' = grow (redrawn w1 p.d) p.os) U Q listed a w) : stepT P md ops (fun w' => ∃ p : Regrown, w' = grow (redrawn w0 p.d) p.os) U Q listed a w :=
  wpT_weak (fun w' ⟨p, hp⟩ => by
    refine regrown_of_below (hb.trans ?_)
    rw [hp]
    exact (below_regrown w1 p.d p.os).mono hb.size) _ _ _ _ h
theorem wp_region_T {id : Nat} {a : Act} {w : World} (U : List Nat) (hm : P.follows .mixedOrders = true)
    (h : ∀ W, Below w.heap.size w W → stepT P .any ops (fun w' => ∃ p : Regrown, w' = grow (redrawn W p.d) p.os) U Q (Array.replicate ops.size false) a W) : (Code.region id ops true).wp P Q a w := by
  refine wp_region_any hm (wpAny_only _ _ _ _ ?_)
  have h1 := h { w with drawn := w.drawn + 1 } ⟨rfl, rfl, rfl, Nat.le_refl _, fun _ _ => rfl⟩
  unfold stepT at h1
  rw [unl_rep] at h1
  exact wpAny_of_wpT _ _ _ _ h1
end
end Go.Proofs.YtpknglbpbodnbaaDoor
