/-
  The map that numbers pairs, in memory. Conditions: each lemma says its own.
  prod's `together` in memory and its walk `meet`. Conditions: each lemma says its own.
  The walk of prod's `row`. Conditions: each lemma says its own.
  The walk of prod's `begin`: what lies in `together` at the start. Conditions: both automata are right.
-/
import Derived.Test.YtmmlakheimfijaaGreatDoorJPl
import Derived.Test.YtmmlakheimfijaaGreatDoorJMem
import Derived.Test.YtmmlakheimfijaaGreatDoorJAuOf
import Derived.Test.YtmmlakheimfijaaGreatDoorJKit
import Derived.Test.YtmmlakheimfijaaGreatDoorJSet
namespace Go.Proofs.YtmmlakheimfijaaGreatDoor
set_option linter.unusedVariables false
set_option linter.unusedSimpArgs false
open Go.RowKit Go.Maps Go.Sort Go.ChangeShapes Go.WideShapes Go.Joins

theorem prLaidOut : laidOutB Tryz.prog = true := by kernel_rfl
theorem rowP : (101 : TypeId) < Tryz.prog.types.size := of_decide_eq_true (by kernel_rfl)
theorem deepP : Tryz.prog.keyTypeAt (Tryz.prog.types.size + 1) 101 = true := by kernel_rfl
theorem wideP : (match Tryz.prog.underlying 101 with | some (.array _ _) | some (.struct _) => true | _ => false) = true := by kernel_rfl
set_option maxRecDepth 100000 in
theorem lawP : Keyed Tryz.prog 101 := Keyed.of_law (deep_law_laid prLaidOut (m := 3) (by omega) rowP (by kernel_rfl) wideP)
theorem cellsP : Tryz.prog.cellsOf 101 = 2 := by kernel_rfl
abbrev prV (p : Pr) : Value := .agg #[.int .i64 (p.1 : Int), .int .i64 (p.2 : Int)]
def kpr (p : Pr) : Lit := (DataW.agg [.lit (.int .i64 (p.1 : Int)), .lit (.int .i64 (p.2 : Int))] : DataW Unit).asKey
/-- a pair of small numbers -/
def SmallP (p : Pr) : Prop := p.1 ≤ 1000000 ∧ p.2 ≤ 1000000
theorem int_reads {H : Type} (enc : TypeId × Value → H) (w : World) (n : Nat) (hn : n ≤ 1000000) : ∃ m, DataW.trod enc Tryz.prog w 0 (fun _ => true) true m 3 [.int .i64 (n : Int)] = some (.lit (.int .i64 (n : Int)), []) :=
  ⟨1, by
    have hw : (Lit.int .i64 (n : Int)).wf = true := wf_nat (by unfold maxLen; omega)
    simp [DataW.trod, Tryz.underlying3, hw]⟩
set_option maxRecDepth 100000 in
theorem pr_key (p : Pr) (h : SmallP p) : keyOf Tryz.prog 101 (prV p) = some (kpr p) := by
  have hf : (prV p).formed Tryz.prog 101 = true := by
    simp [prV, Value.formed, Tryz.underlying101, cellsP]
  have h := shut_agg2 (H := Unit) (enc := fun _ => ()) (P := Tryz.prog) (w := default) (base := 0) (spare := fun _ => true) (held := true) (v0 := .int .i64 (p.1 : Int)) (v1 := .int .i64 (p.2 : Int)) Tryz.underlying101 (by kernel_rfl) cellsP (int_reads _ _ p.1 h.1) (int_reads _ _ p.2 h.2)
  exact (keyOf_asKey deepP wideP hf h).1
theorem kpr_inj {p q : Pr} (hp : SmallP p) (hq : SmallP q) (h : kpr p = kpr q) : p = q := by
  have h1 := pr_key p hp
  have h2 := pr_key q hq
  rw [← h] at h2
  have := lawP.inj h1 h2
  simp only [prV, Value.agg.injEq, Array.mk.injEq, List.cons.injEq, Value.int.injEq, and_true, true_and] at this
  obtain ⟨p1, p2⟩ := p
  obtain ⟨q1, q2⟩ := q
  simp only at this
  have e1 : p1 = q1 := by omega
  have e2 : p2 = q2 := by omega
  rw [e1, e2]

structure PrD (D : DataW Unit) (o : List Pr) : Prop where
  mem : ∀ x : Pr, SmallP x → has D (kpr x) = decide (x ∈ o)
  look : ∀ (x : Pr) (z : DataW Unit), SmallP x → x ∈ o → D.atKey (kpr x) z = .lit (.int .i64 (idxP o x : Int))
def PrAt (w : World) (b n : Nat) (o : List Pr) : Prop := ∃ D : DataW Unit, w.ownsMap Tryz.prog 101 (plainElem Tryz.prog 3) b n D ∧ PrD D o
theorem PrAt.made (w : World) : PrAt (w.alloc (.map #[] 0)) w.heap.size 0 [] :=
  ⟨.map [], World.ownsMap_made _ _ _ _, ⟨fun x _ => by simp; rfl, fun x z _ h => (List.not_mem_nil h).elim⟩⟩
section
variable {w w' : World} {b n B : Nat} {o : List Pr}
theorem PrAt.kept {row : Option Nat} (h : PrAt w b n o) (hg : w.grownBy w' row) (hne : some b ≠ row) : PrAt w' b n o := by
  obtain ⟨D, h1, h2⟩ := h
  exact ⟨D, h1.kept hg hne, h2⟩
theorem PrAt.lt (h : PrAt w b n o) : b < w.heap.size := by obtain ⟨D, h1, -⟩ := h; exact h1.lt
theorem PrAt.below (h : PrAt w b n o) (hb : Below B w w') (hB : b < B) : PrAt w' b n o := by
  obtain ⟨D, h1, h2⟩ := h
  exact ⟨D, map_below h1 hb hB, h2⟩
theorem idxP_new {o : List Pr} {x : Pr} (h : x ∉ o) : idxP (o ++ [x]) x = o.length := by
  have hl : o.findIdx (eqP x) = o.length := List.findIdx_eq_length.2 fun y hy => by
    unfold eqP
    exact decide_eq_false fun e => h (by rw [e]; exact hy)
  show (o ++ [x]).findIdx (eqP x) = _
  rw [List.findIdx_append, if_neg (by omega), List.findIdx_cons, eqP_refl]
  simp
theorem idxP_old {o : List Pr} {x : Pr} (h : x ∈ o) (t : List Pr) : idxP (o ++ t) x = idxP o x := by
  have hl : o.findIdx (eqP x) < o.length := idxP_lt h
  show (o ++ t).findIdx (eqP x) = o.findIdx (eqP x)
  rw [List.findIdx_append, if_pos hl]
theorem PrD.put {D : DataW Unit} (h : PrD D o) (hM : IsMap D) {x : Pr} (hx : SmallP x) (hn : x ∉ o) : PrD (D.put (kpr x) (.lit (.int .i64 (o.length : Int)))) (o ++ [x]) := by
  have hk := lawP.key (pr_key x hx)
  refine ⟨fun y hy => ?_, fun y z hy hyo => ?_⟩
  · by_cases e : y = x
    · subst e
      exact (has_put_same hM hk _).trans (by simp)
    · have hne : kpr y ≠ kpr x := fun e' => e (kpr_inj hy hx e')
      rw [has_put_other hne, h.mem y hy]
      simp [e]
  · by_cases e : y = x
    · subst e
      rw [idxP_new hn]
      exact atKey_put_same hM hk _ _
    · have hne : kpr y ≠ kpr x := fun e' => e (kpr_inj hy hx e')
      have hyo2 : y ∈ o := by simpa [e] using hyo
      rw [idxP_old hyo2]
      exact (atKey_put_other hne _ _).trans (h.look y z hy hyo2)
theorem PrAt.put (h : PrAt w b n o) {x : Pr} (hx : SmallP x) (hn : x ∉ o) (hl : o.length ≤ 1000000) (hnn : n < maxLen) :
    ∃ w', (Instr.mapUpdate 96 (.map (some b)) (prV x) (.int .i64 (o.length : Int))).run Tryz.prog w = .ok () w' ∧ PrAt w' b (n + 1) (o ++ [x]) ∧ w.grownBy w' (some b) := by
  obtain ⟨D, h1, h2⟩ := h
  obtain ⟨w', hrun, r1, r2⟩ := h1.update lawP Tryz.underlying96 hnn (pr_key x hx) (plainElem_int Tryz.underlying3 (wf_nat (n := o.length) (by unfold maxLen; omega)))
  exact ⟨w', hrun, ⟨_, r1, h2.put h1.isMap hx hn⟩, r2⟩
/-- what `n, ok := at[x]` binds to n -/
def numP (o : List Pr) (x : Pr) : Nat := if x ∈ o then idxP o x else 0
set_option maxRecDepth 100000 in
theorem PrAt.look (h : PrAt w b n o) {x : Pr} (hx : SmallP x) :
    (Instr.lookup 96 (.map (some b)) (prV x) true).run Tryz.prog w = .ok (.tuple #[.int .i64 (numP o x : Int), .bool (decide (x ∈ o))]) w := by
  obtain ⟨D, h1, h2⟩ := h
  obtain ⟨v, ps, hrun, hv⟩ := h1.look_ok lawP Tryz.underlying96 (zeroI w) (plainElem_int Tryz.underlying3 (by decide)) (pr_key x hx)
  obtain ⟨c, rfl, hc, -⟩ := plainElem_int_inv Tryz.underlying3 hv
  have e := congrArg Prod.fst hc
  simp only at e
  have hc2 : c = (numP o x : Int) := ?_
  · rw [hrun, h2.mem x hx, hc2]
  unfold numP
  by_cases hm : x ∈ o
  · rw [if_pos hm]
    rw [h2.look x _ hx hm] at e
    simp only [DataW.lit.injEq, Lit.int.injEq, true_and] at e
    rw [e]
  · rw [if_neg hm]
    have h3 := h2.mem x hx
    rw [decide_eq_false hm] at h3
    rw [atKey_of_not_has h3] at e
    simp only [DataW.lit.injEq, Lit.int.injEq, true_and] at e
    rw [← e]
    rfl
end
end Go.Proofs.YtmmlakheimfijaaGreatDoor
namespace Go.Proofs.YtmmlakheimfijaaGreatDoor
set_option linter.unusedVariables false
set_option linter.unusedSimpArgs false
open Go.RowKit Go.Maps Go.Sort Go.ChangeShapes Go.WideShapes Go.Joins

/-- the cells of a list of pairs -/
def prCells (o : List Pr) : List Value := o.flatMap fun x => [.int .i64 (x.1 : Int), .int .i64 (x.2 : Int)]
theorem prCells_snoc (o : List Pr) (x : Pr) : prCells (o ++ [x]) = prCells o ++ [.int .i64 (x.1 : Int), .int .i64 (x.2 : Int)] := by
  simp [prCells, List.flatMap_append]
theorem prCells_len (o : List Pr) : (prCells o).length = o.length * 2 := by
  induction o with
  | nil => rfl
  | cons x o ih => simp [prCells] at ih ⊢; omega
theorem prCells_get {o : List Pr} {k : Nat} {x : Pr} (h : o[k]? = some x) : (prCells o)[2 * k]? = some (.int .i64 (x.1 : Int)) ∧ (prCells o)[2 * k + 1]? = some (.int .i64 (x.2 : Int)) := by
  induction o generalizing k with
  | nil => simp at h
  | cons y o ih =>
    cases k with
    | zero => 
      obtain rfl : y = x := by simpa using h
      exact ⟨rfl, rfl⟩
    | succ k =>
      have h' : o[k]? = some x := by simpa using h
      obtain ⟨h1, h2⟩ := ih h'
      exact ⟨h1, h2⟩
/-- what lies in `together`: the two automata, the blocks, the first bytes, the numbers and the order -/
structure TogAt (w : World) (B p m n : Nat) (cs : List Value) (o : List Pr) (ov : Value) : Prop where
  q : Blk w p 99 (cs ++ [.map (some m), ov]).toArray
  ten : cs.length = 10
  num : PrAt w m n o
  ord : w.ownsRow B 101 2 ov o.length (prCells o)
  sep : (∀ g, ov.ownBlock = some g → g ≠ p ∧ g ≠ m) ∧ p ≠ m
  cnt : n ≤ o.length
section
variable {w w' : World} {B p m n : Nat} {cs : List Value} {o : List Pr} {ov : Value}
theorem TogAt.below (h : TogAt w B p m n cs o ov) {C : Nat} (hb : Below C w w') (hp : p < C) (hm : m < C) (ho : ∀ g, ov.ownBlock = some g → g < C) : TogAt w' B p m n cs o ov :=
  ⟨h.q.below hb hp, h.ten, h.num.below hb hm, own_under h.ord hb ho, h.sep, h.cnt⟩
/-- what lay there is as it was, but for the blocks of S -/
structure Near (S : Nat → Prop) (w w' : World) : Prop where
  os : w'.os = w.os
  tape : w'.tape = w.tape
  output : w'.output = w.output
  size : w.heap.size ≤ w'.heap.size
  block : ∀ k, k < w.heap.size → ¬ S k → w'.heap[k]? = w.heap[k]?
variable {S : Nat → Prop}
theorem Near.refl (S : Nat → Prop) (w : World) : Near S w w := ⟨rfl, rfl, rfl, Nat.le_refl _, fun _ _ _ => rfl⟩
theorem Near.of_below {C : Nat} (h : Below C w w') (hC : w.heap.size ≤ C) : Near S w w' := ⟨h.os, h.tape, h.output, h.size, fun k hk _ => h.block k (by omega)⟩
theorem Near.weak {S' : Nat → Prop} (h : Near S w w') (hS : ∀ k, k < w.heap.size → S k → S' k) : Near S' w w' := ⟨h.os, h.tape, h.output, h.size, fun k hk h1 => h.block k hk fun h2 => h1 (hS k hk h2)⟩
theorem Near.trans {w'' : World} (h : Near S w w') (h' : Near S w' w'') : Near S w w'' :=
  ⟨h'.os.trans h.os, h'.tape.trans h.tape, h'.output.trans h.output, Nat.le_trans h.size h'.size, fun k hk h1 => (h'.block k (Nat.lt_of_lt_of_le hk h.size) h1).trans (h.block k hk h1)⟩
theorem Near.of_grown {row : Option Nat} (hg : w.grownBy w' row) (hr : ∀ j, row = some j → S j) : Near S w w' :=
  ⟨hg.os, hg.tape, hg.output, hg.size, fun k hk h1 => hg.block k hk (fun e => h1 (hr k e.symm))⟩
theorem Near.grown {w'' : World} {row : Option Nat} (h : Near S w w') (hg : w'.grownBy w'' row) (hr : ∀ j, row = some j → S j) : Near S w w'' := h.trans (.of_grown hg hr)
theorem Near.setCell (h : Near S w w') (i : Nat) (u : Value) (hp : S p) : Near S w (w'.setCell ⟨p, i, none⟩ u) :=
  h.grown (grown_set w' ⟨p, i, none⟩ u) fun j e => by
    obtain rfl : p = j := by injection e
    exact hp
theorem Near.below {C : Nat} (h : Near S w w') (hC : C ≤ w.heap.size) (hS : ∀ k, S k → C ≤ k) : Below C w w' := ⟨h.os, h.tape, h.output, h.size, fun k hk => h.block k (by omega) (fun h1 => by have := hS k h1; omega)⟩
/-- what meet may turn -/
def mS (p m : Nat) (ov : Value) (k : Nat) : Prop := k = p ∨ k = m ∨ ov.ownBlock = some k
theorem own_slice {e : TypeId} {size k : Nat} {v : Value} {xs : List Value} (h : w.ownsRow B e size v k xs) : ∃ A c, v = .slice A k c := by
  obtain ⟨-, ⟨rfl, rfl⟩ | ⟨g, cap, cur, rfl, -⟩⟩ := h
  · exact ⟨_, _, rfl⟩
  · exact ⟨_, _, rfl⟩
end
theorem addR_old {o : List Pr} {x : Pr} (h : x ∈ o) : addR eqP o x = o := by
  unfold addR
  rw [if_pos (List.any_eq_true.2 ⟨x, h, eqP_refl x⟩)]
theorem addR_new {o : List Pr} {x : Pr} (h : x ∉ o) : addR eqP o x = o ++ [x] := by
  unfold addR
  rw [if_neg fun h' => ?_]
  obtain ⟨y, hy, e⟩ := List.any_eq_true.1 h'
  exact h (by rw [of_decide_eq_true e]; exact hy)
theorem TogAt.c3 {w : World} {B p m n : Nat} {cs : List Value} {o : List Pr} {ov : Value} (h : TogAt w B p m n cs o ov) :
    w.cell? ⟨p, 10, none⟩ = some (.map (some m)) ∧ w.cell? ⟨p, 11, none⟩ = some ov ∧ w.frozen? ⟨p, 11, none⟩ = false := by
  have h10 := h.q.cell 10
  have h11 := h.q.cell 11
  have ht := h.ten
  simp only [List.getElem?_toArray, List.getElem?_append_right (Nat.le_of_eq ht), List.getElem?_append_right (show cs.length ≤ 11 by omega), ht] at h10 h11
  exact ⟨h10, h11, h.q.frozen 11⟩
theorem TogAt.push {V w5 : World} {B p m n g cap : Nat} {cs : List Value} {o : List Pr} {ov : Value} {x : Pr} (hq : Blk V p 99 (cs ++ [.map (some m), ov]).toArray) (ht : cs.length = 10) (hp : PrAt V m (n + 1) (o ++ [x]))
    (hsep : (∀ g, ov.ownBlock = some g → g ≠ p ∧ g ≠ m) ∧ p ≠ m) (hlt : p < V.heap.size ∧ m < V.heap.size) (hown : w5.ownsRow B 101 2 (.slice (some ⟨g, 0, none⟩) (o.length + 1) cap) (o.length + 1) (prCells o ++ [.int .i64 (x.1 : Int), .int .i64 (x.2 : Int)]))
    (hgrow : V.grownBy w5 ov.ownBlock) (hat : ov.ownBlock = some g ∨ g = V.heap.size) (hcnt : n ≤ o.length) :
    TogAt (w5.setCell ⟨p, 11, none⟩ (.slice (some ⟨g, 0, none⟩) (o.length + 1) cap)) B p m (n + 1) cs (o ++ [x]) (.slice (some ⟨g, 0, none⟩) (o.length + 1) cap) := by
  have hg : g ≠ p ∧ g ≠ m := by
    rcases hat with h | h
    · exact hsep.1 g h
    · omega
  have q5 := hq.grown hgrow (fun e => (hsep.1 p e.symm).1 rfl)
  have q6 := q5.set_ 11 (.slice (some ⟨g, 0, none⟩) (o.length + 1) cap)
  have he : (cs ++ [Value.map (some m), ov]).toArray.setIfInBounds 11 (Value.slice (some ⟨g, 0, none⟩) (o.length + 1) cap) = (cs ++ [Value.map (some m), Value.slice (some ⟨g, 0, none⟩) (o.length + 1) cap]).toArray := by
    rw [List.setIfInBounds_toArray, List.set_append_right _ _ (by omega), ht]
    rfl
  rw [he] at q6
  have p5 := hp.kept hgrow (fun e => (hsep.1 m e.symm).2 rfl)
  have p6 := p5.kept (grown_set w5 ⟨p, 11, none⟩ (.slice (some ⟨g, 0, none⟩) (o.length + 1) cap)) (fun e => hsep.2 (by injection e with e; exact e.symm))
  refine ⟨q6, ht, p6, ?_, ⟨fun k hk => ?_, hsep.2⟩, by simpa using hcnt⟩
  · rw [prCells_snoc, List.length_append, List.length_singleton]
    exact own_set hown _ (fun e => hg.1 (by injection e))
  · obtain rfl : g = k := by injection hk
    exact hg
theorem infoP : (Tryz.prog.info? 101).map (fun i => (i.zero, i.size, i.bytes)) = some (some (.agg #[.int .i64 0, .int .i64 0]), 2, 16) := by kernel_rfl
theorem two_new {w : World} {u v : Value} {t : TypeId} : ∀ j x, [u, v][j]? = some x → (w.alloc (.cells #[u, v] t)).cell? ((⟨w.heap.size, 0, none⟩ : Addr).add j) = some x := by
  intro j x hj
  rw [Addr.add_lit, (Blk.new w t #[u, v]).cell]
  simpa using hj
section
variable {P : Program}
theorem step_lookup {ops : Array Oper} {o : Oper} {a : Act} {w w' : World} {K : Act → World → Prop} {Q : Exit → Act → World → Prop} {E : Prop} (hgd : o.guard = none) (t : TypeId) (m x : Operand) (b : Bool) (ho : o.op = .lookup t m x b)
    (v : Value) (hrun : (Instr.lookup t (a.eval m) (a.eval x) b).run P w = .ok v w') (h : K (a.put o.dst v) w') : if Region.wanted o (yielded ops a.tmps) = true then Oper.wp P o a w K Q else E := by
  have hw : Region.wanted o (yielded ops a.tmps) = true := by simp [Region.wanted, hgd]
  rw [if_pos hw]
  unfold Oper.wp execOp
  simp only [ho, Sem.run_bind, Sem.run_pure, hrun, Result.andThen_ok]
  exact h
theorem step_mapUpdate {ops : Array Oper} {o : Oper} {a : Act} {w w' : World} {K : Act → World → Prop} {Q : Exit → Act → World → Prop} {E : Prop} (hgd : o.guard = none) (t : TypeId) (m x y : Operand) (ho : o.op = .mapUpdate t m x y)
    (hrun : (Instr.mapUpdate t (a.eval m) (a.eval x) (a.eval y)).run P w = .ok () w') (h : K a w') (hd : o.dst = none) : if Region.wanted o (yielded ops a.tmps) = true then Oper.wp P o a w K Q else E := by
  have hw : Region.wanted o (yielded ops a.tmps) = true := by simp [Region.wanted, hgd]
  rw [if_pos hw]
  unfold Oper.wp execOp
  simp only [ho, Sem.run_bind, Sem.run_pure, hrun, Result.andThen_ok, Oper.upon, hd]
  exact h
end
set_option maxHeartbeats 8000000 in
set_option maxRecDepth 1000000 in
theorem meet_walk (B p m n : Nat) (cs : List Value) (o : List Pr) (ov : Value) (x : Pr) (w : World) (h : TogAt w B p m n cs o ov) (hx : SmallP x) (hl : o.length ≤ 1000000) (hB : B ≤ w.heap.size) :
    Calls Tryz.prog 85 #[.pointer (some ⟨p, 0, none⟩), prV x] w fun e w' => e = .returned (.int .i64 (idxP (addR eqP o x) x : Int)) ∧ (∃ n' ov', TogAt w' B p m n' cs (addR eqP o x) ov' ∧ ∀ g, ov'.ownBlock = some g → ov.ownBlock = some g ∨ w.heap.size ≤ g) ∧ Near (mS p m ov) w w' := by
  obtain ⟨x1, x2⟩ := x
  have hB := And.intro hB (And.intro h.num.lt h.q.lt)
  have hal := (Below.refl w.heap.size w).alloc (Nat.le_refl _) (.cells #[.int .i64 (x1 : Int), .int .i64 (x2 : Int)] 101)
  have h1 := h.below hal h.q.lt h.num.lt (fun g hg => own_lt h.ord hg)
  obtain ⟨h10, h11, f11⟩ := h1.c3
  have hb := Blk.new w 101 #[.int .i64 (x1 : Int), .int .i64 (x2 : Int)]
  obtain ⟨⟨y0, y1⟩, -⟩ := hb.c2
  have hz : (w.alloc (.cells #[.int .i64 (x1 : Int), .int .i64 (x2 : Int)] 101)).heap.size = w.heap.size + 1 := by simp
  have H := Lib.hid (And.intro h1 (And.intro hb (And.intro hal (And.intro hx (And.intro hl (And.intro hB hz))))))
  clear h h1 hb hal hx hl f11
  go_enter Tryz.func85, Tryz.ntmps85
  go_wp2_with fail
  generalize w.alloc (.cells #[.int .i64 (x1 : Int), .int .i64 (x2 : Int)] 101) = W at *
  refine wp_region_T [] (by kernel_rfl) ?_
  intro W1 bb
  have lc : ∀ {p : Addr} {v : Value}, W.cell? p = some v → ∀ d os, (Sort.grow (redrawn W1 d) os).cell? p = some v := fun {p v} hp d os => ((bb.trans ((below_regrown W1 d os).mono bb.size)).cell (World.block_lt_of_cell? W p hp)).trans hp
  have q0 := lc h10
  have q1 := lc y0
  have q2 := lc y1
  clear lc
  clear h10 y0 y1 h11
  refine stepsQ [0, 1, 2, 3, 4] (by kernel_rfl) (by kernel_rfl) (by kernel_rfl) (Grown.of_below (Below.refl _ _)) ?_
  simp only [atIdx, List.filterMap_cons, List.filterMap_nil, List.getElem?_toArray, List.getElem_toArray, List.getElem?_cons_zero, List.getElem?_cons_succ, List.getElem_cons_zero, List.getElem_cons_succ]
  iterate 5 (show wpQuiet _ _ _ _ (_ :: _) _; go_big_quiet_step (fail))
  refine wpQuiet_nil ?_
  show stepT _ _ _ _ _ _ _ _ _
  have hk := (H.out.1.num.below bb H.out.1.num.lt).look H.out.2.2.2.1
  refine stepS (i := 5) rfl (by kernel_rfl) ?_
  intro K hK
  refine step_lookup rfl 96 (.tmp 11) (.tmp 12) true rfl _ (by simpa [Act.eval] using hk) ?_
  refine hK _ _ ⟨fun _ => Grown.of_below (Below.refl _ _), ?_⟩
  clear hK K hk
  go_simp
  refine stepsQ [6, 7, 8, 9, 10] (by kernel_rfl) (by kernel_rfl) (by kernel_rfl) (Grown.of_below (Below.refl _ _)) ?_
  simp only [atIdx, List.filterMap_cons, List.filterMap_nil, List.getElem?_toArray, List.getElem_toArray, List.getElem?_cons_zero, List.getElem?_cons_succ, List.getElem_cons_zero, List.getElem_cons_succ]
  iterate 5 (show wpQuiet _ _ _ _ (_ :: _) _; go_big_quiet_step (fail))
  refine wpQuiet_nil ?_
  show stepT _ _ _ _ _ _ _ _ _
  refine stepT_end (by kernel_rfl) ?_
  have H1 := Lib.hid (And.intro (H.out.1.below bb H.out.1.q.lt H.out.1.num.lt (fun g hg => own_lt H.out.1.ord hg)) (And.intro (H.out.2.1.below bb H.out.2.1.lt) (And.intro (H.out.2.2.1.trans (bb.mono H.out.2.2.1.size)) (And.intro H.out.2.2.2.1 (And.intro H.out.2.2.2.2.1 H.out.2.2.2.2.2.1)))))
  clear bb H q0 q1 q2 hz
  obtain ⟨h10, h11, f11⟩ := H1.out.1.c3
  obtain ⟨⟨y0, y1⟩, -⟩ := H1.out.2.1.c2
  obtain ⟨A, cc, rfl⟩ := own_slice H1.out.1.ord
  by_cases hm : (x1, x2) ∈ o
  · have hnum : numP o (x1, x2) = idxP (addR eqP o (x1, x2)) (x1, x2) := by
      rw [addR_old hm]
      unfold numP
      rw [if_pos hm]
    have HM := Lib.hid hm
    rw [hnum, decide_eq_true hm]
    clear hm hnum
    go_wp2_with fail
    go_ret
    refine ⟨rfl, ?_, Near.of_below H1.out.2.2.1 (Nat.le_refl _)⟩
    rw [addR_old HM.out]
    exact ⟨_, _, H1.out.1, fun g e => .inl e⟩
  · have HM := Lib.hid hm
    rw [decide_eq_false hm]
    clear hm
    go_wp2_with fail
    refine wp_region_T [6] (by kernel_rfl) ?_
    intro W2 bb
    have lc : ∀ {p : Addr} {v : Value}, W1.cell? p = some v → ∀ d os, (Sort.grow (redrawn W2 d) os).cell? p = some v := fun {p v} hp d os => ((bb.trans ((below_regrown W2 d os).mono bb.size)).cell (World.block_lt_of_cell? W1 p hp)).trans hp
    have q0 := lc h10
    have q1 := lc y0
    have q2 := lc y1
    clear lc
    clear h10 y0 y1 h11 f11
    refine stepsQ [0, 1, 2, 3, 4, 5] (by kernel_rfl) (by kernel_rfl) (by kernel_rfl) (Grown.of_below (Below.refl _ _)) ?_
    simp only [atIdx, List.filterMap_cons, List.filterMap_nil, List.getElem?_toArray, List.getElem_toArray, List.getElem?_cons_zero, List.getElem?_cons_succ, List.getElem_cons_zero, List.getElem_cons_succ]
    iterate 6 (show wpQuiet _ _ _ _ (_ :: _) _; go_big_quiet_step (fail))
    refine wpQuiet_nil ?_
    show stepT _ _ _ _ _ _ _ _ _
    have T2 := H1.out.1.below bb H1.out.1.q.lt H1.out.1.num.lt (fun g hg => own_lt H1.out.1.ord hg)
    have hb2 := H1.out.2.1.below bb H1.out.2.1.lt
    have be2 := H1.out.2.2.1.trans (bb.mono H1.out.2.2.1.size)
    obtain ⟨W3, hrun, hp3, hg3⟩ := T2.num.put H1.out.2.2.2.1 HM.out H1.out.2.2.2.2.1 (by have := T2.cnt; have := H1.out.2.2.2.2.1; unfold maxLen; omega)
    refine stepS (i := 6) rfl (by kernel_rfl) ?_
    intro K hK
    refine step_mapUpdate rfl 96 (.tmp 26) (.tmp 27) (.tmp 28) rfl (by simpa [Act.eval] using hrun) ?_ rfl
    refine hK _ _ ⟨fun h => absurd (by decide) h, ?_⟩
    clear hK K hrun
    refine stepT_end (by kernel_rfl) ?_
    have q3 := T2.q.grown hg3 (fun e => T2.sep.2 (by simpa using e))
    have b3 := hb2.grown hg3 (fun e => by
      have h1 : w.heap.size = m := by simpa using e
      have h2 := H1.out.2.2.2.2.2.2.1
      omega)
    have o3 := T2.ord.kept hg3 (.inr fun e => (T2.sep.1 m e).2 rfl)
    have be3 : Near (mS p m (.slice A o.length cc)) w W3 := (Near.of_below be2 (Nat.le_refl _)).grown hg3 (fun j e => by
      obtain rfl : m = j := by simpa using e
      exact .inr (.inl rfl))
    have hz3 := hg3.size
    have h11 : W3.cell? ⟨p, 11, none⟩ = some (.slice A o.length cc) := by
      have e := q3.cell 11
      have ht := T2.ten
      simp only [List.getElem?_toArray, List.getElem?_append_right (show cs.length ≤ 11 by omega), ht] at e
      exact e
    obtain ⟨⟨y0, y1⟩, -⟩ := b3.c2
    have HT := Lib.hid (And.intro T2 (And.intro q3 (And.intro hp3 (And.intro o3 be3))))
    clear T2 hb2 be2 hp3 hg3 q3 o3 be3 q0 q1 q2 bb b3
    go_wp2_with fail
    obtain ⟨i0, hi0, hz00, hz01, hz02⟩ := info_parts infoP
    have o4 : ((W3.alloc (.cells #[.int .i64 (x1 : Int), .int .i64 (x2 : Int)] 101)).drew).ownsRow B 101 2 (.slice A o.length cc) o.length (prCells o) := HT.out.2.2.2.1.alloc _
    have q4 := (HT.out.2.1.alloc (.cells #[.int .i64 (x1 : Int), .int .i64 (x2 : Int)] 101)).drew
    have p4 : PrAt ((W3.alloc (.cells #[.int .i64 (x1 : Int), .int .i64 (x2 : Int)] 101)).drew) m (n + 1) (o ++ [(x1, x2)]) := HT.out.2.2.1.below ((Below.refl W3.heap.size W3).alloc (Nat.le_refl _) (.cells #[.int .i64 (x1 : Int), .int .i64 (x2 : Int)] 101)).drew HT.out.2.2.1.lt
    have be4 : Near (mS p m (.slice A o.length cc)) w ((W3.alloc (.cells #[.int .i64 (x1 : Int), .int .i64 (x2 : Int)] 101)).drew) := HT.out.2.2.2.2.trans (Near.of_below ((Below.refl W3.heap.size W3).alloc (Nat.le_refl _) (.cells #[.int .i64 (x1 : Int), .int .i64 (x2 : Int)] 101)).drew (Nat.le_refl _))
    have hbytes : (o.length + 1) * 16 ≤ 140737488355328 := by have := H1.out.2.2.2.2.1; omega
    have hmax : o.length + 1 ≤ maxLen := by have := H1.out.2.2.2.2.1; unfold maxLen; omega
    have hBW := HT.out.2.2.2.2.size
    have hsp := HT.out.1.sep
    have hone : ∀ j v, [Value.int .i64 (x1 : Int), .int .i64 (x2 : Int)][j]? = some v → ((W3.alloc (.cells #[.int .i64 (x1 : Int), .int .i64 (x2 : Int)] 101)).drew).cell? ((⟨W3.heap.size, 0, none⟩ : Addr).add j) = some v := two_new
    have hpm := And.intro HT.out.2.1.lt HT.out.2.2.1.lt
    have HU := Lib.hid (And.intro q4 (And.intro p4 (And.intro be4 (And.intro hsp hpm))))
    clear q4 p4 be4 hsp
    go_region_law (refine step_append_lies _ rfl (.tmp 33) (.tmp 35) 97 rfl B 101 i0 (.agg #[.int .i64 0, .int .i64 0]) 2 16 Tryz.underlying97 hi0 hz00 hz01 hz02 rfl (by decide) _ _ _ (by simp [Act.eval, Act.put]) o4 ⟨W3.heap.size, 0, none⟩ 1 1 [.int .i64 (x1 : Int), .int .i64 (x2 : Int)] (by simp [Act.eval, Act.put]) rfl hone (fun u hu => by simp at hu; rcases hu with rfl | rfl <;> rfl) (by decide) hmax hbytes (by simp; omega) _ rfl ?_; intro g cap w5 hown5 hgrow5 hat5 hlt5; have q5 := HU.out.1.grown hgrow5 (fun e => (HU.out.2.2.2.1.1 p e.symm).1 rfl); have e5 := q5.cell 11; have f5 := q5.frozen 11; have ht5 := HT.out.1.ten; simp only [List.getElem?_toArray, List.getElem?_append_right (show cs.length ≤ 11 by omega), ht5] at e5)
    all_goals
      have HZ := Lib.hid (And.intro (TogAt.push HU.out.1 ht5 HU.out.2.1 HU.out.2.2.2.1 ⟨HU.out.1.lt, HU.out.2.1.lt⟩ hown5 hgrow5 hat5 HT.out.1.cnt) (And.intro ((HU.out.2.2.1.grown hgrow5 (fun j e => .inr (.inr e))).setCell 11 (.slice (some ⟨g, 0, none⟩) (o.length + 1) cap) (.inl rfl)) (show ∀ k, (Value.slice (some ⟨g, 0, none⟩) (o.length + 1) cap).ownBlock = some k → (Value.slice A o.length cc).ownBlock = some k ∨ w.heap.size ≤ k from fun k e => by
        obtain rfl : g = k := by injection e
        rcases hat5 with h | h
        · exact .inl h
        · have := HU.out.2.2.1.size
          exact .inr (by omega))))
      clear hown5 hgrow5 hat5 hlt5 q5 f5 e5 HU HT o4 hone h11 y0 y1
      go_wp2_with fail
      go_ret
      refine ⟨?_, ?_, HZ.out.2.1⟩
      · rw [addR_new HM.out, idxP_new HM.out]
        rfl
      · rw [addR_new HM.out]
        exact ⟨_, _, HZ.out.1, HZ.out.2.2⟩
end Go.Proofs.YtmmlakheimfijaaGreatDoor
namespace Go.Proofs.YtmmlakheimfijaaGreatDoor
set_option linter.unusedVariables false
set_option linter.unusedSimpArgs false
open Go.RowKit Go.Maps Go.Sort Go.ChangeShapes Go.WideShapes Go.Joins

def bytCellsP (l : List Nat) : List Value := l.map fun c : Nat => Value.int .u8 (c : Int)
theorem own_sameP {w w' : World} {B : Nat} {e : TypeId} {size n : Nat} {v : Value} {xs : List Value} (h : w.ownsRow B e size v n xs) (hs : ∀ g, v.ownBlock = some g → w'.heap[g]? = w.heap[g]?) : w'.ownsRow B e size v n xs := by
  refine ⟨h.1, ?_⟩
  rcases h.2 with h0 | ⟨g, cap, cur, rfl, hB, hg, h3⟩
  · exact .inl h0
  · exact .inr ⟨g, cap, cur, rfl, hB, (hs g rfl).trans hg, h3⟩
/-- `together` over two automata that lay there at w0 -/
structure TogS (w0 w : World) (B p m n : Nat) (va vb : Value) (cs : List Value) (blk fv : Value) (D E : DfaI) (fs : List Nat) (o : List Pr) (ov : Value) : Prop where
  t : TogAt w B p m n (cs ++ [blk, fv]) o ov
  v : ∃ a0 a1 a2 a3 b0 b1 b2 b3, cs = [a0, a1, a2, a3, b0, b1, b2, b3] ∧ va = .agg #[a0, a1, a2, a3] ∧ vb = .agg #[b0, b1, b2, b3]
  a : DfaAt w0 va D
  b : DfaAt w0 vb E
  bel : Below w0.heap.size w0 w
  fst : w.ownsRow w0.heap.size 5 1 fv fs.length (bytCellsP fs)
  off : ∀ g, fv.ownBlock = some g → ¬ mS p m ov g
  ge : w0.heap.size ≤ p ∧ w0.heap.size ≤ m ∧ w0.heap.size ≤ B ∧ B ≤ w.heap.size
section
variable {w0 w w' : World} {B p m n : Nat} {va vb blk fv : Value} {cs : List Value} {D E : DfaI} {fs : List Nat} {o : List Pr} {ov : Value}
theorem TogS.mS_ge (h : TogS w0 w B p m n va vb cs blk fv D E fs o ov) {k : Nat} (hk : mS p m ov k) : w0.heap.size ≤ k := by
  rcases hk with h1 | h1 | h1
  · have := h.ge.1; omega
  · have := h.ge.2.1; omega
  · have := (h.t.ord.lt k h1).1
    have := h.ge.2.2.1
    omega
theorem TogS.mS_lt (h : TogS w0 w B p m n va vb cs blk fv D E fs o ov) {k : Nat} (hk : mS p m ov k) : k < w.heap.size := by
  rcases hk with h1 | h1 | h1
  · rw [h1]; exact h.t.q.lt
  · rw [h1]; exact h.t.num.lt
  · exact (h.t.ord.lt k h1).2
/-- behind a meet -/
theorem TogS.met {n' : Nat} {o' : List Pr} {ov' : Value} (h : TogS w0 w B p m n va vb cs blk fv D E fs o ov) (ht : TogAt w' B p m n' (cs ++ [blk, fv]) o' ov') (ho : ∀ g, ov'.ownBlock = some g → ov.ownBlock = some g ∨ w.heap.size ≤ g) (hn : Near (mS p m ov) w w') :
    TogS w0 w' B p m n' va vb cs blk fv D E fs o' ov' where
  t := ht
  v := h.v
  a := h.a
  b := h.b
  bel := h.bel.trans (hn.below h.bel.size fun k hk => h.mS_ge hk)
  fst := own_sameP h.fst fun g hg => hn.block g (own_lt h.fst hg) (h.off g hg)
  off := fun g hg hm => by
    have hl := own_lt h.fst hg
    have h2 := h.off g hg
    rcases hm with h1 | h1 | h1
    · exact h2 (.inl h1)
    · exact h2 (.inr (.inl h1))
    · rcases ho g h1 with h3 | h3
      · exact h2 (.inr (.inr h3))
      · omega
  ge := ⟨h.ge.1, h.ge.2.1, h.ge.2.2.1, Nat.le_trans h.ge.2.2.2 hn.size⟩
/-- behind a growth elsewhere -/
theorem TogS.grown {row : Option Nat} (h : TogS w0 w B p m n va vb cs blk fv D E fs o ov) (hg : w.grownBy w' row) (hr : ∀ g, row = some g → w0.heap.size ≤ g ∧ ¬ mS p m ov g ∧ fv.ownBlock ≠ some g) : TogS w0 w' B p m n va vb cs blk fv D E fs o ov where
  t := ⟨h.t.q.grown hg (fun e => (hr p e.symm).2.1 (.inl rfl)), h.t.ten, h.t.num.kept hg (fun e => (hr m e.symm).2.1 (.inr (.inl rfl))), h.t.ord.kept hg (by
    cases hv : ov.ownBlock with
    | none => exact .inl rfl
    | some q => exact .inr fun e => (hr q e.symm).2.1 (.inr (.inr hv))), h.t.sep, h.t.cnt⟩
  v := h.v
  a := h.a
  b := h.b
  bel := h.bel.grown hg h.bel.size (fun j e => (hr j e).1)
  fst := h.fst.kept hg (by
    cases hv : fv.ownBlock with
    | none => exact .inl rfl
    | some q => exact .inr fun e => (hr q e.symm).2.2 hv)
  off := h.off
  ge := ⟨h.ge.1, h.ge.2.1, h.ge.2.2.1, Nat.le_trans h.ge.2.2.2 hg.size⟩
/-- behind a change of what is above -/
theorem TogS.under (h : TogS w0 w B p m n va vb cs blk fv D E fs o ov) (hb : Below w.heap.size w w') : TogS w0 w' B p m n va vb cs blk fv D E fs o ov :=
  h.met (h.t.below hb h.t.q.lt h.t.num.lt fun g hg => own_lt h.t.ord hg) (fun g hg => .inl hg) (.of_below hb (Nat.le_refl _))
end
/-- what a row meets, one by one -/
def prO (D E : DfaI) (fs : List Nat) (x : Pr) (o : List Pr) (j : Nat) : List Pr := ((nextP D E fs x).take j).foldl (addR eqP) o
def prN (D E : DfaI) (fs : List Nat) (x : Pr) (o : List Pr) (j : Nat) : List Nat := ((nextP D E fs x).take j).map (idxP (prO D E fs x o j))
section
variable {D E : DfaI} {fs : List Nat} {x : Pr} {o : List Pr}
theorem nextP_at {j : Nat} (hj : j < fs.length) : (nextP D E fs x)[j]? = some (stpP D E x (fs.getD j 0)) := by
  unfold nextP
  rw [List.getElem?_map, List.getElem?_eq_getElem hj, List.getD_eq_getElem?_getD, List.getElem?_eq_getElem hj]
  rfl
theorem prTake_next {j : Nat} (hj : j < fs.length) : (nextP D E fs x).take (j + 1) = (nextP D E fs x).take j ++ [stpP D E x (fs.getD j 0)] := by
  have hl : j < (nextP D E fs x).length := by unfold nextP; rw [List.length_map]; exact hj
  rw [List.take_add_one, nextP_at hj]
  rfl
theorem prO_next {j : Nat} (hj : j < fs.length) : prO D E fs x o (j + 1) = addR eqP (prO D E fs x o j) (stpP D E x (fs.getD j 0)) := by
  unfold prO
  rw [prTake_next hj, List.foldl_append]
  rfl
theorem addR_mem {o : List Pr} {x y : Pr} : y ∈ addR eqP o x ↔ y ∈ o ∨ y = x := by
  by_cases h : x ∈ o
  · rw [addR_old h]
    exact ⟨.inl, fun h1 => h1.elim id fun e => e ▸ h⟩
  · rw [addR_new h]
    simp
theorem addR_idx {o : List Pr} {x y : Pr} (hy : y ∈ o) : idxP (addR eqP o x) y = idxP o y := by
  by_cases h : x ∈ o
  · rw [addR_old h]
  · rw [addR_new h]
    exact idxP_old hy _
theorem addR_le {o : List Pr} {x : Pr} : (addR eqP o x).length ≤ o.length + 1 := by
  by_cases h : x ∈ o
  · rw [addR_old h]; omega
  · rw [addR_new h]; simp
theorem foldP_mono : ∀ (l : List Pr) {o : List Pr} {y : Pr}, y ∈ o → y ∈ l.foldl (addR eqP) o
  | [], _, _, h => h
  | _ :: l, _, _, h => foldP_mono l (addR_mem.2 (.inl h))
theorem foldP_mem : ∀ (l : List Pr) {o : List Pr} {y : Pr}, y ∈ l → y ∈ l.foldl (addR eqP) o
  | z :: l, o, y, h => by
    rcases List.mem_cons.1 h with h1 | h1
    · exact foldP_mono l (addR_mem.2 (.inr h1))
    · exact foldP_mem l h1
theorem prO_mem {j : Nat} {y : Pr} (hy : y ∈ (nextP D E fs x).take j) : y ∈ prO D E fs x o j := foldP_mem _ hy
theorem prN_next {j : Nat} (hj : j < fs.length) : prN D E fs x o (j + 1) = prN D E fs x o j ++ [idxP (addR eqP (prO D E fs x o j) (stpP D E x (fs.getD j 0))) (stpP D E x (fs.getD j 0))] := by
  unfold prN
  rw [prTake_next hj, List.map_append, ← prO_next hj]
  congr 1
  refine List.map_congr_left fun y hy => ?_
  rw [prO_next hj]
  exact addR_idx (prO_mem hy)
theorem prO_len : ∀ j, j ≤ fs.length → (prO D E fs x o j).length ≤ o.length + j
  | 0, _ => by simp [prO]
  | j + 1, h => by
    rw [prO_next (by omega)]
    have h1 := prO_len j (by omega)
    have h2 := @addR_le (prO D E fs x o j) (stpP D E x (fs.getD j 0))
    omega
theorem prN_len {j : Nat} (h : j ≤ fs.length) : (prN D E fs x o j).length = j := by
  unfold prN
  rw [List.length_map, List.length_take]
  unfold nextP
  rw [List.length_map]
  omega
end
end Go.Proofs.YtmmlakheimfijaaGreatDoor
namespace Go.Proofs.YtmmlakheimfijaaGreatDoor
set_option linter.unusedVariables false
set_option linter.unusedSimpArgs false
open Go.RowKit Go.Maps Go.Sort Go.ChangeShapes Go.WideShapes Go.Joins

/-- the blocks that both have, as numbers -/
def zM (A B : DfaI) : Nat → Int := fun b => ((Bl.num (keyP A B) b : Nat) : Int)
theorem zM_right (A B : DfaI) : Bl.right (zM A B) 256 = true := by
  unfold Bl.right zM
  rw [(Bl.num_right (keyP A B) 256).1]
  rfl
theorem fsP_len (A B : DfaI) : (fsP A B).length = Bl.many (keyP A B) 256 := by simp [fsP]
theorem fsP_le (A B : DfaI) : (fsP A B).length ≤ 256 := by
  rw [fsP_len]
  exact Bl.many_le _ _
theorem cntM (A B : DfaI) : countI (zM A B) 256 = ((fsP A B).length : Int) := by
  unfold countI
  rw [if_pos (zM_right A B), fsP_len]
  obtain ⟨h1, h2⟩ := Bl.num_right (keyP A B) 256
  exact (Bl.most_top _ _ h1).trans h2
theorem fsP_at {A B : DfaI} {k : Nat} (hk : k < (fsP A B).length) : (fsP A B).getD k 0 = firstP A B k := by
  unfold fsP
  rw [List.getD_eq_getElem?_getD, List.getElem?_map, List.getElem?_range (by rw [fsP_len] at hk; exact hk)]
  rfl
theorem firstM {A B : DfaI} {k : Nat} (hk : k < (fsP A B).length) : firstI (zM A B) 256 (k : Int) = (((fsP A B).getD k 0 : Nat) : Int) := by
  obtain ⟨h1, h2⟩ := (mbP_meet A B).first k hk
  rw [mbP_at A B h1] at h2
  have hz : zM A B ((fsP A B).getD k 0) = (k : Int) := by unfold zM; rw [h2]
  have hl := Bl.least_of (zM A B) (k : Int) 256 _ h1 hz
  have hlt : Bl.least (zM A B) (k : Int) 256 < 256 := by omega
  have hit := Bl.least_hit (zM A B) (k : Int) 256 hlt
  have he : Bl.least (zM A B) (k : Int) 256 = (fsP A B).getD k 0 := by
    refine Nat.le_antisymm hl ?_
    rcases Nat.lt_or_ge (Bl.least (zM A B) (k : Int) 256) ((fsP A B).getD k 0) with h3 | h3
    · rw [fsP_at hk] at h3
      have h4 := List.not_of_lt_findIdx (p := fun b => decide (Bl.num (keyP A B) b = k)) (xs := List.range 256) (i := Bl.least (zM A B) (k : Int) 256) h3
      rw [List.getElem_range] at h4
      have h5 : Bl.num (keyP A B) (Bl.least (zM A B) (k : Int) 256) = k := by
        unfold zM at hit ⊢
        omega
      simp [h5] at h4
    · exact h3
  unfold firstI
  rw [if_pos ⟨zM_right A B, hlt⟩, he]
theorem fsP_lt {A B : DfaI} {k : Nat} (hk : k < (fsP A B).length) : (fsP A B).getD k 0 < 256 := ((mbP_meet A B).first k hk).1
theorem mbP_len (A B : DfaI) : (intsOf (mbP A B)).length = 256 := by simp [intsOf, mbP]
theorem zM_ints {A B : DfaI} {w : World} {x : Option Addr} {c : Nat} (h : IsInts w x 256 c (zM A B)) : IntsAt w (.slice x 256 c) (intsOf (mbP A B)) := by
  refine ⟨x, c, by rw [mbP_len], .inr ?_⟩
  rcases h.place with h0 | ⟨bb, off, rfl, hbb, hcs⟩
  · cases h0
  · refine ⟨bb, off, rfl, hbb, fun j y hj => ?_⟩
    have hl := (List.getElem?_eq_some_iff.1 hj).1
    rw [mbP_len] at hl
    rw [hcs j hl]
    have e : (mbP A B)[j]? = some (Bl.num (keyP A B) j) := by
      unfold mbP
      rw [List.getElem?_map, List.getElem?_range hl]
      rfl
    unfold intsOf at hj
    rw [List.getElem?_map, e] at hj
    obtain rfl := Option.some.inj hj
    rfl
theorem IsInts.as {w w' : World} {x : Option Addr} {len cap : Nat} {z : Nat → Int} (h : IsInts w x len cap z) (hs : w.heap.size ≤ w'.heap.size) (hb : ∀ g o, x = some ⟨g, o, none⟩ → w'.heap[g]? = w.heap[g]?) : IsInts w' x len cap z := by
  refine ⟨?_, h.ins, h.bound⟩
  rcases h.place with h0 | ⟨bb, off, rfl, hbb, hc⟩
  · exact .inl h0
  · exact .inr ⟨bb, off, rfl, by omega, fun j hj => (World.cell?_of_block (hb bb off rfl)).trans (hc j hj)⟩
theorem IntsAt.as {w w' : World} {v : Value} {l : List Int} (h : IntsAt w v l) (hs : w.heap.size ≤ w'.heap.size) (hb : ∀ g, v.ownBlock = some g → w'.heap[g]? = w.heap[g]?) : IntsAt w' v l := by
  obtain ⟨a, cap, rfl, h0 | ⟨b, off, rfl, hlt, hc⟩⟩ := h
  · exact ⟨a, cap, rfl, .inl h0⟩
  · exact ⟨_, cap, rfl, .inr ⟨b, off, rfl, by omega, fun j x hj => (World.cell?_of_block (hb b rfl)).trans (hc j x hj)⟩⟩

theorem own_weak {w : World} {B B' : Nat} {e : TypeId} {size n : Nat} {v : Value} {xs : List Value} (h : w.ownsRow B e size v n xs) (hB : B' ≤ B) : w.ownsRow B' e size v n xs := by
  refine ⟨h.1, ?_⟩
  rcases h.2 with h0 | ⟨g, cap, cur, rfl, hb, h3⟩
  · exact .inl h0
  · exact .inr ⟨g, cap, cur, rfl, Nat.le_trans hB hb, h3⟩
/-- behind the literal -/
structure BegAt (w W : World) (p m : Nat) (x : Option Addr) (c : Nat) (a0 a1 a2 a3 b0 b1 b2 b3 : Value) (D E : DfaI) (fv : Value) (B1 : Nat) (l : List Nat) : Prop where
  q : Blk W p 99 #[a0, a1, a2, a3, b0, b1, b2, b3, .slice x 256 c, fv, .map (some m), .slice none 0 0]
  num : PrAt W m 0 []
  blk : IsInts W x 256 c (zM D E)
  off : ∀ g o, x = some ⟨g, o, none⟩ → g ≠ p ∧ g ≠ m ∧ w.heap.size ≤ g ∧ g < B1
  fst : W.ownsRow B1 5 1 fv l.length (bytCellsP l)
  bx : Blk W w.heap.size 26 #[a0, a1, a2, a3]
  by_ : Blk W (w.heap.size + 1) 26 #[b0, b1, b2, b3]
  lt : w.heap.size + 1 < p ∧ w.heap.size + 1 < m ∧ p ≠ m ∧ p < B1 ∧ m < B1 ∧ B1 ≤ W.heap.size
  bel : Below w.heap.size w W
section
variable {w W W' : World} {p m c B1 : Nat} {x : Option Addr} {a0 a1 a2 a3 b0 b1 b2 b3 fv : Value} {D E : DfaI} {l : List Nat}
theorem BegAt.under (h : BegAt w W p m x c a0 a1 a2 a3 b0 b1 b2 b3 D E fv B1 l) (hb : Below W.heap.size W W') : BegAt w W' p m x c a0 a1 a2 a3 b0 b1 b2 b3 D E fv B1 l where
  q := h.q.below hb h.q.lt
  num := h.num.below hb h.num.lt
  blk := h.blk.keep hb
  off := h.off
  fst := own_under h.fst hb fun g hg => own_lt h.fst hg
  bx := h.bx.below hb h.bx.lt
  by_ := h.by_.below hb h.by_.lt
  lt := ⟨h.lt.1, h.lt.2.1, h.lt.2.2.1, h.lt.2.2.2.1, h.lt.2.2.2.2.1, Nat.le_trans h.lt.2.2.2.2.2 hb.size⟩
  bel := h.bel.trans (hb.mono h.bel.size)
theorem BegAt.push {g cap b k : Nat} (h : BegAt w W p m x c a0 a1 a2 a3 b0 b1 b2 b3 D E fv B1 l) (hk : l.length = k)
    (hown : W'.ownsRow B1 5 1 (.slice (some ⟨g, 0, none⟩) (k + 1) cap) (k + 1) (bytCellsP l ++ [.int .u8 (b : Int)])) (hgrow : W.grownBy W' fv.ownBlock) :
    BegAt w (W'.setCell ⟨p, 9, none⟩ (.slice (some ⟨g, 0, none⟩) (k + 1) cap)) p m x c a0 a1 a2 a3 b0 b1 b2 b3 D E (.slice (some ⟨g, 0, none⟩) (k + 1) cap) B1 (l ++ [b]) := by
  subst hk
  have hlt := h.lt
  have hge : ∀ k, fv.ownBlock = some k → B1 ≤ k := fun k hk => (h.fst.lt k hk).1
  have q5 := h.q.grown hgrow (fun e => own_blk_ne h.fst h.q (by decide) e.symm)
  have q6 := q5.set_ 9 (.slice (some ⟨g, 0, none⟩) (l.length + 1) cap)
  have hz := hgrow.size
  have hpg : ∀ k, k ≠ p → k < B1 → (W'.setCell ⟨p, 9, none⟩ (.slice (some ⟨g, 0, none⟩) (l.length + 1) cap)).heap[k]? = W.heap[k]? := fun k hk hk2 =>
    (Below.heap_setCell _ ⟨p, 9, none⟩ _ k hk).trans (hgrow.block k (by omega) (fun e => by have := hge k e.symm; omega))
  refine ⟨by simpa using q6, ?_, ?_, h.off, ?_, ?_, ?_, ?_, ?_⟩
  · exact (h.num.kept hgrow (fun e => by have := hge m e.symm; omega)).kept (grown_set W' ⟨p, 9, none⟩ _) (fun e => by
      have e2 : m = p := by injection e
      omega)
  · exact h.blk.as (by simp; omega) fun g' o e => by
      obtain ⟨h1, h2, h3, h4⟩ := h.off g' o e
      exact hpg g' h1 h4
  · have := own_set hown (.slice (some ⟨g, 0, none⟩) (l.length + 1) cap) (a := ⟨p, 9, none⟩) (own_blk_ne hown q5 (by decide))
    simpa [bytCellsP] using this
  · exact (hpg _ (by omega) (by omega)).trans h.bx
  · exact (hpg _ (by omega) (by omega)).trans h.by_
  · exact ⟨hlt.1, hlt.2.1, hlt.2.2.1, hlt.2.2.2.1, hlt.2.2.2.2.1, by simp; omega⟩
  · exact (h.bel.grown hgrow h.bel.size (fun j e => by have := hge j e; omega)).setCell (p := ⟨p, 9, none⟩) (by show w.heap.size ≤ p; omega) _
end
/-- `together`, with its blocks -/
structure TogF (w0 w : World) (B p m n : Nat) (va vb : Value) (cs : List Value) (blk fv : Value) (D E : DfaI) (o : List Pr) (ov : Value) : Prop where
  s : TogS w0 w B p m n va vb cs blk fv D E (fsP D E) o ov
  bk : IntsAt w blk (intsOf (mbP D E))
  off : ∀ g, blk.ownBlock = some g → g < w.heap.size ∧ ¬ mS p m ov g
section
variable {w0 w w' : World} {B p m n : Nat} {va vb blk fv : Value} {cs : List Value} {D E : DfaI} {o : List Pr} {ov : Value}
theorem TogF.met {n' : Nat} {o' : List Pr} {ov' : Value} (h : TogF w0 w B p m n va vb cs blk fv D E o ov) (hs : TogS w0 w' B p m n' va vb cs blk fv D E (fsP D E) o' ov') (ho : ∀ g, ov'.ownBlock = some g → ov.ownBlock = some g ∨ w.heap.size ≤ g) (hn : Near (mS p m ov) w w') :
    TogF w0 w' B p m n' va vb cs blk fv D E o' ov' where
  s := hs
  bk := h.bk.as hn.size fun g hg => hn.block g (h.off g hg).1 (h.off g hg).2
  off := fun g hg => by
    obtain ⟨h1, h2⟩ := h.off g hg
    refine ⟨Nat.lt_of_lt_of_le h1 hn.size, fun hm => ?_⟩
    rcases hm with h3 | h3 | h3
    · exact h2 (.inl h3)
    · exact h2 (.inr (.inl h3))
    · rcases ho g h3 with h4 | h4
      · exact h2 (.inr (.inr h4))
      · omega
theorem TogF.grown {row : Option Nat} (h : TogF w0 w B p m n va vb cs blk fv D E o ov) (hg : w.grownBy w' row) (hr : ∀ g, row = some g → w0.heap.size ≤ g ∧ ¬ mS p m ov g ∧ fv.ownBlock ≠ some g ∧ blk.ownBlock ≠ some g) : TogF w0 w' B p m n va vb cs blk fv D E o ov where
  s := h.s.grown hg fun g e => ⟨(hr g e).1, (hr g e).2.1, (hr g e).2.2.1⟩
  bk := h.bk.as hg.size fun g e => hg.block g (h.off g e).1 fun e' => (hr g e'.symm).2.2.2 e
  off := fun g e => ⟨Nat.lt_of_lt_of_le (h.off g e).1 hg.size, (h.off g e).2⟩
theorem TogF.under (h : TogF w0 w B p m n va vb cs blk fv D E o ov) (hb : Below w.heap.size w w') : TogF w0 w' B p m n va vb cs blk fv D E o ov :=
  h.met (h.s.under hb) (fun g hg => .inl hg) (.of_below hb (Nat.le_refl _))
end
end Go.Proofs.YtmmlakheimfijaaGreatDoor
