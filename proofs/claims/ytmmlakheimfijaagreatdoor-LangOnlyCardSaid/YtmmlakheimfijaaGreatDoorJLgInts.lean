/-
  Rows of saturated numbers, and what the steps of counting put there: plain words. Conditions: each lemma says its own.
-/
import Derived.Test.YtmmlakheimfijaaGreatDoorJLgManyPl
import Derived.Test.YtmmlakheimfijaaGreatDoorJLgStr
import Derived.Test.YtmmlakheimfijaaGreatDoorJSatMul
import Derived.Test.YtmmlakheimfijaaGreatDoorJAuRefFam
namespace Go.Proofs.YtmmlakheimfijaaGreatDoor
set_option linter.unusedVariables false
set_option linter.unusedSimpArgs false
open Go.RowKit Go.Maps Go.Sort Go.ChangeShapes Go.WideShapes

def intC (F : Nat → Int) (M : Nat) : List Value := (List.range M).map fun j => .int .i64 (F j)
theorem intC_len (F : Nat → Int) (M : Nat) : (intC F M).length = M := by simp [intC]
theorem intC_at {F : Nat → Int} {M x : Nat} (h : x < M) : (intC F M)[x]? = some (.int .i64 (F x)) := by
  unfold intC
  rw [List.getElem?_map, List.getElem?_range h]
  rfl
theorem intC_zero (M : Nat) : (madeCells (Value.int .i64 0).cells (M * 1)).toList = intC (fun _ => 0) M := by
  refine List.ext_getElem? fun j => ?_
  by_cases hj : j < M
  · rw [intC_at hj]
    simp [madeCells, Value.cells, hj, Nat.mod_one]
  · rw [List.getElem?_eq_none (by simp [madeCells, Value.cells]; omega), List.getElem?_eq_none (by rw [intC_len]; omega)]
theorem intC_set {S S' : Nat → Int} {M x : Nat} {b : Int} (hx : x < M) (h : ∀ p, p < M → S' p = if p = x then b else S p) : (intC S M).set x (.int .i64 b) = intC S' M := by
  refine List.ext_getElem? fun j => ?_
  by_cases hj : j < M
  · rw [intC_at hj, h j hj, List.getElem?_set]
    by_cases e : x = j
    · subst e
      simp [intC_len, hj]
    · rw [if_neg e, intC_at hj, if_neg (fun e2 => e e2.symm)]
  · rw [List.getElem?_eq_none (by rw [List.length_set, intC_len]; omega), List.getElem?_eq_none (by rw [intC_len]; omega)]
theorem own_int {w : World} {B g M x : Nat} {S S' : Nat → Int} {b : Int} (h : w.ownsRow B 3 1 (.slice (some ⟨g, 0, none⟩) M M) M (intC S M)) (hx : x < M) (hS : ∀ p, p < M → S' p = if p = x then b else S p) :
    (w.setCell ⟨g, x, none⟩ (.int .i64 b)).ownsRow B 3 1 (.slice (some ⟨g, 0, none⟩) M M) M (intC S' M) := by
  have hst := (h.stored x (.int .i64 b)).1
  rw [intC_set hx hS] at hst
  exact hst
theorem intC_congr {f g : Nat → Int} {M : Nat} (h : ∀ z, z < M → f z = g z) : intC f M = intC g M := by
  unfold intC
  exact List.map_congr_left fun x hx => by rw [h x (by simpa using hx)]

/-- a number that is cut at the greatest int -/
def cutN (n : Nat) : Int := clip (n : Int)
theorem cutN_in (n : Nat) : In (cutN n) := clip_in _
theorem cutN_nn (n : Nat) : 0 ≤ cutN n := (clip_pos (by omega)).1
theorem cutN_small {n : Nat} (h : n ≤ 1000000) : cutN n = (n : Int) := clip_id ⟨by omega, by omega⟩
theorem cutN_add (a b : Nat) : clip (cutN a + cutN b) = cutN (a + b) := by
  unfold cutN
  rw [clip_add (by omega) (by omega)]
  push_cast
  rfl
theorem cutN_mul (a b : Nat) : clip (cutN a * (b : Int)) = cutN (a * b) := by
  unfold cutN
  rw [clip_mul (by omega) (by omega)]
  push_cast
  rfl
theorem cutN_zero {n : Nat} (h : cutN n = 0) : n = 0 := by
  unfold cutN at h
  rw [clip_nn (by omega)] at h
  split at h <;> omega
section
variable {d : Aut} {blk : Nat → Nat} {c : Nat → Nat}
theorem sum_row (g : Nat → Nat → Nat) (N s : Nat) : sumF (fun s => sumF (g s) N) s + sumF (g s) N = sumF (fun s => sumF (g s) N) (s + 1) + sumF (g (s + 1)) 0 := rfl
theorem sum_none (x : Nat) (g : Nat → Nat) : x + sumF g 0 = x := rfl
/-- the reference's way, byte by byte -/
def refP (d : Aut) (blk : Nat → Nat) (c : Nat → Nat) (s b m : Nat) : Nat := sumF (fun s => sumF (giveB d blk c m s) 256) s + sumF (giveB d blk c m s) b
theorem refP_zero (d : Aut) (blk : Nat → Nat) (c : Nat → Nat) (m : Nat) : refP d blk c 0 0 m = 0 := rfl
theorem refP_step (s b m : Nat) : refP d blk c s (b + 1) m = if m = d.nx s (blk b) then refP d blk c s b m + c s else refP d blk c s b m := by
  unfold refP
  rw [sumF]
  unfold giveB
  by_cases e : d.nx s (blk b) = m
  · rw [if_pos e, if_pos e.symm]; omega
  · rw [if_neg e, if_neg (Ne.symm e)]; omega
theorem refP_row (s m : Nat) : refP d blk c s 256 m = refP d blk c (s + 1) 0 m := sum_row (fun s => giveB d blk c m s) 256 s
theorem refP_end (n m : Nat) : refP d blk (cntF d blk n) d.many 0 m = cntF d blk (n + 1) m := sum_none _ _
/-- the program's way, block by block -/
def proP (d : Aut) (blk : Nat → Nat) (c : Nat → Nat) (s k m : Nat) : Nat := sumF (fun s => sumF (giveK d blk c m s) d.wide) s + sumF (giveK d blk c m s) k
theorem proP_zero (d : Aut) (blk : Nat → Nat) (c : Nat → Nat) (m : Nat) : proP d blk c 0 0 m = 0 := rfl
theorem proP_step (s k m : Nat) : proP d blk c s (k + 1) m = if m = d.nx s k then proP d blk c s k m + c s * wideN blk 256 k else proP d blk c s k m := by
  unfold proP
  rw [sumF]
  unfold giveK
  by_cases e : d.nx s k = m
  · rw [if_pos e, if_pos e.symm]; omega
  · rw [if_neg e, if_neg (Ne.symm e)]; omega
theorem proP_none {s : Nat} (h : c s = 0) (k m : Nat) : proP d blk c s (k + 1) m = proP d blk c s k m := by
  rw [proP_step, h]
  simp
theorem proP_row (s m : Nat) : proP d blk c s d.wide m = proP d blk c (s + 1) 0 m := sum_row (fun s => giveK d blk c m s) d.wide s
theorem proP_end (hb : d.Blk blk) (n m : Nat) : proP d blk (cntF d blk n) d.many 0 m = cntF d blk (n + 1) m := by
  rw [cntF_blocks hb]
  exact sum_none _ _
theorem totF_step (d : Aut) (c : Nat → Nat) (s : Nat) : totF d c (s + 1) = if d.fin s = true then totF d c s + c s else totF d c s := by
  unfold totF
  rw [sumF]
  split <;> omega
theorem wideN_step (blk : Nat → Nat) (b k : Nat) : wideN blk (b + 1) k = if k = blk b then wideN blk b k + 1 else wideN blk b k := by
  unfold wideN
  rw [sumF]
  by_cases e : blk b = k
  · rw [if_pos e, if_pos e.symm]
  · rw [if_neg e, if_neg (Ne.symm e), Nat.add_zero]
end
/-- two rows: how many lead to a state, and how many so far by one byte more -/
structure NxtAt (w0 w : World) (M g gn : Nat) (C P : Nat → Nat) : Prop where
  c : w.ownsRow w0.heap.size 3 1 (.slice (some ⟨g, 0, none⟩) M M) M (intC (fun s => cutN (C s)) M)
  p : w.ownsRow w0.heap.size 3 1 (.slice (some ⟨gn, 0, none⟩) M M) M (intC (fun s => cutN (P s)) M)
  b : RowKit.Below w0.heap.size w0 w
  lt : g < gn
section
variable {w0 w w' : World} {M g gn : Nat} {C P P' : Nat → Nat}
theorem NxtAt.below (h : NxtAt w0 w M g gn C P) (hb : RowKit.Below w.heap.size w w') : NxtAt w0 w' M g gn C P :=
  ⟨own_only h.c (Only.of_below (S := []) hb) (by simp), own_only h.p (Only.of_below (S := []) hb) (by simp), h.b.trans (hb.mono h.b.size), h.lt⟩
theorem NxtAt.put (h : NxtAt w0 w M g gn C P) {m y : Nat} (hm : m < M) (hP : ∀ z, z < M → P' z = if z = m then y else P z) : NxtAt w0 (w.setCell ⟨gn, m, none⟩ (.int .i64 (cutN y))) M g gn C P' where
  c := own_set h.c (a := ⟨gn, m, none⟩) _ (by simp [Value.ownBlock]; have := h.lt; omega)
  p := own_int h.p hm fun z hz => by
    show cutN (P' z) = _
    rw [hP z hz]
    split <;> rfl
  b := h.b.setCell (p := ⟨gn, m, none⟩) (h.p.lt gn rfl).1 _
  lt := h.lt
theorem NxtAt.same (h : NxtAt w0 w M g gn C P) (hP : ∀ z, P' z = P z) : NxtAt w0 w M g gn C P' := by
  have : P' = P := funext hP
  rw [this]; exact h
end
/-- how many -/
def manyI (D : DfaI) (n : Int) : Int := if rightD D = true ∧ 0 ≤ n ∧ n ≤ 1024 then cutN (manyF D.aut D.blk n.toNat) else 0
end Go.Proofs.YtmmlakheimfijaaGreatDoor
