/-
  The walks of the reference's Size, and of Great. Conditions: the tree lies in memory; its nodes are fewer than 2^62.
-/
import Derived.Test.YtpknglbpbodnbaaDoorJRgMem
namespace Go.Proofs.YtpknglbpbodnbaaDoor
set_option linter.unusedVariables false
set_option linter.unusedSimpArgs false
open Go.RowKit Go.Sort Cs Rg Go.ChangeShapes Go.WideShapes

set_option maxHeartbeats 8000000 in
set_option maxRecDepth 1000000 in
theorem refsize_any (n : Nd) : ∀ (v : Value) (w : World), NdAt w v n → sizeN n ≤ 4611686018427387904 →
    Calls Tryd.prog 16 #[v] w fun e w' => e = .returned (.tuple #[.int .i64 (sizeN n : Int), .int .i64 (deepN n : Int)]) ∧ Below w.heap.size w w' := by
  refine Nd.ind (P := fun n => ∀ (v : Value) (w : World), NdAt w v n → sizeN n ≤ 4611686018427387904 →
    Calls Tryd.prog 16 #[v] w fun e w' => e = .returned (.tuple #[.int .i64 (sizeN n : Int), .int .i64 (deepN n : Int)]) ∧ Below w.heap.size w w') (fun k s l x y ih v w hv hn => ?_) n
  obtain ⟨a, c, rfl, hin⟩ := hv
  have hln : l.length ≤ 9223372036854775807 := by have := hin.len; unfold maxLen at this; exact this
  have hb0 := (Below.refl w.heap.size w).alloc (Nat.le_refl _) (.cells #[.int .i64 k, .int .u64 s.a, .int .u64 s.b, .int .u64 s.c, .int .u64 s.d, .slice a l.length c, .int .i64 x, .int .i64 y] 27)
  have hq := Blk.new w 27 #[.int .i64 k, .int .u64 s.a, .int .u64 s.b, .int .u64 s.c, .int .u64 s.d, .slice a l.length c, .int .i64 x, .int .i64 y]
  have H := Lib.hid (And.intro (hin.below hb0) (And.intro hq hb0))
  have IH := Lib.hid ih
  obtain ⟨⟨y0, y1, y2, y3, y4, y5, y6, y7⟩, -⟩ := hq.c8
  have hsz : sizeN (.mk k s l x y) = 1 + sizeL l := by rw [sizeN]
  have hdp : deepN (.mk k s l x y) = deepL l + 1 := by rw [deepN]
  rw [hsz, hdp]
  rw [hsz] at hn
  have hdl := deepL_le l
  clear hin hb0 hq ih hsz hdp
  show Calls Tryd.prog 16 #[.agg #[.int .i64 k, .int .u64 s.a, .int .u64 s.b, .int .u64 s.c, .int .u64 s.d, .slice a l.length c, .int .i64 x, .int .i64 y]] w _
  go_enter Tryd.func16, Tryd.ntmps16
  go_wp2_with fail
  clear y0 y1 y2 y3 y4 y5 y6 y7
  generalize w.alloc (.cells #[.int .i64 k, .int .u64 s.a, .int .u64 s.b, .int .u64 s.c, .int .u64 s.d, .slice a l.length c, .int .i64 x, .int .i64 y] 27) = W at *
  go_loopw [4, 5, 6] (fun sa sd si wr => ∃ i : Nat, sa = .int .i64 ((1 + sizeL (l.take i) : Nat) : Int) ∧ sd = .int .i64 (deepL (l.take i) : Nat) ∧ si = .int .i64 (i : Int) ∧ i ≤ l.length ∧ Below W.heap.size W wr) (fun _ _ si _ => l.length - (intOf si).toNat)
  case atStart => exact ⟨0, by simp [sizeL], by simp [deepL], rfl, Nat.zero_le _, Below.refl _ _⟩
  case round =>
    obtain ⟨i, rfl, rfl, rfl, hi, hbr⟩ := hrel
    have hq := H.out.2.1.below hbr H.out.2.1.lt
    obtain ⟨⟨y0, y1, y2, y3, y4, y5, y6, y7⟩, -⟩ := hq.c8
    have hin := H.out.1.below hbr
    by_cases hil : i < l.length
    · have k1 : decide (i < l.length) = true := decide_eq_true hil
      obtain ⟨m, hm⟩ : ∃ m, l[i]? = some m := ⟨_, List.getElem?_eq_getElem hil⟩
      obtain ⟨b, o, a', c', rfl, hblt, hl8, hin'⟩ := hin.kid (i := i) (m := m) hm
      obtain ⟨z0, z1, z2, z3, z4, z5, z6, z7⟩ := hl8.c8
      go_wp2_with fail
      have hb1 := H.out.2.2.trans (hbr.mono H.out.2.2.size)
      have hsm := sizeL_le l (i + 1)
      obtain ⟨ht1, ht2⟩ := sizeL_take hm
      have hdm := deepN_le m
      have hdt := deepL_le (l.take i)
      refine (IH.out m (List.mem_of_getElem? hm) _ wr ⟨a', c', rfl, hin'⟩ (by omega)).mono ?_
      rintro e w1 ⟨rfl, bx⟩
      have hbr1 := hbr.trans (bx.mono hbr.size)
      have HT := Lib.hid (And.intro ht1 (And.intro ht2 hbr1))
      rw [ht1] at hsm
      clear hin hin' hl8 hq y0 y1 y2 y3 y4 y5 y6 y7 z0 z1 z2 z3 z4 z5 z6 z7 hbr hb1 bx hbr1 hm ht1 ht2
      obtain ⟨A, hA⟩ : ∃ A, sizeL (l.take i) = A := ⟨_, rfl⟩
      obtain ⟨B, hB⟩ : ∃ B, sizeN m = B := ⟨_, rfl⟩
      obtain ⟨C, hC⟩ : ∃ C, deepL (l.take i) = C := ⟨_, rfl⟩
      obtain ⟨D, hD⟩ : ∃ D, deepN m = D := ⟨_, rfl⟩
      rw [hA, hB, hC, hD] at HT
      rw [hA, hB] at hsm
      rw [hB, hD] at hdm
      rw [hA, hC] at hdt
      rw [hA, hB, hC, hD]
      clear hA hB hC hD
      by_cases hCD : C < D
      · have k2 : decide (C < D) = true := decide_eq_true hCD
        go_wp2_with fail
        go_roundw
        case rel => exact ⟨i + 1, by rw [HT.out.1]; go_num, by rw [HT.out.2.1, Nat.max_eq_right (by omega)], by go_num, hil, HT.out.2.2⟩
        case measure => simp [intOf]; omega
      · have k2 : decide (C < D) = false := decide_eq_false hCD
        go_wp2_with fail
        go_roundw
        case rel => exact ⟨i + 1, by rw [HT.out.1]; go_num, by rw [HT.out.2.1, Nat.max_eq_left (by omega)], by go_num, hil, HT.out.2.2⟩
        case measure => simp [intOf]; omega
    · have k1 : decide (i < l.length) = false := decide_eq_false hil
      go_wp2_with fail
      refine bodyPost_ret (results_tmp2 rfl _ _ _) rfl ?_
      have e : l.take i = l := List.take_of_length_le (by omega)
      rw [e]
      have hw : Value.int .i64 (wrap64 ((deepL l : Int) + 1)) = .int .i64 ((deepL l + 1 : Nat) : Int) := by rw [IntWalk.wrap64_in _ (by omega)]; rfl
      exact ⟨by show Ending.returned (Value.tuple #[.int .i64 ((1 + sizeL l : Nat) : Int), .int .i64 (wrap64 ((deepL l : Int) + 1))]) = _; rw [hw], H.out.2.2.trans (hbr.mono H.out.2.2.size)⟩
def greatN (n : Nd) : Bool := decide (300 < sizeN n) || decide (40 < deepN n)
set_option maxHeartbeats 8000000 in
set_option maxRecDepth 1000000 in
theorem great14_any (n : Nd) (v : Value) (w : World) (hv : NdAt w v n) (hn : sizeN n ≤ 4611686018427387904) :
    Calls Tryd.prog 6 #[v] w fun e w' => e = .returned (.bool (greatN n)) ∧ Below w.heap.size w w' := by
  obtain ⟨a, c, rfl, hin⟩ := hv
  have hb0 := (Below.refl w.heap.size w).alloc (Nat.le_refl _) (.cells #[.int .i64 n.kind, .int .u64 n.set.a, .int .u64 n.set.b, .int .u64 n.set.c, .int .u64 n.set.d, .slice a n.kids.length c, .int .i64 n.lo, .int .i64 n.hi] 27)
  have hq := Blk.new w 27 #[.int .i64 n.kind, .int .u64 n.set.a, .int .u64 n.set.b, .int .u64 n.set.c, .int .u64 n.set.d, .slice a n.kids.length c, .int .i64 n.lo, .int .i64 n.hi]
  have H := Lib.hid (And.intro (hin.below hb0) hb0)
  obtain ⟨⟨y0, y1, y2, y3, y4, y5, y6, y7⟩, -⟩ := hq.c8
  clear hin hb0 hq
  unfold nodeV
  go_enter Tryd.func6, Tryd.ntmps6
  go_wp2_with fail
  refine (refsize_any n _ _ ⟨a, c, rfl, H.out.1⟩ hn).mono ?_
  rintro e w1 ⟨rfl, bx⟩
  have hb := H.out.2.trans (bx.mono H.out.2.size)
  have HB := Lib.hid hb
  clear bx hb y0 y1 y2 y3 y4 y5 y6 y7
  obtain ⟨A, hA⟩ : ∃ A, sizeN n = A := ⟨_, rfl⟩
  obtain ⟨D, hD⟩ : ∃ D, deepN n = D := ⟨_, rfl⟩
  have HA := Lib.hid (And.intro hA hD)
  rw [hA, hD]
  clear hA hD hn
  have hg : greatN n = (decide (300 < (A : Int)) || decide (40 < (D : Int))) := by
    unfold greatN
    rw [HA.out.1, HA.out.2]
    congr 1 <;> (rw [decide_eq_decide]; omega)
  have HG := Lib.hid hg
  clear hg
  by_cases h1 : 300 < A
  · have k1 : decide (300 < (A : Int)) = true := decide_eq_true (by omega)
    go_wp2_with fail
    go_ret
    exact ⟨by rw [HG.out, k1]; rfl, HB.out⟩
  · have k1 : decide (300 < (A : Int)) = false := decide_eq_false (by omega)
    go_wp2_with fail
    go_ret
    exact ⟨by rw [HG.out, k1]; rfl, HB.out⟩
end Go.Proofs.YtpknglbpbodnbaaDoor
