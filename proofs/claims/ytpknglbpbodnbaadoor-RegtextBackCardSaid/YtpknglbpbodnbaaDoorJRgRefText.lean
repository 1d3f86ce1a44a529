/-
  The walk of the reference's Text. Conditions: the words fit; 300 nodes at most.
-/
import Derived.Test.YtpknglbpbodnbaaDoorJRgTell
namespace Go.Proofs.YtpknglbpbodnbaaDoor
set_option linter.unusedVariables false
set_option linter.unusedSimpArgs false
open Go.RowKit Go.Sort Cs Rg Go.ChangeShapes Go.WideShapes

theorem textN_some {n : Nd} (h1 : rightN n = true) (h2 : (tellN n).length ≤ 256) (h3 : nestN n ≤ 16) : textN n = some (tellN n) := if_pos ⟨h1, h2, h3⟩
theorem textN_none {n : Nd} (h : ¬ (rightN n = true ∧ (tellN n).length ≤ 256 ∧ nestN n ≤ 16)) : textN n = none := if_neg h
set_option maxHeartbeats 8000000 in
set_option maxRecDepth 1000000 in
theorem reftext_any (n : Nd) (v : Value) (w : World) (hv : NdAt w v n) (hI : InN n) (hn : sizeN n ≤ 300) :
    Calls Tryd.prog 9 #[v] w fun e w' => e = .returned (.tuple #[.string (bsT ((textN n).getD [])), .bool (textN n).isSome]) ∧ Below w.heap.size w w' := by
  obtain ⟨a, c, rfl, hin⟩ := hv
  have hb0 := (Below.refl w.heap.size w).alloc (Nat.le_refl _) (.cells #[.int .i64 n.kind, .int .u64 n.set.a, .int .u64 n.set.b, .int .u64 n.set.c, .int .u64 n.set.d, .slice a n.kids.length c, .int .i64 n.lo, .int .i64 n.hi] 27)
  have hq := Blk.new w 27 #[.int .i64 n.kind, .int .u64 n.set.a, .int .u64 n.set.b, .int .u64 n.set.c, .int .u64 n.set.d, .slice a n.kids.length c, .int .i64 n.lo, .int .i64 n.hi]
  obtain ⟨⟨y0, y1, y2, y3, y4, y5, y6, y7⟩, -⟩ := hq.c8
  have H := Lib.hid (And.intro (hin.below hb0) (And.intro hq (And.intro hb0 hI)))
  clear hin hb0 hq hI
  show Calls Tryd.prog 9 #[.agg #[.int .i64 n.kind, .int .u64 n.set.a, .int .u64 n.set.b, .int .u64 n.set.c, .int .u64 n.set.d, .slice a n.kids.length c, .int .i64 n.lo, .int .i64 n.hi]] w _
  go_enter Tryd.func9, Tryd.ntmps9
  go_wp2_with fail
  refine (refright_any n _ _ ⟨a, c, rfl, H.out.1⟩).mono ?_
  rintro e w1 ⟨rfl, bx⟩
  have hq1 := H.out.2.1.below bx H.out.2.1.lt
  have HX := Lib.hid (And.intro (H.out.1.below bx) (H.out.2.2.1.trans (bx.mono H.out.2.2.1.size)))
  clear y0 y1 y2 y3 y4 y5 y6 y7 bx
  obtain ⟨⟨y0, y1, y2, y3, y4, y5, y6, y7⟩, -⟩ := hq1.c8
  clear hq1
  cases hr : rightN n with
  | false =>
    have HR := Lib.hid hr
    clear hr
    go_wp2_with fail
    refine bodyPost_ret (results_tmp2 rfl _ _ _) rfl ?_
    exact ⟨by
      rw [textN_none (n := n) (fun h => by rw [HR.out] at h; exact absurd h.1 (by decide))]
      rfl, HX.out.2⟩
  | true =>
    have HR := Lib.hid hr
    clear hr
    go_wp2_with fail
    refine (reftell_any n _ _ ⟨a, c, rfl, HX.out.1⟩ HR.out H.out.2.2.2 hn).mono ?_
    rintro e w2 ⟨rfl, bx⟩
    have HB := Lib.hid (HX.out.2.trans (bx.mono HX.out.2.size))
    clear bx y0 y1 y2 y3 y4 y5 y6 y7
    have hnl := nestN_le n
    have htl := bsT_size (tellN n)
    obtain ⟨ts, hts⟩ : ∃ t, bsT (tellN n) = t := ⟨_, rfl⟩
    obtain ⟨d, hd⟩ : ∃ d, nestN n = d := ⟨_, rfl⟩
    obtain ⟨L, hL⟩ : ∃ d, (tellN n).length = d := ⟨_, rfl⟩
    rw [hts] at htl ⊢
    rw [hL] at htl
    rw [hd] at hnl ⊢
    have HT := Lib.hid (And.intro hts (And.intro hd hL))
    clear hts hd hL
    by_cases h1 : L ≤ 256
    · have k1 : decide ((256 : Int) < (ts.size : Int)) = false := decide_eq_false (by omega)
      have k1' : decide (256 < ts.size) = false := decide_eq_false (by omega)
      by_cases h2 : d ≤ 16
      · have k2 : decide ((16 : Int) < (d : Int)) = false := decide_eq_false (by omega)
        have k2' : decide (16 < d) = false := decide_eq_false (by omega)
        go_wp2_with fail
        refine bodyPost_ret (results_tmp2 rfl _ _ _) rfl ?_
        exact ⟨by
          rw [textN_some HR.out (by rw [HT.out.2.2]; exact h1) (by rw [HT.out.2.1]; exact h2), ← HT.out.1]
          rfl, HB.out⟩
      · have k2 : decide ((16 : Int) < (d : Int)) = true := decide_eq_true (by omega)
        have k2' : decide (16 < d) = true := decide_eq_true (by omega)
        go_wp2_with fail
        refine bodyPost_ret (results_tmp2 rfl _ _ _) rfl ?_
        exact ⟨by
          rw [textN_none (n := n) (fun h => h2 (by rw [HT.out.2.1] at h; exact h.2.2))]
          rfl, HB.out⟩
    · have k1 : decide ((256 : Int) < (ts.size : Int)) = true := decide_eq_true (by omega)
      have k1' : decide (256 < ts.size) = true := decide_eq_true (by omega)
      go_wp2_with fail
      refine bodyPost_ret (results_tmp2 rfl _ _ _) rfl ?_
      exact ⟨by
        rw [textN_none (n := n) (fun h => h1 (by rw [HT.out.2.2] at h; exact h.2.1))]
        rfl, HB.out⟩
end Go.Proofs.YtpknglbpbodnbaaDoor
