/-
  The walk of the program's Text. Conditions: the words fit; 1024 nodes at most; the tables lie as laid.
-/
import Derived.Test.YtpknglbpbodnbaaDoorJRgTellW
import Derived.Test.YtpknglbpbodnbaaDoorJRgRefText
import Derived.Laws.EntriesVeiled
namespace Go.Proofs.YtpknglbpbodnbaaDoor
set_option linter.unusedVariables false
set_option linter.unusedSimpArgs false
open Go.RowKit Go.Sort Cs Rg Go.ChangeShapes Go.WideShapes

set_option maxHeartbeats 8000000 in
set_option maxRecDepth 1000000 in
theorem text14_any (n : Nd) (v : Value) (w : World) (hv : NdAt w v n) (hI : InN n) (hn : sizeN n ≤ 1024) (hT : TabIn w) (hM : MarksIn w) :
    Calls Tryd.prog 8 #[v] w fun e w' => e = .returned (.tuple #[.string (bsT ((textN n).getD [])), .bool (textN n).isSome]) ∧ Below w.heap.size w w' := by
  obtain ⟨a, c, rfl, hin⟩ := hv
  have hmf : ∀ (fn : Fn) (first cap : Array Value) (w : World), (Instr.makeFunc fn first cap).run Tryd.prog w = .ok (.func fn first cap) w := fun _ _ _ _ => rfl
  have hb0 := (Below.refl w.heap.size w).alloc (Nat.le_refl _) (.cells #[.int .i64 n.kind, .int .u64 n.set.a, .int .u64 n.set.b, .int .u64 n.set.c, .int .u64 n.set.d, .slice a n.kids.length c, .int .i64 n.lo, .int .i64 n.hi] 27)
  have hq := Blk.new w 27 #[.int .i64 n.kind, .int .u64 n.set.a, .int .u64 n.set.b, .int .u64 n.set.c, .int .u64 n.set.d, .slice a n.kids.length c, .int .i64 n.lo, .int .i64 n.hi]
  obtain ⟨⟨y0, y1, y2, y3, y4, y5, y6, y7⟩, -⟩ := hq.c8
  have H := Lib.hid (And.intro hin (And.intro hq (And.intro hb0 (And.intro hI (And.intro hT hM)))))
  clear hin hb0 hq hI hT hM
  show Calls Tryd.prog 8 #[.agg #[.int .i64 n.kind, .int .u64 n.set.a, .int .u64 n.set.b, .int .u64 n.set.c, .int .u64 n.set.d, .slice a n.kids.length c, .int .i64 n.lo, .int .i64 n.hi]] w _
  go_enter Tryd.func8, Tryd.ntmps8
  go_wp2_with fail
  refine (right_any n _ _ ⟨a, c, rfl, H.out.1.below H.out.2.2.1⟩).mono ?_
  rintro e w1 ⟨rfl, bx⟩
  have hq1 := H.out.2.1.below bx H.out.2.1.lt
  have HX := Lib.hid (And.intro (H.out.2.2.1.trans (bx.mono H.out.2.2.1.size)) hq1)
  clear y0 y1 y2 y3 y4 y5 y6 y7 bx hq1
  cases hr : rightN n with
  | false =>
    have HR := Lib.hid hr
    clear hr
    go_wp2_with fail
    refine bodyPost_ret (results_tmp2 rfl _ _ _) rfl ?_
    exact ⟨by
      rw [textN_none (n := n) (fun h => by rw [HR.out] at h; exact absurd h.1 (by decide))]
      rfl, HX.out.1⟩
  | true =>
    have HR := Lib.hid hr
    clear hr
    go_upto_region 7 with (fail)
    have p1 := Blk.new w1 45 #[.func (.func 19) #[] #[vPtr (w1.heap.size + 1 + 1), vPtr (w1.heap.size + 1), vPtr (w1.heap.size + 1 + 1 + 1), vPtr w1.heap.size]]
    have p2 := Blk.new (w1.alloc (.cells #[.func (.func 19) #[] #[vPtr (w1.heap.size + 1 + 1), vPtr (w1.heap.size + 1), vPtr (w1.heap.size + 1 + 1 + 1), vPtr w1.heap.size]] 45)) 4 #[.bool true]
    have p3 := Blk.new ((w1.alloc (.cells #[.func (.func 19) #[] #[vPtr (w1.heap.size + 1 + 1), vPtr (w1.heap.size + 1), vPtr (w1.heap.size + 1 + 1 + 1), vPtr w1.heap.size]] 45)).alloc (.cells #[.bool true] 4)) 3 #[.int .i64 1024]
    have p4 := Blk.new (((w1.alloc (.cells #[.func (.func 19) #[] #[vPtr (w1.heap.size + 1 + 1), vPtr (w1.heap.size + 1), vPtr (w1.heap.size + 1 + 1 + 1), vPtr w1.heap.size]] 45)).alloc (.cells #[.bool true] 4)).alloc (.cells #[.int .i64 1024] 3)) 45 #[.func (.func 18) #[] #[vPtr w1.heap.size]]
    simp only [World.size_alloc] at p2 p3 p4
    have q1 := ((p1.alloc (.cells #[.bool true] 4)).alloc (.cells #[.int .i64 1024] 3)).alloc (.cells #[.func (.func 18) #[] #[vPtr w1.heap.size]] 45)
    have q2 := (p2.alloc (.cells #[.int .i64 1024] 3)).alloc (.cells #[.func (.func 18) #[] #[vPtr w1.heap.size]] 45)
    have q3 := p3.alloc (.cells #[.func (.func 18) #[] #[vPtr w1.heap.size]] 45)
    have hbb : Below w1.heap.size w1 ((((w1.alloc (.cells #[.func (.func 19) #[] #[vPtr (w1.heap.size + 1 + 1), vPtr (w1.heap.size + 1), vPtr (w1.heap.size + 1 + 1 + 1), vPtr w1.heap.size]] 45)).alloc (.cells #[.bool true] 4)).alloc (.cells #[.int .i64 1024] 3)).alloc (.cells #[.func (.func 18) #[] #[vPtr w1.heap.size]] 45)) :=
      ((((Below.refl _ w1).alloc (Nat.le_refl _) _).alloc (by simp) _).alloc (by simp; omega) _).alloc (by simp; omega) _
    have hws := HX.out.1.size
    have hvs := Vs.mk (W0 := w) q2 q3 p4 q1 (HX.out.1.trans (hbb.mono hws)) (by omega) (by omega)
    have hq2 := HX.out.2.below hbb HX.out.2.lt
    have V := Lib.hid hvs
    clear p1 p2 p3 p4 q1 q2 q3 hbb hvs
    obtain ⟨⟨y0, y1, y2, y3, y4, y5, y6, y7⟩, -⟩ := hq2.c8
    clear hq2
    obtain ⟨B, hB⟩ : ∃ B, w1.heap.size = B := ⟨_, rfl⟩
    change Code.wp _ _ _ _ ((((w1.alloc (.cells #[.func (.func 19) #[] #[vPtr (w1.heap.size + 1 + 1), vPtr (w1.heap.size + 1), vPtr (w1.heap.size + 1 + 1 + 1), vPtr w1.heap.size]] 45)).alloc (.cells #[.bool true] 4)).alloc (.cells #[.int .i64 1024] 3)).alloc (.cells #[.func (.func 18) #[] #[vPtr w1.heap.size]] 45))
    generalize ((((w1.alloc (.cells #[.func (.func 19) #[] #[vPtr (w1.heap.size + 1 + 1), vPtr (w1.heap.size + 1), vPtr (w1.heap.size + 1 + 1 + 1), vPtr w1.heap.size]] 45)).alloc (.cells #[.bool true] 4)).alloc (.cells #[.int .i64 1024] 3)).alloc (.cells #[.func (.func 18) #[] #[vPtr w1.heap.size]] 45)) = w2 at *
    rw [hB] at V ⊢
    clear hB
    have dt := V.out.tel.cell 0
    simp only [List.getElem?_toArray, List.getElem?_cons_zero] at dt
    have htell := tell_any w (B + 1) (B + 1 + 1) (B + 1 + 1 + 1) B H.out.2.2.2.2.1 H.out.2.2.2.2.2 n a c 0 1024 w2 V.out H.out.1 HR.out H.out.2.2.2.1 hn (Nat.le_refl _) (by omega)
    have HT := Lib.hid htell
    clear htell hmf
    go_wp2_with fail
    refine HT.out.mono ?_
    rintro e w3 ⟨t, g', r', rfl, hq⟩
    clear dt y0 y1 y2 y3 y4 y5 y6 y7 HT
    have hz : (bsT t).size = t.length := bsT_size t
    have hzl : t.length ≤ 2500 * 1024 := by have := hq.len; omega
    obtain ⟨ts, hts⟩ : ∃ ts, bsT t = ts := ⟨_, rfl⟩
    rw [hts] at hz ⊢
    have hb3 : Below w.heap.size w w3 := hq.st.base
    have hn3 := hq.no
    have hy3 := hq.yes
    have dg := hq.st.good.cell 0
    simp only [List.getElem?_toArray, List.getElem?_cons_zero] at dg
    have HQ := Lib.hid (And.intro hts (And.intro hb3 (And.intro hy3 hn3)))
    clear hts hb3 hy3 hn3 hq
    cases g' with
    | false =>
      go_wp2_with fail
      refine bodyPost_ret (results_tmp2 rfl _ _ _) rfl ?_
      exact ⟨by
        rw [textN_none (n := n) (fun h => (by first | exact HQ.out.2.2.2 trivial | exact HQ.out.2.2.2 rfl : ¬ (0 + nestN n ≤ 16 ∧ (tellN n).length ≤ 256)) ⟨by have := h.2.2; omega, h.2.1⟩)]
        rfl, HQ.out.2.1⟩
    | true =>
      by_cases h1 : t.length ≤ 256
      · have k1 : decide ((256 : Int) < (ts.size : Int)) = false := decide_eq_false (by omega)
        have k1' : decide (256 < ts.size) = false := decide_eq_false (by omega)
        go_wp2_with fail
        refine bodyPost_ret (results_tmp2 rfl _ _ _) rfl ?_
        have hy := (by first | exact HQ.out.2.2.1 trivial | exact HQ.out.2.2.1 rfl : t = tellN n ∧ 0 + nestN n ≤ 16)
        exact ⟨by
          rw [textN_some HR.out (by rw [← hy.1]; exact h1) (by have := hy.2; omega), ← hy.1, ← HQ.out.1]
          rfl, HQ.out.2.1⟩
      · have k1 : decide ((256 : Int) < (ts.size : Int)) = true := decide_eq_true (by omega)
        have k1' : decide (256 < ts.size) = true := decide_eq_true (by omega)
        go_wp2_with fail
        refine bodyPost_ret (results_tmp2 rfl _ _ _) rfl ?_
        have hy := (by first | exact HQ.out.2.2.1 trivial | exact HQ.out.2.2.1 rfl : t = tellN n ∧ 0 + nestN n ≤ 16)
        exact ⟨by
          rw [textN_none (n := n) (fun h => h1 (by rw [hy.1]; exact h.2.1))]
          rfl, HQ.out.2.1⟩
end Go.Proofs.YtpknglbpbodnbaaDoor
