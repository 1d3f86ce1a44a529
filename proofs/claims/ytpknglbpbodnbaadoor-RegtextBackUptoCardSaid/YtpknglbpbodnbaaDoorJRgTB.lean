/-
  The walk of RegtextTells. Conditions: the argument is a tree of fewer than 2^62 nodes; the library's table and the program's marks lie as laid.
  The walk of RegtextBack. Conditions: the arguments are trees of fewer than 2^62 nodes; the library's table and the program's marks lie as laid.
  RegtextTells and RegtextBack at their rows. Conditions: what comes in is of a bulk of 1048576 at most.
-/
import Derived.Test.YtpknglbpbodnbaaDoorJRgAgainE
import Derived.Test.YtpknglbpbodnbaaDoorJRgRefSetW
import Derived.Test.YtpknglbpbodnbaaDoorJRgRefSign
import Derived.Test.YtpknglbpbodnbaaDoorJRgSize
import Derived.Test.YtpknglbpbodnbaaDoorJRgTO
namespace Go.Proofs.YtpknglbpbodnbaaDoor
set_option linter.unusedVariables false
set_option linter.unusedSimpArgs false
open Go.RowKit Go.Sort Cs Rg Go.ChangeShapes Go.WideShapes

theorem great_no {n : Nd} (h : greatN n = false) : sizeN n ≤ 300 := by
  unfold greatN at h
  simp at h
  omega
set_option maxHeartbeats 8000000 in
set_option maxRecDepth 1000000 in
theorem tells_any (n : Nd) (v : Value) (s : Nat → Int) (b : Nat) (w : World) (hv : NdAt w v n) (hI : InN n) (hz : sizeN n ≤ 4611686018427387904) (hs : SetIn s) (hb : b < 256) (hT : TabIn w) (hM : MarksIn w) :
    Calls Tryd.prog 3 #[v, setV s, .int .u8 (b : Int)] w fun e w' => e = .returned (.bool true) ∧ Below w.heap.size w w' := by
  obtain ⟨a, c, rfl, hin⟩ := hv
  have K0 : Kp w w := ⟨Below.refl _ _, hT, hM⟩
  have b1 := (Below.refl w.heap.size w).alloc (Nat.le_refl _) (.cells #[.int .i64 n.kind, .int .u64 n.set.a, .int .u64 n.set.b, .int .u64 n.set.c, .int .u64 n.set.d, .slice a n.kids.length c, .int .i64 n.lo, .int .i64 n.hi] 27)
  have n1 := Blk.new w 27 #[.int .i64 n.kind, .int .u64 n.set.a, .int .u64 n.set.b, .int .u64 n.set.c, .int .u64 n.set.d, .slice a n.kids.length c, .int .i64 n.lo, .int .i64 n.hi]
  have s1 : (w.alloc (.cells #[.int .i64 n.kind, .int .u64 n.set.a, .int .u64 n.set.b, .int .u64 n.set.c, .int .u64 n.set.d, .slice a n.kids.length c, .int .i64 n.lo, .int .i64 n.hi] 27)).heap.size = w.heap.size + 1 := by simp
  have hs8 := hs
  obtain ⟨z0, z1, z2, z3, hz0, hz1, hz2, hz3⟩ : ∃ z0 z1 z2 z3, s 0 = z0 ∧ s 1 = z1 ∧ s 2 = z2 ∧ s 3 = z3 := ⟨_, _, _, _, rfl, rfl, rfl, rfl⟩
  have hsv : setV s = .agg #[.int .u64 z0, .int .u64 z1, .int .u64 z2, .int .u64 z3] := by rw [← hz0, ← hz1, ← hz2, ← hz3]
  have HSV := Lib.hid hsv
  rw [hsv]
  have HS := Lib.hid (And.intro hs hI)
  clear hsv hz0 hz1 hz2 hz3 hs hs8 hI hT hM
  unfold nodeV
  go_enter Tryd.func3, Tryd.ntmps3
  go_upto_region 1 with (fail)
  have K1 := K0.go b1
  have hin1 := hin.below b1
  generalize w.alloc (.cells #[.int .i64 n.kind, .int .u64 n.set.a, .int .u64 n.set.b, .int .u64 n.set.c, .int .u64 n.set.d, .slice a n.kids.length c, .int .i64 n.lo, .int .i64 n.hi] 27) = w1 at *
  have b2 := (Below.refl w1.heap.size w1).alloc (Nat.le_refl _) (.cells #[.int .u64 z0, .int .u64 z1, .int .u64 z2, .int .u64 z3] 24)
  have n2 := Blk.new w1 24 #[.int .u64 z0, .int .u64 z1, .int .u64 z2, .int .u64 z3]
  have K2 := Lib.hid (K1.go b2)
  have hin2 := hin1.below b2
  have n12 := n1.below b2 n1.lt
  rw [s1] at n2
  generalize w1.alloc (.cells #[.int .u64 z0, .int .u64 z1, .int .u64 z2, .int .u64 z3] 24) = w2 at *
  have HB := Lib.hid (And.intro n12 (And.intro n2 hin2))
  clear hin hin1 hin2 K0 K1 b1 b2 n1 n2 s1 n12
  obtain ⟨⟨x0, x1, x2, x3, x4, x5, x6, x7⟩, -⟩ := HB.out.1.c8
  go_wp2_with fail
  refine (great14_any n _ w2 ⟨a, c, rfl, HB.out.2.2⟩ hz).mono ?_
  rintro e w3 ⟨rfl, b3⟩
  have K3 := Lib.hid (K2.out.go b3)
  have HB3 := Lib.hid (And.intro (HB.out.1.below b3 HB.out.1.lt) (And.intro (HB.out.2.1.below b3 HB.out.2.1.lt) (HB.out.2.2.below b3)))
  clear x0 x1 x2 x3 x4 x5 x6 x7 b3 K2 HB hz
  cases hg : greatN n with
  | true =>
    clear hg
    go_wp2_with fail
    refine (works_any w3 K3.out.2.1 K3.out.2.2).mono ?_
    rintro e w9 ⟨rfl, b9⟩
    have H9 := Lib.hid (K3.out.go b9)
    clear b9
    go_wp2_with fail
    go_ret
    exact ⟨rfl, H9.out.1⟩
  | false =>
    have hsz := great_no hg
    clear hg
    obtain ⟨⟨x0, x1, x2, x3, x4, x5, x6, x7⟩, -⟩ := HB3.out.1.c8
    go_wp2_with fail
    refine (text14_any n _ w3 ⟨a, c, rfl, HB3.out.2.2⟩ HS.out.2 (by omega) K3.out.2.1 K3.out.2.2).mono ?_
    rintro e w4 ⟨rfl, b4⟩
    have K4 := Lib.hid (K3.out.go b4)
    have HB4 := Lib.hid (And.intro (HB3.out.1.below b4 HB3.out.1.lt) (And.intro (HB3.out.2.1.below b4 HB3.out.2.1.lt) (HB3.out.2.2.below b4)))
    clear x0 x1 x2 x3 x4 x5 x6 x7 b4 K3 HB3
    obtain ⟨⟨x0, x1, x2, x3, x4, x5, x6, x7⟩, -⟩ := HB4.out.1.c8
    have href := fun w hin => reftext_any n _ w ⟨a, c, rfl, hin⟩ HS.out.2 hsz
    obtain ⟨S, hS⟩ : ∃ S, bsT ((textN n).getD []) = S := ⟨_, rfl⟩
    obtain ⟨B, hB⟩ : ∃ B, (textN n).isSome = B := ⟨_, rfl⟩
    rw [hS, hB] at href ⊢
    have HR := Lib.hid href
    clear href hS hB
    go_wp2_with fail
    refine (HR.out w4 HB4.out.2.2).mono ?_
    rintro e w5 ⟨rfl, b5⟩
    have K5 := Lib.hid (K4.out.go b5)
    have n5 := HB4.out.2.1.below b5 HB4.out.2.1.lt
    clear x0 x1 x2 x3 x4 x5 x6 x7 b5 K4 HB4 HR
    go_upto_region 5 with (fail)
    obtain ⟨SS, hSS⟩ : ∃ S, bsT (setT (s4 s)) = S := ⟨_, rfl⟩
    obtain ⟨SB, hSB⟩ : ∃ S, bsT (byteT b) = S := ⟨_, rfl⟩
    have c1 := fun w (hT : TabIn w) => set14_any s w HS.out.1 hT
    have c2 := fun w => refset14_any s w HS.out.1
    have c3 := fun w => byte14_any b w hb
    have c4 := fun w => refbyte14_any b w hb
    rw [HSV.out] at c1 c2
    rw [hSS] at c1 c2
    rw [hSB] at c3 c4
    have C1 := Lib.hid c1
    have C2 := Lib.hid c2
    have C3 := Lib.hid c3
    have C4 := Lib.hid c4
    obtain ⟨sb, hsb⟩ : ∃ sb, w.heap.size + 1 = sb := ⟨_, rfl⟩
    rw [hsb] at n5 ⊢
    have g0 : ∀ d os, (Sort.grow (redrawn w5 d) os).cell? ⟨sb, 0, none⟩ = some (.int .u64 z0) := fun d os => ((below_regrown w5 d os).cell (p := ⟨sb, 0, none⟩) n5.lt).trans (n5.cell 0)
    have g1 : ∀ d os, (Sort.grow (redrawn w5 d) os).cell? ⟨sb, 1, none⟩ = some (.int .u64 z1) := fun d os => ((below_regrown w5 d os).cell (p := ⟨sb, 1, none⟩) n5.lt).trans (n5.cell 1)
    have g2 : ∀ d os, (Sort.grow (redrawn w5 d) os).cell? ⟨sb, 2, none⟩ = some (.int .u64 z2) := fun d os => ((below_regrown w5 d os).cell (p := ⟨sb, 2, none⟩) n5.lt).trans (n5.cell 2)
    have g3 : ∀ d os, (Sort.grow (redrawn w5 d) os).cell? ⟨sb, 3, none⟩ = some (.int .u64 z3) := fun d os => ((below_regrown w5 d os).cell (p := ⟨sb, 3, none⟩) n5.lt).trans (n5.cell 3)
    have hwr : IntKind.i64.wrap (b : Int) = b := IntWalk.i64_in _ (by omega)
    clear c1 c2 c3 c4 hSS hSB n5 hsb
    refine wp_region_quiet_below (by kernel_rfl) (by kernel_rfl) ?_
    repeat (go_big_quiet_step (fail))
    go_big_quiet_step ((go_at_call 10; exact Calls.regrown_of (C1.out _ (K5.out.2.1.below (below_regrown _ _ _)))))
    repeat (go_big_quiet_step (fail))
    go_big_quiet_step ((go_at_call 11; exact Calls.regrown_of (C2.out _)))
    repeat (go_big_quiet_step (fail))
    go_big_quiet_step ((go_at_call 12; exact Calls.regrown_of (C3.out _)))
    repeat (go_big_quiet_step (fail))
    go_big_quiet_step ((go_at_call 13; exact Calls.regrown_of (C4.out _)))
    repeat (go_big_quiet_step (fail))
    go_big_quiet_step ((go_at_call 7; exact Calls.regrown_of (works_any _ (K5.out.2.1.below (below_regrown _ _ _)) (K5.out.2.2.below (below_regrown _ _ _)))))
    repeat (go_big_quiet_step (fail))
    refine wpQuiet_nil ?_
    intro _ hw'
    obtain ⟨⟨dq, osq⟩, hw''⟩ := hw'
    subst hw''
    have b6 : Below w5.heap.size w5 (Sort.grow (redrawn w5 dq) osq) := below_regrown w5 dq osq
    have K6 := Lib.hid (K5.out.go b6)
    clear b6 g0 g1 g2 g3
    generalize Sort.grow (redrawn w5 dq) osq = w6 at *
    go_wp2_with fail
    go_ret
    exact ⟨rfl, K6.out.1⟩
end Go.Proofs.YtpknglbpbodnbaaDoor
namespace Go.Proofs.YtpknglbpbodnbaaDoor
set_option linter.unusedVariables false
set_option linter.unusedSimpArgs false
open Go.RowKit Go.Sort Cs Rg Go.ChangeShapes Go.WideShapes

/-- two trees' variables -/
structure Two (w' : World) (g h : Nat) (m n : Nd) (a : Option Addr) (c : Nat) (a2 : Option Addr) (c2 : Nat) : Prop where
  nd : Blk w' g 27 #[.int .i64 m.kind, .int .u64 m.set.a, .int .u64 m.set.b, .int .u64 m.set.c, .int .u64 m.set.d, .slice a m.kids.length c, .int .i64 m.lo, .int .i64 m.hi]
  inn : NdIn w' a m
  nd2 : Blk w' h 27 #[.int .i64 n.kind, .int .u64 n.set.a, .int .u64 n.set.b, .int .u64 n.set.c, .int .u64 n.set.d, .slice a2 n.kids.length c2, .int .i64 n.lo, .int .i64 n.hi]
  inn2 : NdIn w' a2 n
theorem Two.go {w' w2 : World} {g h : Nat} {m n : Nd} {a : Option Addr} {c : Nat} {a2 : Option Addr} {c2 : Nat} (t : Two w' g h m n a c a2 c2) (hb : Below w'.heap.size w' w2) : Two w2 g h m n a c a2 c2 :=
  ⟨t.nd.below hb t.nd.lt, t.inn.below hb, t.nd2.below hb t.nd2.lt, t.inn2.below hb⟩
theorem Two.new {w : World} {m n : Nd} {a : Option Addr} {c : Nat} {a2 : Option Addr} {c2 : Nat} (h1 : NdIn w a m) (h2 : NdIn w a2 n) :
    Two ((w.alloc (.cells #[.int .i64 m.kind, .int .u64 m.set.a, .int .u64 m.set.b, .int .u64 m.set.c, .int .u64 m.set.d, .slice a m.kids.length c, .int .i64 m.lo, .int .i64 m.hi] 27)).alloc (.cells #[.int .i64 n.kind, .int .u64 n.set.a, .int .u64 n.set.b, .int .u64 n.set.c, .int .u64 n.set.d, .slice a2 n.kids.length c2, .int .i64 n.lo, .int .i64 n.hi] 27)) w.heap.size (w.heap.size + 1) m n a c a2 c2 ∧
      Below w.heap.size w ((w.alloc (.cells #[.int .i64 m.kind, .int .u64 m.set.a, .int .u64 m.set.b, .int .u64 m.set.c, .int .u64 m.set.d, .slice a m.kids.length c, .int .i64 m.lo, .int .i64 m.hi] 27)).alloc (.cells #[.int .i64 n.kind, .int .u64 n.set.a, .int .u64 n.set.b, .int .u64 n.set.c, .int .u64 n.set.d, .slice a2 n.kids.length c2, .int .i64 n.lo, .int .i64 n.hi] 27)) := by
  have b0 := (Below.refl w.heap.size w).alloc (Nat.le_refl _) (.cells #[.int .i64 m.kind, .int .u64 m.set.a, .int .u64 m.set.b, .int .u64 m.set.c, .int .u64 m.set.d, .slice a m.kids.length c, .int .i64 m.lo, .int .i64 m.hi] 27)
  have n0 := Blk.new w 27 #[.int .i64 m.kind, .int .u64 m.set.a, .int .u64 m.set.b, .int .u64 m.set.c, .int .u64 m.set.d, .slice a m.kids.length c, .int .i64 m.lo, .int .i64 m.hi]
  have s0 : (w.alloc (.cells #[.int .i64 m.kind, .int .u64 m.set.a, .int .u64 m.set.b, .int .u64 m.set.c, .int .u64 m.set.d, .slice a m.kids.length c, .int .i64 m.lo, .int .i64 m.hi] 27)).heap.size = w.heap.size + 1 := by simp
  generalize w.alloc (.cells #[.int .i64 m.kind, .int .u64 m.set.a, .int .u64 m.set.b, .int .u64 m.set.c, .int .u64 m.set.d, .slice a m.kids.length c, .int .i64 m.lo, .int .i64 m.hi] 27) = w1 at *
  have b1 := (Below.refl w1.heap.size w1).alloc (Nat.le_refl _) (.cells #[.int .i64 n.kind, .int .u64 n.set.a, .int .u64 n.set.b, .int .u64 n.set.c, .int .u64 n.set.d, .slice a2 n.kids.length c2, .int .i64 n.lo, .int .i64 n.hi] 27)
  have n1 := Blk.new w1 27 #[.int .i64 n.kind, .int .u64 n.set.a, .int .u64 n.set.b, .int .u64 n.set.c, .int .u64 n.set.d, .slice a2 n.kids.length c2, .int .i64 n.lo, .int .i64 n.hi]
  rw [s0] at n1
  have hb := b0.trans (b1.mono (by omega))
  exact ⟨⟨n0.below b1 n0.lt, h1.below hb, n1, h2.below hb⟩, hb⟩
set_option maxHeartbeats 8000000 in
set_option maxRecDepth 1000000 in
theorem back_any (m n : Nd) (v v' : Value) (w : World) (hv : NdAt w v m) (hI : InN m) (hz : sizeN m ≤ 4611686018427387904) (hv' : NdAt w v' n) (hI' : InN n) (hz' : sizeN n ≤ 4611686018427387904) (hT : TabIn w) (hM : MarksIn w) :
    Calls Tryd.prog 4 #[v, v'] w fun e w' => e = .returned (.bool true) ∧ Below w.heap.size w w' := by
  obtain ⟨a, c, rfl, hin⟩ := hv
  obtain ⟨a2, c2, rfl, hin2⟩ := hv'
  have K0 : Kp w w := ⟨Below.refl _ _, hT, hM⟩
  have ht := Two.new (c := c) (c2 := c2) hin hin2
  have T1 := Lib.hid ht.1
  have K1 := Lib.hid (K0.go ht.2)
  have HI := Lib.hid (And.intro hI hI')
  clear hT hM hin hin2 ht K0 hI hI'
  unfold nodeV
  go_enter Tryd.func4, Tryd.ntmps4
  go_upto_region 1 with (fail)
  obtain ⟨h, hh⟩ : ∃ h, w.heap.size + 1 = h := ⟨_, rfl⟩
  generalize (w.alloc (.cells #[.int .i64 m.kind, .int .u64 m.set.a, .int .u64 m.set.b, .int .u64 m.set.c, .int .u64 m.set.d, .slice a m.kids.length c, .int .i64 m.lo, .int .i64 m.hi] 27)).alloc (.cells #[.int .i64 n.kind, .int .u64 n.set.a, .int .u64 n.set.b, .int .u64 n.set.c, .int .u64 n.set.d, .slice a2 n.kids.length c2, .int .i64 n.lo, .int .i64 n.hi] 27) = w1 at *
  rw [hh] at T1 ⊢
  clear hh
  obtain ⟨⟨x0, x1, x2, x3, x4, x5, x6, x7⟩, -⟩ := T1.out.nd.c8
  obtain ⟨⟨y0, y1, y2, y3, y4, y5, y6, y7⟩, -⟩ := T1.out.nd2.c8
  go_wp2_with fail
  refine (great14_any m _ w1 ⟨a, c, rfl, T1.out.inn⟩ hz).mono ?_
  rintro e w2 ⟨rfl, b2⟩
  have T2 := Lib.hid (T1.out.go b2)
  have K2 := Lib.hid (K1.out.go b2)
  clear x0 x1 x2 x3 x4 x5 x6 x7 y0 y1 y2 y3 y4 y5 y6 y7 b2 T1 K1
  cases hg1 : greatN m with
  | true =>
    go_wp2_with fail
    refine (works_any w2 K2.out.2.1 K2.out.2.2).mono ?_
    rintro e w9 ⟨rfl, b9⟩
    have H9 := Lib.hid (K2.out.go b9)
    clear b9
    go_wp2_with fail
    go_ret
    exact ⟨rfl, H9.out.1⟩
  | false =>
  have hsz := great_no hg1
  clear hg1
  obtain ⟨⟨x0, x1, x2, x3, x4, x5, x6, x7⟩, -⟩ := T2.out.nd.c8
  obtain ⟨⟨y0, y1, y2, y3, y4, y5, y6, y7⟩, -⟩ := T2.out.nd2.c8
  go_wp2_with fail
  refine (great14_any n _ w2 ⟨a2, c2, rfl, T2.out.inn2⟩ hz').mono ?_
  rintro e w3 ⟨rfl, b3⟩
  have T3 := Lib.hid (T2.out.go b3)
  have K3 := Lib.hid (K2.out.go b3)
  clear x0 x1 x2 x3 x4 x5 x6 x7 y0 y1 y2 y3 y4 y5 y6 y7 b3 T2 K2
  cases hg2 : greatN n with
  | true =>
    go_wp2_with fail
    refine (works_any w3 K3.out.2.1 K3.out.2.2).mono ?_
    rintro e w9 ⟨rfl, b9⟩
    have H9 := Lib.hid (K3.out.go b9)
    clear b9
    go_wp2_with fail
    go_ret
    exact ⟨rfl, H9.out.1⟩
  | false =>
  have hsz2 := great_no hg2
  clear hg2 hz hz'
  obtain ⟨⟨x0, x1, x2, x3, x4, x5, x6, x7⟩, -⟩ := T3.out.nd.c8
  obtain ⟨⟨y0, y1, y2, y3, y4, y5, y6, y7⟩, -⟩ := T3.out.nd2.c8
  go_wp2_with fail
  refine (text14_any m _ w3 ⟨a, c, rfl, T3.out.inn⟩ HI.out.1 (by omega) K3.out.2.1 K3.out.2.2).mono ?_
  rintro e w4 ⟨rfl, b4⟩
  have T4 := Lib.hid (T3.out.go b4)
  have K4 := Lib.hid (K3.out.go b4)
  clear x0 x1 x2 x3 x4 x5 x6 x7 y0 y1 y2 y3 y4 y5 y6 y7 b4 T3 K3
  obtain ⟨S, hS⟩ : ∃ S, bsT ((textN m).getD []) = S := ⟨_, rfl⟩
  obtain ⟨B, hB⟩ : ∃ B, (textN m).isSome = B := ⟨_, rfl⟩
  rw [hS, hB]
  have HS := Lib.hid (And.intro hS hB)
  clear hS hB
  obtain ⟨⟨x0, x1, x2, x3, x4, x5, x6, x7⟩, -⟩ := T4.out.nd.c8
  obtain ⟨⟨y0, y1, y2, y3, y4, y5, y6, y7⟩, -⟩ := T4.out.nd2.c8
  go_wp2_with fail
  refine (text14_any n _ w4 ⟨a2, c2, rfl, T4.out.inn2⟩ HI.out.2 (by omega) K4.out.2.1 K4.out.2.2).mono ?_
  rintro e w5 ⟨rfl, b5⟩
  have T5 := Lib.hid (T4.out.go b5)
  have K5 := Lib.hid (K4.out.go b5)
  clear x0 x1 x2 x3 x4 x5 x6 x7 y0 y1 y2 y3 y4 y5 y6 y7 b5 T4 K4
  obtain ⟨S2, hS2⟩ : ∃ S, bsT ((textN n).getD []) = S := ⟨_, rfl⟩
  obtain ⟨B2, hB2⟩ : ∃ B, (textN n).isSome = B := ⟨_, rfl⟩
  rw [hS2, hB2]
  have HS2 := Lib.hid (And.intro hS2 hB2)
  clear hS2 hB2
  cases htm : textN m with
  | none =>
    have e1 := HS.out
    rw [htm] at e1
    have e2 : S = ⟨#[]⟩ := e1.1.symm
    have e3 : B = false := e1.2.symm
    clear e1 htm HS
    subst e2 e3
    go_wp2_with fail
    refine (works_any w5 K5.out.2.1 K5.out.2.2).mono ?_
    rintro e w9 ⟨rfl, b9⟩
    have H9 := Lib.hid (K5.out.go b9)
    clear b9
    go_wp2_with fail
    go_ret
    exact ⟨rfl, H9.out.1⟩
  | some sm =>
  have e1 := HS.out
  rw [htm] at e1
  have e2 : bsT sm = S := e1.1
  have e3 : B = true := e1.2.symm
  have hag := text_again HI.out.1 htm
  rw [e2] at hag
  have HA := Lib.hid (And.intro hag (And.intro e2 htm))
  clear e1 e2 htm HS hag
  subst e3
  go_wp2_with fail
  refine (parse_any S w5 K5.out.2.1).mono ?_
  rintro e w6 ⟨b6, v, E, x, rfl, hnd, hyes, -⟩
  obtain ⟨rfl, rfl⟩ := hyes (by rw [HA.out.1]; rfl)
  rw [HA.out.1] at hnd
  have hnd2 : NdV (fun b => w5.heap.size ≤ b) w6 v m := hnd
  clear hnd
  obtain ⟨a4, c4, rfl, hnd⟩ := hnd2
  have hin := NdP.in_ _ hnd
  have T6 := Lib.hid (T5.out.go b6)
  have K6 := Lib.hid (K5.out.go b6)
  have hn2 := Vr.new (c := c4) (E := 0) (x := 0) hin
  have U1 := Lib.hid hn2.1
  have T7 := Lib.hid (T6.out.go hn2.2)
  have K7 := Lib.hid (K6.out.go hn2.2)
  clear hyes hnd b6 hn2 hin T5 T6 K5 K6
  unfold nodeV
  go_upto_region 8 with (fail)
  obtain ⟨nb4, hnb⟩ : ∃ nb, w6.heap.size = nb := ⟨_, rfl⟩
  generalize (w6.alloc (.cells #[.int .i64 m.kind, .int .u64 m.set.a, .int .u64 m.set.b, .int .u64 m.set.c, .int .u64 m.set.d, .slice a4 m.kids.length c4, .int .i64 m.lo, .int .i64 m.hi] 27)).alloc (.cells #[.int .i64 0, .int .i64 0] 38) = w7 at *
  rw [hnb] at U1 ⊢
  clear hnb
  obtain ⟨⟨r0, r1, r2, r3, r4, r5, r6, r7⟩, -⟩ := U1.out.nd.c8
  obtain ⟨⟨f0, f1⟩, -⟩ := U1.out.ft.c2
  obtain ⟨⟨x0, x1, x2, x3, x4, x5, x6, x7⟩, -⟩ := T7.out.nd.c8
  obtain ⟨⟨y0, y1, y2, y3, y4, y5, y6, y7⟩, -⟩ := T7.out.nd2.c8
  go_wp2_with fail
  refine (refsame_any m m _ _ w7 ⟨a4, c4, rfl, U1.out.inn⟩ ⟨a, c, rfl, T7.out.inn⟩).mono ?_
  rintro e w8 ⟨rfl, b8⟩
  rw [decide_eq_true (rfl : m = m)]
  clear r0 r1 r2 r3 r4 r5 r6 r7 f0 f1
  have T8 := Lib.hid (T7.out.go b8)
  have K8 := Lib.hid (K7.out.go b8)
  clear x0 x1 x2 x3 x4 x5 x6 x7 y0 y1 y2 y3 y4 y5 y6 y7 b8 T7 K7
  cases htn : textN n with
  | none =>
    have e1 := HS2.out
    rw [htn] at e1
    have e3 : B2 = false := e1.2.symm
    clear e1 htn HS2
    subst e3
    go_wp2_with fail
    refine (works_any w8 K8.out.2.1 K8.out.2.2).mono ?_
    rintro e w9 ⟨rfl, b9⟩
    have H9 := Lib.hid (K8.out.go b9)
    clear b9
    go_wp2_with fail
    go_ret
    exact ⟨rfl, H9.out.1⟩
  | some sn =>
  have e1 := HS2.out
  rw [htn] at e1
  have e2 : bsT sn = S2 := e1.1
  have e3 : B2 = true := e1.2.symm
  have hsame := text_same HI.out.1 HI.out.2 HA.out.2.2 htn
  have hby := bsT_eq (textN_bytes HI.out.1 HA.out.2.2).1 (textN_bytes HI.out.2 htn).1
  rw [hsame, HA.out.2.1, e2] at hby
  have hss : m = n → S = S2 := fun e => by
    have h1 := HA.out.2.2
    rw [e, htn] at h1
    rw [← HA.out.2.1, ← e2, Option.some.inj h1]
  clear e1 htn HS2 hsame e2
  subst e3
  obtain ⟨⟨x0, x1, x2, x3, x4, x5, x6, x7⟩, -⟩ := T8.out.nd.c8
  obtain ⟨⟨y0, y1, y2, y3, y4, y5, y6, y7⟩, -⟩ := T8.out.nd2.c8
  by_cases hmn : m = n
  · have hd : decide (m = n) = true := decide_eq_true hmn
    rw [hd] at hby
    have hSS : S = S2 := hss hmn
    have HD := Lib.hid hd
    clear hmn hd hss
    subst hSS
    clear hby
    go_wp2_with fail
    refine (refsame_any m n _ _ w8 ⟨a, c, rfl, T8.out.inn⟩ ⟨a2, c2, rfl, T8.out.inn2⟩).mono ?_
    rintro e w9 ⟨rfl, b9⟩
    rw [HD.out]
    have T9 := Lib.hid (T8.out.go b9)
    have K9 := Lib.hid (K8.out.go b9)
    clear x0 x1 x2 x3 x4 x5 x6 x7 y0 y1 y2 y3 y4 y5 y6 y7 b9 T8 K8
    go_wp2_with fail
    refine (works_any w9 K9.out.2.1 K9.out.2.2).mono ?_
    rintro e w9 ⟨rfl, b9⟩
    have H9 := Lib.hid (K9.out.go b9)
    clear b9
    go_wp2_with fail
    go_ret
    exact ⟨rfl, H9.out.1⟩
  · have hd : decide (m = n) = false := decide_eq_false hmn
    rw [hd] at hby
    have hSS : ¬ S = S2 := fun e => by rw [e] at hby; simp at hby
    have HD := Lib.hid hd
    clear hmn hd hss
    go_wp2_with fail
    refine (refsame_any m n _ _ w8 ⟨a, c, rfl, T8.out.inn⟩ ⟨a2, c2, rfl, T8.out.inn2⟩).mono ?_
    rintro e w9 ⟨rfl, b9⟩
    rw [HD.out]
    have T9 := Lib.hid (T8.out.go b9)
    have K9 := Lib.hid (K8.out.go b9)
    clear x0 x1 x2 x3 x4 x5 x6 x7 y0 y1 y2 y3 y4 y5 y6 y7 b9 T8 K8
    go_wp2_with fail
    refine (works_any w9 K9.out.2.1 K9.out.2.2).mono ?_
    rintro e w9 ⟨rfl, b9⟩
    have H9 := Lib.hid (K9.out.go b9)
    clear b9
    go_wp2_with fail
    go_ret
    exact ⟨rfl, H9.out.1⟩
end Go.Proofs.YtpknglbpbodnbaaDoor
namespace Go.Proofs.YtpknglbpbodnbaaDoor
set_option linter.unusedVariables false
open Go.RowKit Go.Sort Cs Rg Go.ChangeShapes Go.WideShapes Go.ChangeAt

set_option maxRecDepth 100000 in
theorem regtextTellsW.walkRaw {H : Type} (enc : TypeId × Value → H) (v0 v1 : Value) (a2 : Int) (W : World) {base base' : Nat} {d0 d1 : DataW H} {p0 p1 : List MemPlace}
    (wv0 : Value.okWide Tryd.prog W .any base 27 v0) (h0 : DataW.Trod enc Tryd.prog W 0 (fun _ => true) true 27 v0 d0 p0) (_lt0 : ∀ x ∈ p0, x.block < W.heap.size)
    (wv1 : Value.okWide Tryd.prog W .any base' 24 v1) (h1 : DataW.Trod enc Tryd.prog W 0 (fun _ => true) true 24 v1 d1 p1) (_lt1 : ∀ x ∈ p1, x.block < W.heap.size)
    (w2 : (Lit.int .u8 a2).wf = true) (hk : Rows.uptoBulk d0 ≤ 1048576) (hL : laidMet Tryd.prog Rows.regtextTellsUptoRow.laid W) :
    Calls Tryd.prog 3 #[v0, v1, .int .u8 a2] W fun e w' => e = .returned (.bool true) ∧ Below W.heap.size W w' := by
  obtain ⟨n, hn, hI, hz⟩ := open_node wv0 h0
  obtain ⟨s, hs, rfl⟩ := open_setV wv1 h1
  have hb : 0 ≤ a2 ∧ a2 < 256 := by
    simp [Lit.wf, IntKind.min, IntKind.max, IntKind.signed, IntKind.bits] at w2
    omega
  obtain ⟨b, rfl⟩ := Int.eq_ofNat_of_zero_le hb.1
  exact tells_any n v0 s b W hn hI (Nat.le_trans hz (Nat.le_trans hk (Nat.le_of_ble_eq_true rfl))) hs (by omega) (tab14_in hL (by simp [Rows.regtextTellsUptoRow])) (marks_in hL (by simp [Rows.regtextTellsUptoRow]))
set_option maxRecDepth 100000 in
theorem regtextBackW.walkRaw {H : Type} (enc : TypeId × Value → H) (v0 v1 : Value) (W : World) {base base' : Nat} {d0 d1 : DataW H} {p0 p1 : List MemPlace}
    (wv0 : Value.okWide Tryd.prog W .any base 27 v0) (h0 : DataW.Trod enc Tryd.prog W 0 (fun _ => true) true 27 v0 d0 p0) (_lt0 : ∀ x ∈ p0, x.block < W.heap.size)
    (wv1 : Value.okWide Tryd.prog W .any base' 27 v1) (h1 : DataW.Trod enc Tryd.prog W 0 (fun _ => true) true 27 v1 d1 p1) (_lt1 : ∀ x ∈ p1, x.block < W.heap.size)
    (hk : Rows.uptoBulk d0 ≤ 1048576) (hk1 : Rows.uptoBulk d1 ≤ 1048576) (hL : laidMet Tryd.prog Rows.regtextBackUptoRow.laid W) :
    Calls Tryd.prog 4 #[v0, v1] W fun e w' => e = .returned (.bool true) ∧ Below W.heap.size W w' := by
  obtain ⟨n, hn, hI, hz⟩ := open_node wv0 h0
  obtain ⟨m, hm, hJ, hy⟩ := open_node wv1 h1
  exact back_any n m v0 v1 W hn hI (Nat.le_trans hz (Nat.le_trans hk (Nat.le_of_ble_eq_true rfl))) hm hJ (Nat.le_trans hy (Nat.le_trans hk1 (Nat.le_of_ble_eq_true rfl))) (tab14_in hL (by simp [Rows.regtextBackUptoRow])) (marks_in hL (by simp [Rows.regtextBackUptoRow]))
end Go.Proofs.YtpknglbpbodnbaaDoor
