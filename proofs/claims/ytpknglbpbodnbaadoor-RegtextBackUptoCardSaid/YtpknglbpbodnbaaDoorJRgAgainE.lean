/-
  The walk of RegtextAgain. Conditions: the library's table and the program's marks lie as laid.
  RegtextAgain at its row. Conditions: none but what each says.
-/
import Derived.Test.YtpknglbpbodnbaaDoorJRgWrk
import Derived.Test.YtpknglbpbodnbaaDoorJRgSame
import Derived.Test.YtpknglbpbodnbaaDoorJRgTO
namespace Go.Proofs.YtpknglbpbodnbaaDoor
set_option linter.unusedVariables false
set_option linter.unusedSimpArgs false
open Go.RowKit Go.Sort Cs Rg Go.ChangeShapes Go.WideShapes

/-- what is kept at every step -/
abbrev Kp (w w' : World) : Prop := Below w.heap.size w w' ∧ TabIn w' ∧ MarksIn w'
theorem Kp.go {w w' w2 : World} (h : Kp w w') (b : Below w'.heap.size w' w2) : Kp w w2 := ⟨h.1.trans (b.mono h.1.size), h.2.1.below b, h.2.2.below b⟩
set_option maxHeartbeats 8000000 in
set_option maxRecDepth 1000000 in
theorem again_any (s : ByteArray) (w : World) (hT : TabIn w) (hM : MarksIn w) : Calls Tryd.prog 5 #[.string s] w fun e w' => e = .returned (.bool true) ∧ Below w.heap.size w w' := by
  have H0 := Lib.hid (show Kp w w from ⟨Below.refl w.heap.size w, hT, hM⟩)
  by_cases hlen : 200 < s.size
  · have k1 : decide ((200 : Int) < (s.size : Int)) = true := decide_eq_true (by omega)
    have k1' : decide (200 < s.size) = true := decide_eq_true (by omega)
    clear hlen hT hM
    go_enter Tryd.func5, Tryd.ntmps5
    go_wp2_with fail
    refine (works_any w H0.out.2.1 H0.out.2.2).mono ?_
    rintro e w9 ⟨rfl, b9⟩
    have H9 := Lib.hid (H0.out.go b9)
    clear b9
    go_wp2_with fail
    go_ret
    exact ⟨rfl, H9.out.1⟩
  · have k1 : decide ((200 : Int) < (s.size : Int)) = false := decide_eq_false (by omega)
    have k1' : decide (200 < s.size) = false := decide_eq_false (by omega)
    have hs2 : s.size ≤ 200 := by omega
    clear hlen hT hM
    go_enter Tryd.func5, Tryd.ntmps5
    go_wp2_with fail
    refine (parse_any s w H0.out.2.1).mono ?_
    rintro e w1 ⟨b1, v, E, x, rfl, ⟨a', c', rfl, hnd⟩, hyes, hno⟩
    have H1 := Lib.hid (H0.out.go b1)
    clear b1
    cases hp : parseN (natsOf s) with
    | none =>
      have hE := hno hp
      rw [hp] at hnd
      simp only [hp, Option.getD_none]
      have hin := NdP.in_ _ hnd
      have kE : (E == 0) = false := by rw [beq_eq_false_iff_ne]; exact hE
      have kE2 : ¬ E = 0 := hE
      clear hp hyes hno hnd hE
      obtain ⟨z, hz⟩ : ∃ z, zeroN = z := ⟨_, rfl⟩
      have hz2 := in_zero
      have hz3 := size_zero
      rw [hz] at hz2 hz3
      simp only [Option.getD_none] at hin
      rw [hz] at hin ⊢
      have HZ := Lib.hid (And.intro hz2 hz3)
      clear hz2 hz3 hz
      have hn2 := Vr.new (c := c') (E := E) (x := x) hin
      have V1 := Lib.hid hn2.1
      have H2 := Lib.hid (H1.out.go hn2.2)
      clear hn2 H1
      unfold nodeV
      go_upto_region 4 with (fail)
      obtain ⟨nb, hnb⟩ : ∃ nb, w1.heap.size = nb := ⟨_, rfl⟩
      generalize (w1.alloc (.cells #[.int .i64 z.kind, .int .u64 z.set.a, .int .u64 z.set.b, .int .u64 z.set.c, .int .u64 z.set.d, .slice a' z.kids.length c', .int .i64 z.lo, .int .i64 z.hi] 27)).alloc (.cells #[.int .i64 E, .int .i64 x] 38) = w2 at *
      rw [hnb] at V1 ⊢
      clear hnb
      obtain ⟨⟨x0, x1, x2, x3, x4, x5, x6, x7⟩, -⟩ := V1.out.nd.c8
      obtain ⟨⟨y0, y1⟩, -⟩ := V1.out.ft.c2
      go_wp2_with fail
      refine (text14_any z _ w2 ⟨a', c', rfl, V1.out.inn⟩ HZ.out.1 (by rw [HZ.out.2]; omega) H2.out.2.1 H2.out.2.2).mono ?_
      rintro e w3 ⟨rfl, b3⟩
      have V2 := Lib.hid (V1.out.go b3)
      have H3 := Lib.hid (H2.out.go b3)
      clear x0 x1 x2 x3 x4 x5 x6 x7 y0 y1 b3 V1 H2
      obtain ⟨⟨y0, y1⟩, -⟩ := V2.out.ft.c2
      generalize bsT ((textN z).getD []) = S at *
      generalize (textN z).isSome = B at *
      go_wp2_with fail
      refine (works_any w3 H3.out.2.1 H3.out.2.2).mono ?_
      rintro e w9 ⟨rfl, b9⟩
      have H9 := Lib.hid (H3.out.go b9)
      clear b9
      go_wp2_with fail
      go_ret
      exact ⟨rfl, H9.out.1⟩
    | some n =>
      obtain ⟨rfl, rfl⟩ := hyes (by rw [hp]; rfl)
      rw [hp] at hnd
      simp only [hp, Option.getD_some]
      have hin := NdP.in_ _ hnd
      simp only [Option.getD_some] at hin
      have hsz := parseN_size (natsOf_bytes s) hp
      rw [natsOf_len] at hsz
      have HN := Lib.hid hsz
      clear hp hyes hno hnd hsz
      have hn2 := Vr.new (c := c') (E := 0) (x := 0) hin
      have V1 := Lib.hid hn2.1
      have H2 := Lib.hid (H1.out.go hn2.2)
      clear hn2 H1
      unfold nodeV
      go_upto_region 4 with (fail)
      obtain ⟨nb, hnb⟩ : ∃ nb, w1.heap.size = nb := ⟨_, rfl⟩
      generalize (w1.alloc (.cells #[.int .i64 n.kind, .int .u64 n.set.a, .int .u64 n.set.b, .int .u64 n.set.c, .int .u64 n.set.d, .slice a' n.kids.length c', .int .i64 n.lo, .int .i64 n.hi] 27)).alloc (.cells #[.int .i64 0, .int .i64 0] 38) = w2 at *
      rw [hnb] at V1 ⊢
      clear hnb
      obtain ⟨⟨x0, x1, x2, x3, x4, x5, x6, x7⟩, -⟩ := V1.out.nd.c8
      obtain ⟨⟨y0, y1⟩, -⟩ := V1.out.ft.c2
      go_wp2_with fail
      refine (text14_any n _ w2 ⟨a', c', rfl, V1.out.inn⟩ HN.out.2.1 (by have := HN.out.1; omega) H2.out.2.1 H2.out.2.2).mono ?_
      rintro e w3 ⟨rfl, b3⟩
      have V2 := Lib.hid (V1.out.go b3)
      have H3 := Lib.hid (H2.out.go b3)
      clear x0 x1 x2 x3 x4 x5 x6 x7 y0 y1 b3 V1 H2
      obtain ⟨⟨y0, y1⟩, -⟩ := V2.out.ft.c2
      cases ht : textN n with
      | none =>
        simp only [Option.getD_none, Option.isSome_none]
        clear ht
        go_wp2_with fail
        refine (works_any w3 H3.out.2.1 H3.out.2.2).mono ?_
        rintro e w9 ⟨rfl, b9⟩
        have H9 := Lib.hid (H3.out.go b9)
        clear b9
        go_wp2_with fail
        go_ret
        exact ⟨rfl, H9.out.1⟩
      | some t =>
        have hag := text_again HN.out.2.1 ht
        have HA := Lib.hid (And.intro hag ht)
        simp only [Option.getD_some, Option.isSome_some]
        obtain ⟨S, hS⟩ : ∃ S, bsT t = S := ⟨_, rfl⟩
        rw [hS] at HA ⊢
        have HS := Lib.hid hS
        clear hag ht hS
        go_wp2_with fail
        refine (parse_any S w3 H3.out.2.1).mono ?_
        rintro e w4 ⟨b4, v, E, x, rfl, hnd, hyes, -⟩
        obtain ⟨rfl, rfl⟩ := hyes (by rw [HA.out.1]; rfl)
        rw [HA.out.1] at hnd
        have hnd2 : NdV (fun b => w3.heap.size ≤ b) w4 v n := hnd
        clear hnd
        obtain ⟨a4, c4, rfl, hnd⟩ := hnd2
        have hin := NdP.in_ _ hnd
        have H1 := Lib.hid (H3.out.go b4)
        have V3 := Lib.hid (V2.out.go b4)
        clear hyes hnd b4 H3 V2 y0 y1
        have hn2 := Vr.new (c := c4) (E := 0) (x := 0) hin
        have U1 := Lib.hid hn2.1
        have V4 := Lib.hid (V3.out.go hn2.2)
        have H2 := Lib.hid (H1.out.go hn2.2)
        clear hn2 H1 V3
        unfold nodeV
        go_upto_region 8 with (fail)
        obtain ⟨nb4, hnb⟩ : ∃ nb, w4.heap.size = nb := ⟨_, rfl⟩
        generalize (w4.alloc (.cells #[.int .i64 n.kind, .int .u64 n.set.a, .int .u64 n.set.b, .int .u64 n.set.c, .int .u64 n.set.d, .slice a4 n.kids.length c4, .int .i64 n.lo, .int .i64 n.hi] 27)).alloc (.cells #[.int .i64 0, .int .i64 0] 38) = w5 at *
        rw [hnb] at U1 ⊢
        clear hnb
        obtain ⟨⟨x0, x1, x2, x3, x4, x5, x6, x7⟩, -⟩ := U1.out.nd.c8
        go_wp2_with fail
        refine (text14_any n _ w5 ⟨a4, c4, rfl, U1.out.inn⟩ HN.out.2.1 (by have := HN.out.1; omega) H2.out.2.1 H2.out.2.2).mono ?_
        rintro e w6 ⟨rfl, b6⟩
        rw [HA.out.2]
        simp only [Option.getD_some, Option.isSome_some]
        rw [HS.out]
        have V5 := Lib.hid (V4.out.go b6)
        have U2 := Lib.hid (U1.out.go b6)
        have H3 := Lib.hid (H2.out.go b6)
        clear x0 x1 x2 x3 x4 x5 x6 x7 b6 V4 U1 H2
        obtain ⟨⟨x0, x1, x2, x3, x4, x5, x6, x7⟩, -⟩ := U2.out.nd.c8
        obtain ⟨⟨z0, z1, z2, z3, z4, z5, z6, z7⟩, -⟩ := V5.out.nd.c8
        obtain ⟨⟨y0, y1⟩, -⟩ := U2.out.ft.c2
        go_wp2_with fail
        refine (refsame_any n n _ _ w6 ⟨a4, c4, rfl, U2.out.inn⟩ ⟨a', c', rfl, V5.out.inn⟩).mono ?_
        rintro e w7 ⟨rfl, b7⟩
        rw [decide_eq_true (rfl : n = n)]
        have H4 := Lib.hid (H3.out.go b7)
        clear b7 H3 x0 x1 x2 x3 x4 x5 x6 x7 z0 z1 z2 z3 z4 z5 z6 z7 y0 y1
        go_wp2_with fail
        refine (works_any w7 H4.out.2.1 H4.out.2.2).mono ?_
        rintro e w9 ⟨rfl, b9⟩
        have H9 := Lib.hid (H4.out.go b9)
        clear b9
        go_wp2_with fail
        go_ret
        exact ⟨rfl, H9.out.1⟩
end Go.Proofs.YtpknglbpbodnbaaDoor
namespace Go.Proofs.YtpknglbpbodnbaaDoor
set_option linter.unusedVariables false
open Go.RowKit Go.Sort Cs Rg Go.ChangeShapes Go.WideShapes Go.ChangeAt

theorem regtextAgainW.walk (s : ByteArray) (W : World) (hs : s.size ≤ maxLen) (hL : laidMet Tryd.prog Rows.regtextAgainRow.laid W) :
    Calls Tryd.prog 5 #[.string s] W fun e w' => e = .returned (.bool true) ∧ Below W.heap.size W w' :=
  again_any s W (tab14_in hL (by simp [Rows.regtextAgainRow])) (marks_in hL (by simp [Rows.regtextAgainRow]))
end Go.Proofs.YtpknglbpbodnbaaDoor
