/-
  ProdTurns: the walk of the law. Conditions: the automata lie in memory; the table of powers lies as laid.
-/
import Derived.Test.YtpcoijjcjamgiaaDoorJPrTurns
import Derived.Test.YtpcoijjcjamgiaaDoorJWord
import Derived.Test.YtpcoijjcjamgiaaDoorJAuTwo
import Derived.Test.YtpcoijjcjamgiaaDoorJAuOpenT
import Derived.Test.YtpcoijjcjamgiaaDoorJMany
namespace Go.Proofs.YtpcoijjcjamgiaaDoor
set_option linter.unusedVariables false
set_option linter.unusedSimpArgs false
open Go.RowKit Go.Maps Go.Sort Go.ChangeShapes Go.WideShapes

def TurnCut (w : World) (l : List BoxE) (D : DfaI) (s7 s8 : Value) (W2 : World) : Prop := ∃ (p : Nat) (S : Int) (f k n : Option Addr) (F K M cf ck cn : Nat), s7 = .pointer (some ⟨p, 0, none⟩) ∧ s8 = .int .i64 0 ∧ Boxs w W2 (⟨p, #[.int .i64 S, .slice f F cf, .slice k K ck, .slice n M cn], D⟩ :: l)
set_option maxHeartbeats 8000000 in
set_option maxRecDepth 1000000 in
theorem law_turns (va vb : Value) (D E : DfaI) (w : World) (ha : DfaAt w va D) (hb : DfaAt w vb E) (hD : D.In) (hE : E.In) (hT : Pow10 w) :
    Calls Tryd.prog 5 #[va, vb] w fun e w' => e = .returned (.bool true) ∧ Below w.heap.size w w' := by
  obtain ⟨S1, f1, k1, n1, F1, K1, M1, cf1, ck1, cn1, hS, hF, hB, hM, rfl⟩ := ha.form
  obtain ⟨S2, f2, k2, n2, F2, K2, M2, cf2, ck2, cn2, hS', hF', hB', hM', rfl⟩ := hb.form
  have hM9 := hD.many
  have hM9' := hE.many
  rw [hM] at hM9
  rw [hM'] at hM9'
  have HI := Lib.hid (And.intro hD (And.intro hE (And.intro hM hM')))
  have hz0 : ∀ o, (w.alloc o).heap.size = w.heap.size + 1 := fun o => by simp
  have h1 := (Boxs.start w hT).push ha
  have h2 := h1.push (hb.below ((Below.refl w.heap.size w).alloc (Nat.le_refl _) _))
  rw [hz0] at h2
  have G := Lib.hid h2
  clear ha hb hT hD hE hF hB hM hF' hB' hM' hS hS' h1 h2
  obtain ⟨⟨y0, y1, y2, y3⟩, -⟩ := (G.out.get (List.Mem.tail _ (List.Mem.head _))).1.c4
  obtain ⟨⟨x0, x1, x2, x3⟩, -⟩ := (G.out.get (List.Mem.head _)).1.c4
  go_enter Tryd.func5, Tryd.ntmps5
  go_wp2_with fail
  clear hz0
  generalize (w.alloc (.cells #[.int .i64 S1, .slice f1 F1 cf1, .slice k1 K1 ck1, .slice n1 M1 cn1] 26)).alloc (.cells #[.int .i64 S2, .slice f2 F2 cf2, .slice k2 K2 ck2, .slice n2 M2 cn2] 26) = W at *
  refine (great_any _ D W (G.out.get (List.Mem.tail _ (List.Mem.head _))).2 HI.out.1).mono ?_
  rintro e w1 ⟨rfl, bx⟩
  have G' := Lib.hid (G.out.below bx)
  clear G bx y0 y1 y2 y3 x0 x1 x2 x3
  have G := G'
  clear G'
  obtain ⟨⟨y0, y1, y2, y3⟩, -⟩ := (G.out.get (List.Mem.tail _ (List.Mem.head _))).1.c4
  obtain ⟨⟨x0, x1, x2, x3⟩, -⟩ := (G.out.get (List.Mem.head _)).1.c4
  cases hg1 : greatD D with
  | true =>
    clear hg1
    go_wp2_with fail
    refine (prworks_any w1 G.out.T).mono ?_
    rintro e w' ⟨rfl, b'⟩
    go_wp2_with fail
    go_ret
    exact ⟨rfl, G.out.bl.trans (b'.mono G.out.bl.size)⟩
  | false =>
  go_wp2_with fail
  refine (great_any _ E w1 (G.out.get (List.Mem.head _)).2 HI.out.2.1).mono ?_
  rintro e w2 ⟨rfl, bx⟩
  have G' := Lib.hid (G.out.below bx)
  clear G bx y0 y1 y2 y3 x0 x1 x2 x3
  have G := G'
  clear G'
  obtain ⟨⟨y0, y1, y2, y3⟩, -⟩ := (G.out.get (List.Mem.tail _ (List.Mem.head _))).1.c4
  obtain ⟨⟨x0, x1, x2, x3⟩, -⟩ := (G.out.get (List.Mem.head _)).1.c4
  cases hg2 : greatD E with
  | true =>
    clear hg2
    go_wp2_with fail
    refine (prworks_any w2 G.out.T).mono ?_
    rintro e w' ⟨rfl, b'⟩
    go_wp2_with fail
    go_ret
    exact ⟨rfl, G.out.bl.trans (b'.mono G.out.bl.size)⟩
  | false =>
  by_cases h12 : 30 < M1
  · have q1 : decide (30 < (M1 : Int)) = true := decide_eq_true (by omega)
    go_wp2_with fail
    refine (prworks_any w2 G.out.T).mono ?_
    rintro e w' ⟨rfl, b'⟩
    go_wp2_with fail
    go_ret
    exact ⟨rfl, G.out.bl.trans (b'.mono G.out.bl.size)⟩
  have q1 : decide (30 < (M1 : Int)) = false := decide_eq_false (by omega)
  by_cases h13 : 30 < M2
  · have q2 : decide (30 < (M2 : Int)) = true := decide_eq_true (by omega)
    go_wp2_with fail
    refine (prworks_any w2 G.out.T).mono ?_
    rintro e w' ⟨rfl, b'⟩
    go_wp2_with fail
    go_ret
    exact ⟨rfl, G.out.bl.trans (b'.mono G.out.bl.size)⟩
  have q2 : decide (30 < (M2 : Int)) = false := decide_eq_false (by omega)
  go_wp2_with fail
  refine (dright_any _ D w2 (G.out.get (List.Mem.tail _ (List.Mem.head _))).2 HI.out.1).mono ?_
  rintro e w3 ⟨rfl, bx⟩
  have G' := Lib.hid (G.out.below bx)
  clear G bx y0 y1 y2 y3 x0 x1 x2 x3
  have G := G'
  clear G'
  obtain ⟨⟨y0, y1, y2, y3⟩, -⟩ := (G.out.get (List.Mem.tail _ (List.Mem.head _))).1.c4
  obtain ⟨⟨x0, x1, x2, x3⟩, -⟩ := (G.out.get (List.Mem.head _)).1.c4
  cases hr1 : rightD D with
  | false =>
    clear hr1
    go_wp2_with fail
    refine (prworks_any w3 G.out.T).mono ?_
    rintro e w' ⟨rfl, b'⟩
    go_wp2_with fail
    go_ret
    exact ⟨rfl, G.out.bl.trans (b'.mono G.out.bl.size)⟩
  | true =>
  go_wp2_with fail
  refine (dright_any _ E w3 (G.out.get (List.Mem.head _)).2 HI.out.2.1).mono ?_
  rintro e w4 ⟨rfl, bx⟩
  have G' := Lib.hid (G.out.below bx)
  clear G bx y0 y1 y2 y3 x0 x1 x2 x3
  have G := G'
  clear G'
  obtain ⟨⟨y0, y1, y2, y3⟩, -⟩ := (G.out.get (List.Mem.tail _ (List.Mem.head _))).1.c4
  obtain ⟨⟨x0, x1, x2, x3⟩, -⟩ := (G.out.get (List.Mem.head _)).1.c4
  cases hr2 : rightD E with
  | false =>
    clear hr2
    go_wp2_with fail
    refine (prworks_any w4 G.out.T).mono ?_
    rintro e w' ⟨rfl, b'⟩
    go_wp2_with fail
    go_ret
    exact ⟨rfl, G.out.bl.trans (b'.mono G.out.bl.size)⟩
  | true =>
  have hP := turnsP (rightD_iff.1 hr1) (rightD_iff.1 hr2) (by rw [HI.out.2.2.1]; omega) (by rw [HI.out.2.2.2]; omega)
  have HP := Lib.hid hP
  clear hP hr1 hr2 hg1 hg2
  go_wp2_with fail
  refine (and_any _ _ D E w4 (G.out.get (List.Mem.tail _ (List.Mem.head _))).2 (G.out.get (List.Mem.head _)).2 HI.out.1 HI.out.2.1 G.out.T).mono ?_
  rintro e w5 ⟨rv, rfl, ho, bx⟩
  rw [HP.out.e1]
  have hd := ho.at_
  obtain ⟨S5, f5, k5, n5, F5, K5, M5, cf5, ck5, cn5, -, -, -, -, rfl⟩ := hd.form
  have h0 := (G.out.below bx).push hd
  have G' := Lib.hid h0
  obtain ⟨p5, hpp5⟩ : ∃ p, w5.heap.size = p := ⟨_, rfl⟩
  clear G bx ho hd h0
  try clear y0 y1 y2 y3
  try clear x0 x1 x2 x3
  have G := G'
  clear G'
  go_wp2_with fail
  generalize w5.alloc (.cells #[.int .i64 S5, .slice f5 F5 cf5, .slice k5 K5 ck5, .slice n5 M5 cn5] 26) = V5 at *
  try rw [hpp5] at G
  try rw [hpp5]
  clear hpp5
  obtain ⟨lst, hlst⟩ : ∃ l : List BoxE, l = [⟨p5, #[.int .i64 S5, .slice f5 F5 cf5, .slice k5 K5 ck5, .slice n5 M5 cn5], (bothD andB D E)⟩, ⟨w.heap.size + 1, #[.int .i64 S2, .slice f2 F2 cf2, .slice k2 K2 ck2, .slice n2 M2 cn2], E⟩, ⟨w.heap.size, #[.int .i64 S1, .slice f1 F1 cf1, .slice k1 K1 ck1, .slice n1 M1 cn1], D⟩] := ⟨_, rfl⟩
  have GL := Lib.hid hlst
  have G0 := G
  rw [← hlst] at G0
  clear hlst
  obtain ⟨⟨y0, y1, y2, y3⟩, -⟩ := (G.out.get (List.Mem.tail _ (List.Mem.tail _ (List.Mem.head _)))).1.c4
  obtain ⟨⟨x0, x1, x2, x3⟩, -⟩ := (G.out.get (List.Mem.tail _ (List.Mem.head _))).1.c4
  go_cut [7, 8] (fun s7 s8 W2 => TurnCut w lst (bothD orB (notC D) (notC E)) s7 s8 W2)
  case first =>
    refine wp_region_T [] (by kernel_rfl) ?_
    intro V bb
    have lc : ∀ {p : Addr} {v : Value}, V5.cell? p = some v → ∀ d os, (Sort.grow (redrawn V d) os).cell? p = some v := fun {p v} hp d os => ((bb.trans ((below_regrown V d os).mono bb.size)).cell (World.block_lt_of_cell? V5 p hp)).trans hp
    have q0 := lc y0
    have q1 := lc y1
    have q2 := lc y2
    have q3 := lc y3
    have q4 := lc x0
    have q5 := lc x1
    have q6 := lc x2
    have q7 := lc x3
    clear lc
    clear y0 y1 y2 y3 x0 x1 x2 x3
    refine stepsQ [0, 2] (by kernel_rfl) (by kernel_rfl) (by kernel_rfl) (Grown.of_below (Below.refl _ _)) ?_
    simp only [atIdx, List.filterMap_cons, List.filterMap_nil, List.getElem?_toArray, List.getElem_toArray, List.getElem?_cons_zero, List.getElem?_cons_succ, List.getElem_cons_zero, List.getElem_cons_succ]
    iterate 2 (show wpQuiet _ _ _ _ (_ :: _) _; go_big_quiet_step (fail))
    refine wpQuiet_nil ?_
    show stepT _ _ _ _ _ _ _ _ _
    have GV := Lib.hid (G.out.below bb)
    have G0V := Lib.hid (G0.out.below bb)
    refine stepS2 (i := 1) (j := 8) rfl rfl (by kernel_rfl) ?_ ?_
    · intro K hK
      go_simp
      refine (not_any _ D V ((GV.out.below ((Below.refl V.heap.size V))).get (List.Mem.tail _ (List.Mem.tail _ (List.Mem.head _)))).2 HI.out.1 (GV.out.below ((Below.refl V.heap.size V))).T).mono ?_
      rintro e u1 ⟨rv1, rfl, hd1, bx1⟩
      have bn1 := ((Below.refl V.heap.size V)).trans (bx1.mono ((Below.refl V.heap.size V)).size)
      refine hK _ _ ⟨fun _ => Grown.of_below bn1, ?_⟩
      clear hK K
      refine stepS2 (i := 3) (j := 8) rfl rfl (by kernel_rfl) ?_ ?_
      · intro K hK
        go_simp
        refine (not_any _ E u1 ((GV.out.below (bn1)).get (List.Mem.tail _ (List.Mem.head _))).2 HI.out.2.1 (GV.out.below (bn1)).T).mono ?_
        rintro e u2 ⟨rv2, rfl, hd2, bx2⟩
        have bn2 := (bn1).trans (bx2.mono (bn1).size)
        refine hK _ _ ⟨fun _ => Grown.of_below bn2, ?_⟩
        clear hK K
        refine stepS2 (i := 4) (j := 8) rfl rfl (by kernel_rfl) ?_ ?_
        · intro K hK
          go_simp
          have hf1 := (hd1).below bx2
          have hf2 := hd2
          refine (or_any _ _ (notC D) (notC E) u2 hf1 hf2 (notC_in _) (notC_in _) (GV.out.below (bn2)).T).mono ?_
          rintro e u3 ⟨rv3, rfl, ho3, bx3⟩
          rw [HP.out.e2]
          have bn3 := (bn2).trans (bx3.mono (bn2).size)
          refine hK _ _ ⟨fun _ => Grown.of_below bn3, ?_⟩
          clear hK K
          refine stepsQ [5, 6, 7] (by kernel_rfl) (by kernel_rfl) (by kernel_rfl) (Grown.of_below (bn3)) ?_
          simp only [atIdx, List.filterMap_cons, List.filterMap_nil, List.getElem?_toArray, List.getElem_toArray, List.getElem?_cons_zero, List.getElem?_cons_succ, List.getElem_cons_zero, List.getElem_cons_succ]
          iterate 3 (show wpQuiet _ _ _ _ (_ :: _) _; go_big_quiet_step (fail))
          refine wpQuiet_nil ?_
          show stepT _ _ _ _ _ _ _ _ _
          refine stepS (i := 8) rfl (by kernel_rfl) ?_
          intro K hK
          go_simp
          have hq8 := Blk.new u3 26 #[.int .i64 0, .slice none 0 0, .slice none 0 0, .slice none 0 0]
          have ha8 := (Below.refl u3.heap.size u3).alloc (Nat.le_refl _) (.cells #[.int .i64 0, .slice none 0 0, .slice none 0 0, .slice none 0 0] 26)
          have hb8 := (bn3).trans (ha8.mono (bn3).size)
          have hz8 := (bn3).size
          refine hK _ _ ⟨fun _ => Grown.of_below hb8, ?_⟩
          clear hK K
          obtain ⟨p8, hp8⟩ : ∃ p, u3.heap.size = p := ⟨_, rfl⟩
          rw [hp8] at hq8 hz8 ⊢
          have HQ8 := Lib.hid (And.intro hq8 (And.intro ha8 hb8))
          clear hq8 ha8 hb8
          generalize u3.alloc (.cells #[.int .i64 0, .slice none 0 0, .slice none 0 0, .slice none 0 0] 26) = u8 at *
          have hd3 := ho3.at_
          obtain ⟨S7, f7, k7, n7, F7, K7, M7, cf7, ck7, cn7, -, -, -, -, rfl⟩ := hd3.form
          have hq := HQ8.out.1
          obtain ⟨⟨r0, r1, r2, r3⟩, f0, f1, f2, f3⟩ := hq.c4
          have hb4 := blk_set4 hq (.int .i64 S7) (.slice f7 F7 cf7) (.slice k7 K7 ck7) (.slice n7 M7 cn7)
          have ho4 := only_set4 u8 p8 (.int .i64 S7) (.slice f7 F7 cf7) (.slice k7 K7 ck7) (.slice n7 M7 cn7)
          have hbw := (HQ8.out.2.2).trans (ho4.below (B := V.heap.size) (HQ8.out.2.2).size (by first | exact hz8 | (simp; omega)))
          have hdz := hd3.below (HQ8.out.2.1.trans (ho4.below HQ8.out.2.1.size (by simp; omega)))
          have HZ := Lib.hid (Boxs.cons (G0V.out.below hbw) hb4 hdz)
          clear hb4 ho4 hdz hd3 ho3
          refine stepS (i := 9) rfl (by kernel_rfl) ?_
          intro K hK
          go_simp
          refine hK _ _ ⟨fun _ => Grown.of_below hbw, ?_⟩
          clear hK K
          refine stepS (i := 10) rfl (by kernel_rfl) ?_
          intro K hK
          go_simp
          refine hK _ _ ⟨fun _ => Grown.of_below hbw, ?_⟩
          clear hK K
          refine stepT_end (by kernel_rfl) ?_
          clear hbw r0 r1 r2 r3 f0 f1 f2 f3
          go_wp2_with fail
          go_meet
          exact ⟨p8, _, _, _, _, _, _, _, _, _, _, rfl, rfl, HZ.out⟩
        · intro K hK
          go_simp
          have hq8 := Blk.new u2 26 #[.int .i64 0, .slice none 0 0, .slice none 0 0, .slice none 0 0]
          have ha8 := (Below.refl u2.heap.size u2).alloc (Nat.le_refl _) (.cells #[.int .i64 0, .slice none 0 0, .slice none 0 0, .slice none 0 0] 26)
          have hb8 := (bn2).trans (ha8.mono (bn2).size)
          have hz8 := (bn2).size
          refine hK _ _ ⟨fun _ => Grown.of_below hb8, ?_⟩
          clear hK K
          obtain ⟨p8, hp8⟩ : ∃ p, u2.heap.size = p := ⟨_, rfl⟩
          rw [hp8] at hq8 hz8 ⊢
          have HQ8 := Lib.hid (And.intro hq8 (And.intro ha8 hb8))
          clear hq8 ha8 hb8
          generalize u2.alloc (.cells #[.int .i64 0, .slice none 0 0, .slice none 0 0, .slice none 0 0] 26) = u8 at *
          refine stepS (i := 4) rfl (by kernel_rfl) ?_
          intro K hK
          go_simp
          have hf1 := ((hd1).below bx2).below HQ8.out.2.1
          have hf2 := (hd2).below HQ8.out.2.1
          refine (or_any _ _ (notC D) (notC E) u8 hf1 hf2 (notC_in _) (notC_in _) (GV.out.below (HQ8.out.2.2)).T).mono ?_
          rintro e u3 ⟨rv3, rfl, ho3, bx3⟩
          rw [HP.out.e2]
          have bn3 := (HQ8.out.2.2).trans (bx3.mono (HQ8.out.2.2).size)
          refine hK _ _ ⟨fun _ => Grown.of_below bn3, ?_⟩
          clear hK K
          refine stepsQ [5, 6, 7] (by kernel_rfl) (by kernel_rfl) (by kernel_rfl) (Grown.of_below (bn3)) ?_
          simp only [atIdx, List.filterMap_cons, List.filterMap_nil, List.getElem?_toArray, List.getElem_toArray, List.getElem?_cons_zero, List.getElem?_cons_succ, List.getElem_cons_zero, List.getElem_cons_succ]
          iterate 3 (show wpQuiet _ _ _ _ (_ :: _) _; go_big_quiet_step (fail))
          refine wpQuiet_nil ?_
          show stepT _ _ _ _ _ _ _ _ _
          have hd3 := ho3.at_
          obtain ⟨S7, f7, k7, n7, F7, K7, M7, cf7, ck7, cn7, -, -, -, -, rfl⟩ := hd3.form
          have hq := ((HQ8.out.1).below bx3 (HQ8.out.1).lt)
          obtain ⟨⟨r0, r1, r2, r3⟩, f0, f1, f2, f3⟩ := hq.c4
          have hb4 := blk_set4 hq (.int .i64 S7) (.slice f7 F7 cf7) (.slice k7 K7 ck7) (.slice n7 M7 cn7)
          have ho4 := only_set4 u3 p8 (.int .i64 S7) (.slice f7 F7 cf7) (.slice k7 K7 ck7) (.slice n7 M7 cn7)
          have hbw := (bn3).trans (ho4.below (B := V.heap.size) (bn3).size (by first | exact hz8 | (simp; omega)))
          have hlt8 := (HQ8.out.1).lt
          have hdz := ho3 _ fun k hk => set4_block u3 p8 (.int .i64 S7) (.slice f7 F7 cf7) (.slice k7 K7 ck7) (.slice n7 M7 cn7) k (by omega)
          have HZ := Lib.hid (Boxs.cons (G0V.out.below hbw) hb4 hdz)
          clear hb4 ho4 hdz hd3 ho3
          refine stepS (i := 9) rfl (by kernel_rfl) ?_
          intro K hK
          go_simp
          refine hK _ _ ⟨fun _ => Grown.of_below hbw, ?_⟩
          clear hK K
          refine stepS (i := 10) rfl (by kernel_rfl) ?_
          intro K hK
          go_simp
          refine hK _ _ ⟨fun _ => Grown.of_below hbw, ?_⟩
          clear hK K
          refine stepT_end (by kernel_rfl) ?_
          clear hbw r0 r1 r2 r3 f0 f1 f2 f3
          go_wp2_with fail
          go_meet
          exact ⟨p8, _, _, _, _, _, _, _, _, _, _, rfl, rfl, HZ.out⟩
      · intro K hK
        go_simp
        have hq8 := Blk.new u1 26 #[.int .i64 0, .slice none 0 0, .slice none 0 0, .slice none 0 0]
        have ha8 := (Below.refl u1.heap.size u1).alloc (Nat.le_refl _) (.cells #[.int .i64 0, .slice none 0 0, .slice none 0 0, .slice none 0 0] 26)
        have hb8 := (bn1).trans (ha8.mono (bn1).size)
        have hz8 := (bn1).size
        refine hK _ _ ⟨fun _ => Grown.of_below hb8, ?_⟩
        clear hK K
        obtain ⟨p8, hp8⟩ : ∃ p, u1.heap.size = p := ⟨_, rfl⟩
        rw [hp8] at hq8 hz8 ⊢
        have HQ8 := Lib.hid (And.intro hq8 (And.intro ha8 hb8))
        clear hq8 ha8 hb8
        generalize u1.alloc (.cells #[.int .i64 0, .slice none 0 0, .slice none 0 0, .slice none 0 0] 26) = u8 at *
        refine stepS (i := 3) rfl (by kernel_rfl) ?_
        intro K hK
        go_simp
        refine (not_any _ E u8 ((GV.out.below (HQ8.out.2.2)).get (List.Mem.tail _ (List.Mem.head _))).2 HI.out.2.1 (GV.out.below (HQ8.out.2.2)).T).mono ?_
        rintro e u2 ⟨rv2, rfl, hd2, bx2⟩
        have bn2 := (HQ8.out.2.2).trans (bx2.mono (HQ8.out.2.2).size)
        refine hK _ _ ⟨fun _ => Grown.of_below bn2, ?_⟩
        clear hK K
        refine stepS (i := 4) rfl (by kernel_rfl) ?_
        intro K hK
        go_simp
        have hf1 := ((hd1).below HQ8.out.2.1).below bx2
        have hf2 := hd2
        refine (or_any _ _ (notC D) (notC E) u2 hf1 hf2 (notC_in _) (notC_in _) (GV.out.below (bn2)).T).mono ?_
        rintro e u3 ⟨rv3, rfl, ho3, bx3⟩
        rw [HP.out.e2]
        have bn3 := (bn2).trans (bx3.mono (bn2).size)
        refine hK _ _ ⟨fun _ => Grown.of_below bn3, ?_⟩
        clear hK K
        refine stepsQ [5, 6, 7] (by kernel_rfl) (by kernel_rfl) (by kernel_rfl) (Grown.of_below (bn3)) ?_
        simp only [atIdx, List.filterMap_cons, List.filterMap_nil, List.getElem?_toArray, List.getElem_toArray, List.getElem?_cons_zero, List.getElem?_cons_succ, List.getElem_cons_zero, List.getElem_cons_succ]
        iterate 3 (show wpQuiet _ _ _ _ (_ :: _) _; go_big_quiet_step (fail))
        refine wpQuiet_nil ?_
        show stepT _ _ _ _ _ _ _ _ _
        have hd3 := ho3.at_
        obtain ⟨S7, f7, k7, n7, F7, K7, M7, cf7, ck7, cn7, -, -, -, -, rfl⟩ := hd3.form
        have hq := ((((HQ8.out.1).below bx2 (HQ8.out.1).lt)).below bx3 (((HQ8.out.1).below bx2 (HQ8.out.1).lt)).lt)
        obtain ⟨⟨r0, r1, r2, r3⟩, f0, f1, f2, f3⟩ := hq.c4
        have hb4 := blk_set4 hq (.int .i64 S7) (.slice f7 F7 cf7) (.slice k7 K7 ck7) (.slice n7 M7 cn7)
        have ho4 := only_set4 u3 p8 (.int .i64 S7) (.slice f7 F7 cf7) (.slice k7 K7 ck7) (.slice n7 M7 cn7)
        have hbw := (bn3).trans (ho4.below (B := V.heap.size) (bn3).size (by first | exact hz8 | (simp; omega)))
        have hlt8 := (((HQ8.out.1).below bx2 (HQ8.out.1).lt)).lt
        have hdz := ho3 _ fun k hk => set4_block u3 p8 (.int .i64 S7) (.slice f7 F7 cf7) (.slice k7 K7 ck7) (.slice n7 M7 cn7) k (by omega)
        have HZ := Lib.hid (Boxs.cons (G0V.out.below hbw) hb4 hdz)
        clear hb4 ho4 hdz hd3 ho3
        refine stepS (i := 9) rfl (by kernel_rfl) ?_
        intro K hK
        go_simp
        refine hK _ _ ⟨fun _ => Grown.of_below hbw, ?_⟩
        clear hK K
        refine stepS (i := 10) rfl (by kernel_rfl) ?_
        intro K hK
        go_simp
        refine hK _ _ ⟨fun _ => Grown.of_below hbw, ?_⟩
        clear hK K
        refine stepT_end (by kernel_rfl) ?_
        clear hbw r0 r1 r2 r3 f0 f1 f2 f3
        go_wp2_with fail
        go_meet
        exact ⟨p8, _, _, _, _, _, _, _, _, _, _, rfl, rfl, HZ.out⟩
    · intro K hK
      go_simp
      have hq8 := Blk.new V 26 #[.int .i64 0, .slice none 0 0, .slice none 0 0, .slice none 0 0]
      have ha8 := (Below.refl V.heap.size V).alloc (Nat.le_refl _) (.cells #[.int .i64 0, .slice none 0 0, .slice none 0 0, .slice none 0 0] 26)
      have hb8 := ((Below.refl V.heap.size V)).trans (ha8.mono ((Below.refl V.heap.size V)).size)
      have hz8 := ((Below.refl V.heap.size V)).size
      refine hK _ _ ⟨fun _ => Grown.of_below hb8, ?_⟩
      clear hK K
      obtain ⟨p8, hp8⟩ : ∃ p, V.heap.size = p := ⟨_, rfl⟩
      rw [hp8] at hq8 hz8 ⊢
      have HQ8 := Lib.hid (And.intro hq8 (And.intro ha8 hb8))
      clear hq8 ha8 hb8
      generalize V.alloc (.cells #[.int .i64 0, .slice none 0 0, .slice none 0 0, .slice none 0 0] 26) = u8 at *
      refine stepS (i := 1) rfl (by kernel_rfl) ?_
      intro K hK
      go_simp
      refine (not_any _ D u8 ((GV.out.below (HQ8.out.2.2)).get (List.Mem.tail _ (List.Mem.tail _ (List.Mem.head _)))).2 HI.out.1 (GV.out.below (HQ8.out.2.2)).T).mono ?_
      rintro e u1 ⟨rv1, rfl, hd1, bx1⟩
      have bn1 := (HQ8.out.2.2).trans (bx1.mono (HQ8.out.2.2).size)
      refine hK _ _ ⟨fun _ => Grown.of_below bn1, ?_⟩
      clear hK K
      refine stepS (i := 3) rfl (by kernel_rfl) ?_
      intro K hK
      go_simp
      refine (not_any _ E u1 ((GV.out.below (bn1)).get (List.Mem.tail _ (List.Mem.head _))).2 HI.out.2.1 (GV.out.below (bn1)).T).mono ?_
      rintro e u2 ⟨rv2, rfl, hd2, bx2⟩
      have bn2 := (bn1).trans (bx2.mono (bn1).size)
      refine hK _ _ ⟨fun _ => Grown.of_below bn2, ?_⟩
      clear hK K
      refine stepS (i := 4) rfl (by kernel_rfl) ?_
      intro K hK
      go_simp
      have hf1 := (hd1).below bx2
      have hf2 := hd2
      refine (or_any _ _ (notC D) (notC E) u2 hf1 hf2 (notC_in _) (notC_in _) (GV.out.below (bn2)).T).mono ?_
      rintro e u3 ⟨rv3, rfl, ho3, bx3⟩
      rw [HP.out.e2]
      have bn3 := (bn2).trans (bx3.mono (bn2).size)
      refine hK _ _ ⟨fun _ => Grown.of_below bn3, ?_⟩
      clear hK K
      refine stepsQ [5, 6, 7] (by kernel_rfl) (by kernel_rfl) (by kernel_rfl) (Grown.of_below (bn3)) ?_
      simp only [atIdx, List.filterMap_cons, List.filterMap_nil, List.getElem?_toArray, List.getElem_toArray, List.getElem?_cons_zero, List.getElem?_cons_succ, List.getElem_cons_zero, List.getElem_cons_succ]
      iterate 3 (show wpQuiet _ _ _ _ (_ :: _) _; go_big_quiet_step (fail))
      refine wpQuiet_nil ?_
      show stepT _ _ _ _ _ _ _ _ _
      have hd3 := ho3.at_
      obtain ⟨S7, f7, k7, n7, F7, K7, M7, cf7, ck7, cn7, -, -, -, -, rfl⟩ := hd3.form
      have hq := ((((((HQ8.out.1).below bx1 (HQ8.out.1).lt)).below bx2 (((HQ8.out.1).below bx1 (HQ8.out.1).lt)).lt)).below bx3 (((((HQ8.out.1).below bx1 (HQ8.out.1).lt)).below bx2 (((HQ8.out.1).below bx1 (HQ8.out.1).lt)).lt)).lt)
      obtain ⟨⟨r0, r1, r2, r3⟩, f0, f1, f2, f3⟩ := hq.c4
      have hb4 := blk_set4 hq (.int .i64 S7) (.slice f7 F7 cf7) (.slice k7 K7 ck7) (.slice n7 M7 cn7)
      have ho4 := only_set4 u3 p8 (.int .i64 S7) (.slice f7 F7 cf7) (.slice k7 K7 ck7) (.slice n7 M7 cn7)
      have hbw := (bn3).trans (ho4.below (B := V.heap.size) (bn3).size (by first | exact hz8 | (simp; omega)))
      have hlt8 := (((((HQ8.out.1).below bx1 (HQ8.out.1).lt)).below bx2 (((HQ8.out.1).below bx1 (HQ8.out.1).lt)).lt)).lt
      have hdz := ho3 _ fun k hk => set4_block u3 p8 (.int .i64 S7) (.slice f7 F7 cf7) (.slice k7 K7 ck7) (.slice n7 M7 cn7) k (by omega)
      have HZ := Lib.hid (Boxs.cons (G0V.out.below hbw) hb4 hdz)
      clear hb4 ho4 hdz hd3 ho3
      refine stepS (i := 9) rfl (by kernel_rfl) ?_
      intro K hK
      go_simp
      refine hK _ _ ⟨fun _ => Grown.of_below hbw, ?_⟩
      clear hK K
      refine stepS (i := 10) rfl (by kernel_rfl) ?_
      intro K hK
      go_simp
      refine hK _ _ ⟨fun _ => Grown.of_below hbw, ?_⟩
      clear hK K
      refine stepT_end (by kernel_rfl) ?_
      clear hbw r0 r1 r2 r3 f0 f1 f2 f3
      go_wp2_with fail
      go_meet
      exact ⟨p8, _, _, _, _, _, _, _, _, _, _, rfl, rfl, HZ.out⟩
  case rest =>
    obtain ⟨p8, S7, f7, k7, n7, F7, K7, M7, cf7, ck7, cn7, rfl, rfl, h0⟩ := hcut
    rw [GL.out] at h0
    clear GL G0 G y0 y1 y2 y3 x0 x1 x2 x3
    have G := Lib.hid h0
    clear h0
    obtain ⟨⟨y0, y1, y2, y3⟩, -⟩ := (G.out.get (List.Mem.tail _ (List.Mem.tail _ (List.Mem.tail _ (List.Mem.head _))))).1.c4
    obtain ⟨⟨x0, x1, x2, x3⟩, -⟩ := (G.out.get (List.Mem.tail _ (List.Mem.tail _ (List.Mem.head _)))).1.c4
    go_wp2_with fail
    refine (less_any _ _ D E wc (G.out.get (List.Mem.tail _ (List.Mem.tail _ (List.Mem.tail _ (List.Mem.head _))))).2 (G.out.get (List.Mem.tail _ (List.Mem.tail _ (List.Mem.head _)))).2 HI.out.1 HI.out.2.1 G.out.T).mono ?_
    rintro e w6 ⟨rv, rfl, ho, bx⟩
    rw [HP.out.e1]
    have hd := ho.at_
    obtain ⟨S9, f9, k9, n9, F9, K9, M9, cf9, ck9, cn9, -, -, -, -, rfl⟩ := hd.form
    have h0 := (G.out.below bx).push hd
    have G' := Lib.hid h0
    obtain ⟨p9, hpp9⟩ : ∃ p, w6.heap.size = p := ⟨_, rfl⟩
    clear G bx ho hd h0
    try clear y0 y1 y2 y3
    try clear x0 x1 x2 x3
    have G := G'
    clear G'
    obtain ⟨⟨y0, y1, y2, y3⟩, -⟩ := (G.out.get (List.Mem.head _)).1.c4
    obtain ⟨⟨x0, x1, x2, x3⟩, -⟩ := (G.out.get (List.Mem.tail _ (List.Mem.tail _ (List.Mem.head _)))).1.c4
    go_wp2_with fail
    generalize w6.alloc (.cells #[.int .i64 S9, .slice f9 F9 cf9, .slice k9 K9 ck9, .slice n9 M9 cn9] 26) = V6 at *
    try rw [hpp9] at G
    try rw [hpp9]
    clear hpp9
    obtain ⟨cw, hcw, hcase⟩ : ∃ cw : Int, bothE (bothD lessB D E) (bothD andB D E) = cw ∧ ((cw = 0 ∧ eqD (bothD orB (bothD lessB D E) (bothD andB D E)) (ofD D) = true) ∨ cw = 16) := ⟨_, rfl, HP.out.whole⟩
    have HW := Lib.hid hcase
    clear hcase
    refine (or_any _ _ (bothD lessB D E) (bothD andB D E) V6 (G.out.get (List.Mem.head _)).2 (G.out.get (List.Mem.tail _ (List.Mem.tail _ (List.Mem.head _)))).2 (bothD_in _ _ _) (bothD_in _ _ _) G.out.T).mono ?_
    rintro e w7 ⟨rv, rfl, ho, bx⟩
    rw [hcw]
    have hd := ho.at_
    obtain ⟨S11, f11, k11, n11, F11, K11, M11, cf11, ck11, cn11, -, -, -, -, rfl⟩ := hd.form
    have h0 := (G.out.below bx).push hd
    have G' := Lib.hid h0
    obtain ⟨p11, hpp11⟩ : ∃ p, w7.heap.size = p := ⟨_, rfl⟩
    clear G bx ho hd h0
    try clear y0 y1 y2 y3
    try clear x0 x1 x2 x3
    have G := G'
    clear G'
    clear hcw
    obtain ⟨⟨y0, y1, y2, y3⟩, -⟩ := (G.out.get (List.Mem.tail _ (List.Mem.tail _ (List.Mem.tail _ (List.Mem.tail _ (List.Mem.tail _ (List.Mem.head _))))))).1.c4
    go_wp2_with fail
    generalize w7.alloc (.cells #[.int .i64 S11, .slice f11 F11 cf11, .slice k11 K11 ck11, .slice n11 M11 cn11] 26) = V7 at *
    try rw [hpp11] at G
    try rw [hpp11]
    clear hpp11
    refine (and_any _ _ D D V7 (G.out.get (List.Mem.tail _ (List.Mem.tail _ (List.Mem.tail _ (List.Mem.tail _ (List.Mem.tail _ (List.Mem.head _))))))).2 (G.out.get (List.Mem.tail _ (List.Mem.tail _ (List.Mem.tail _ (List.Mem.tail _ (List.Mem.tail _ (List.Mem.head _))))))).2 HI.out.1 HI.out.1 G.out.T).mono ?_
    rintro e w8 ⟨rv, rfl, ho, bx⟩
    rw [HP.out.e5]
    have hd := ho.at_
    obtain ⟨S13, f13, k13, n13, F13, K13, M13, cf13, ck13, cn13, -, -, -, -, rfl⟩ := hd.form
    have h0 := (G.out.below bx).push hd
    have G' := Lib.hid h0
    obtain ⟨p13, hpp13⟩ : ∃ p, w8.heap.size = p := ⟨_, rfl⟩
    clear G bx ho hd h0
    try clear y0 y1 y2 y3
    try clear x0 x1 x2 x3
    have G := G'
    clear G'
    obtain ⟨⟨y0, y1, y2, y3⟩, -⟩ := (G.out.get (List.Mem.tail _ (List.Mem.tail _ (List.Mem.tail _ (List.Mem.tail _ (List.Mem.tail _ (List.Mem.tail _ (List.Mem.head _)))))))).1.c4
    go_wp2_with fail
    generalize w8.alloc (.cells #[.int .i64 S13, .slice f13 F13 cf13, .slice k13 K13 ck13, .slice n13 M13 cn13] 26) = V8 at *
    try rw [hpp13] at G
    try rw [hpp13]
    clear hpp13
    refine (unlike_any _ _ D D V8 (G.out.get (List.Mem.tail _ (List.Mem.tail _ (List.Mem.tail _ (List.Mem.tail _ (List.Mem.tail _ (List.Mem.tail _ (List.Mem.head _)))))))).2 (G.out.get (List.Mem.tail _ (List.Mem.tail _ (List.Mem.tail _ (List.Mem.tail _ (List.Mem.tail _ (List.Mem.tail _ (List.Mem.head _)))))))).2 HI.out.1 HI.out.1 G.out.T).mono ?_
    rintro e w9 ⟨rv, rfl, ho, bx⟩
    rw [HP.out.e5]
    have hd := ho.at_
    obtain ⟨S15, f15, k15, n15, F15, K15, M15, cf15, ck15, cn15, -, hF15, -, -, rfl⟩ := hd.form
    obtain rfl : F15 = 1 := by rw [← hF15]; exact HP.out.none.1
    clear hF15
    have h0 := (G.out.below bx).push hd
    have G' := Lib.hid h0
    obtain ⟨p15, hpp15⟩ : ∃ p, w9.heap.size = p := ⟨_, rfl⟩
    clear G bx ho hd h0
    try clear y0 y1 y2 y3
    try clear x0 x1 x2 x3
    have G := G'
    clear G'
    obtain ⟨⟨y0, y1, y2, y3⟩, -⟩ := (G.out.get (List.Mem.tail _ (List.Mem.tail _ (List.Mem.tail _ (List.Mem.tail _ (List.Mem.tail _ (List.Mem.tail _ (List.Mem.tail _ (List.Mem.head _))))))))).1.c4
    obtain ⟨⟨x0, x1, x2, x3⟩, -⟩ := (G.out.get (List.Mem.head _)).1.c4
    go_wp2_with fail
    generalize w9.alloc (.cells #[.int .i64 S15, .slice f15 1 cf15, .slice k15 K15 ck15, .slice n15 M15 cn15] 26) = V9 at *
    try rw [hpp15] at G
    try rw [hpp15]
    clear hpp15
    clear y0 y1 y2 y3 x0 x1 x2 x3
    rcases HW.out with ⟨rfl, hwe⟩ | rfl
    · skip
      obtain ⟨⟨y0, y1, y2, y3⟩, -⟩ := (G.out.get (List.Mem.tail _ (List.Mem.tail _ (List.Mem.tail _ (List.Mem.tail _ (List.Mem.tail _ (List.Mem.tail _ (List.Mem.tail _ (List.Mem.head _))))))))).1.c4
      obtain ⟨⟨x0, x1, x2, x3⟩, -⟩ := (G.out.get (List.Mem.tail _ (List.Mem.tail _ (List.Mem.head _)))).1.c4
      refine wp_region_T [] (by kernel_rfl) ?_
      intro V bb
      have lc : ∀ {p : Addr} {v : Value}, V9.cell? p = some v → ∀ d os, (Sort.grow (redrawn V d) os).cell? p = some v := fun {p v} hp d os => ((bb.trans ((below_regrown V d os).mono bb.size)).cell (World.block_lt_of_cell? V9 p hp)).trans hp
      have q0 := lc y0
      have q1 := lc y1
      have q2 := lc y2
      have q3 := lc y3
      have q4 := lc x0
      have q5 := lc x1
      have q6 := lc x2
      have q7 := lc x3
      clear lc
      clear y0 y1 y2 y3 x0 x1 x2 x3
      refine stepsQ [0, 1, 2, 3, 4] (by kernel_rfl) (by kernel_rfl) (by kernel_rfl) (Grown.of_below (Below.refl _ _)) ?_
      simp only [atIdx, List.filterMap_cons, List.filterMap_nil, List.getElem?_toArray, List.getElem_toArray, List.getElem?_cons_zero, List.getElem?_cons_succ, List.getElem_cons_zero, List.getElem_cons_succ]
      iterate 5 (show wpQuiet _ _ _ _ (_ :: _) _; go_big_quiet_step (fail))
      refine wpQuiet_nil ?_
      show stepT _ _ _ _ _ _ _ _ _
      have GV := Lib.hid (G.out.below bb)
      clear G bb
      refine stepS (i := 5) rfl (by kernel_rfl) ?_
      intro K hK
      go_simp
      refine (of_any2 _ D V (GV.out.get (List.Mem.tail _ (List.Mem.tail _ (List.Mem.tail _ (List.Mem.tail _ (List.Mem.tail _ (List.Mem.tail _ (List.Mem.tail _ (List.Mem.head _))))))))).2 HI.out.1 GV.out.T).mono ?_
      rintro e u5 ⟨rv5, rfl, hd5, bx5, -⟩
      refine hK _ _ ⟨fun _ => Grown.of_below bx5, ?_⟩
      clear hK K
      refine stepS (i := 6) rfl (by kernel_rfl) ?_
      intro K hK
      go_simp
      refine (lsame_any _ _ _ _ u5 ((GV.out.below bx5).get (List.Mem.tail _ (List.Mem.tail _ (List.Mem.head _)))).2 hd5 (bothD_in _ _ _) (ofD_in _)).mono ?_
      rintro e u6 ⟨rfl, bx6⟩
      rw [hwe]
      have b6 := bx5.trans (bx6.mono bx5.size)
      refine hK _ _ ⟨fun _ => Grown.of_below b6, ?_⟩
      clear hK K
      refine stepsQ [7, 8, 9, 10, 11, 12, 13, 14, 15, 16] (by kernel_rfl) (by kernel_rfl) (by kernel_rfl) (Grown.of_below b6) ?_
      simp only [atIdx, List.filterMap_cons, List.filterMap_nil, List.getElem?_toArray, List.getElem_toArray, List.getElem?_cons_zero, List.getElem?_cons_succ, List.getElem_cons_zero, List.getElem_cons_succ]
      iterate 10 (show wpQuiet _ _ _ _ (_ :: _) _; go_big_quiet_step (fail))
      refine wpQuiet_nil ?_
      show stepT _ _ _ _ _ _ _ _ _
      refine stepT_end (by kernel_rfl) ?_
      have G := Lib.hid (GV.out.below b6)
      clear GV bx5 bx6 b6 hd5 q0 q1 q2 q3 q4 q5 q6 q7
      go_wp2_with fail
      obtain ⟨⟨y0, y1, y2, y3⟩, -⟩ := (G.out.get (List.Mem.tail _ (List.Mem.tail _ (List.Mem.tail _ (List.Mem.tail _ (List.Mem.tail _ (List.Mem.tail _ (List.Mem.tail _ (List.Mem.head _))))))))).1.c4
      obtain ⟨⟨x0, x1, x2, x3⟩, -⟩ := (G.out.get (List.Mem.tail _ (List.Mem.tail _ (List.Mem.tail _ (List.Mem.tail _ (List.Mem.tail _ (List.Mem.head _))))))).1.c4
      obtain ⟨⟨z0, z1, z2, z3⟩, -⟩ := (G.out.get (List.Mem.tail _ (List.Mem.tail _ (List.Mem.tail _ (List.Mem.tail _ (List.Mem.head _)))))).1.c4
      obtain ⟨⟨t0, t1, t2, t3⟩, -⟩ := (G.out.get (List.Mem.tail _ (List.Mem.head _))).1.c4
      obtain ⟨⟨s0, s1, s2, s3⟩, -⟩ := (G.out.get (List.Mem.head _)).1.c4
      obtain ⟨g15, o15, c15, he15, hg15⟩ := ((G.out.get (List.Mem.head _)).2.cut.1).get (n := 0) (by omega)
      cases he15
      rw [HP.out.none.2] at hg15
      rw [Nat.add_zero] at hg15
      refine wp_region_T [] (by kernel_rfl) ?_
      intro V' bb
      have lc : ∀ {p : Addr} {v : Value}, u6.cell? p = some v → ∀ d os, (Sort.grow (redrawn V' d) os).cell? p = some v := fun {p v} hp d os => ((bb.trans ((below_regrown V' d os).mono bb.size)).cell (World.block_lt_of_cell? u6 p hp)).trans hp
      have q0 := lc y0
      have q1 := lc y1
      have q2 := lc y2
      have q3 := lc y3
      have q4 := lc x0
      have q5 := lc x1
      have q6 := lc x2
      have q7 := lc x3
      have q8 := lc z0
      have q9 := lc z1
      have q10 := lc z2
      have q11 := lc z3
      have q12 := lc t0
      have q13 := lc t1
      have q14 := lc t2
      have q15 := lc t3
      have q16 := lc s0
      have q17 := lc s1
      have q18 := lc s2
      have q19 := lc s3
      have q20 := lc hg15
      clear lc
      clear y0 y1 y2 y3 x0 x1 x2 x3 z0 z1 z2 z3 t0 t1 t2 t3 s0 s1 s2 s3 hg15
      refine stepsQ [0, 2] (by kernel_rfl) (by kernel_rfl) (by kernel_rfl) (Grown.of_below (Below.refl _ _)) ?_
      simp only [atIdx, List.filterMap_cons, List.filterMap_nil, List.getElem?_toArray, List.getElem_toArray, List.getElem?_cons_zero, List.getElem?_cons_succ, List.getElem_cons_zero, List.getElem_cons_succ]
      iterate 2 (show wpQuiet _ _ _ _ (_ :: _) _; go_big_quiet_step (fail))
      refine wpQuiet_nil ?_
      show stepT _ _ _ _ _ _ _ _ _
      have GV := Lib.hid (G.out.below bb)
      clear G bb
      refine stepS (i := 1) rfl (by kernel_rfl) ?_
      intro K hK
      go_simp
      refine (not_any _ _ V' (GV.out.get (List.Mem.tail _ (List.Mem.tail _ (List.Mem.tail _ (List.Mem.tail _ (List.Mem.tail _ (List.Mem.head _))))))).2 (bothD_in _ _ _) GV.out.T).mono ?_
      rintro e v1 ⟨rv1, rfl, hd1, bx1⟩
      refine hK _ _ ⟨fun _ => Grown.of_below bx1, ?_⟩
      clear hK K
      refine stepS (i := 3) rfl (by kernel_rfl) ?_
      intro K hK
      go_simp
      refine (lsame_any _ _ _ _ v1 hd1 ((GV.out.below bx1).get (List.Mem.tail _ (List.Mem.tail _ (List.Mem.tail _ (List.Mem.tail _ (List.Mem.head _)))))).2 (notC_in _) (bothD_in _ _ _)).mono ?_
      rintro e v3 ⟨rfl, bx3⟩
      rw [HP.out.same]
      have b3 := bx1.trans (bx3.mono bx1.size)
      refine hK _ _ ⟨fun _ => Grown.of_below b3, ?_⟩
      clear hK K
      refine stepsQ [4, 5, 6] (by kernel_rfl) (by kernel_rfl) (by kernel_rfl) (Grown.of_below b3) ?_
      simp only [atIdx, List.filterMap_cons, List.filterMap_nil, List.getElem?_toArray, List.getElem_toArray, List.getElem?_cons_zero, List.getElem?_cons_succ, List.getElem_cons_zero, List.getElem_cons_succ]
      iterate 3 (show wpQuiet _ _ _ _ (_ :: _) _; go_big_quiet_step (fail))
      refine wpQuiet_nil ?_
      show stepT _ _ _ _ _ _ _ _ _
      refine stepS (i := 7) rfl (by kernel_rfl) ?_
      intro K hK
      go_simp
      refine (of_any2 _ D v3 ((GV.out.below b3).get (List.Mem.tail _ (List.Mem.tail _ (List.Mem.tail _ (List.Mem.tail _ (List.Mem.tail _ (List.Mem.tail _ (List.Mem.tail _ (List.Mem.head _))))))))).2 HI.out.1 (GV.out.below b3).T).mono ?_
      rintro e v7 ⟨rv7, rfl, hd7, bx7, -⟩
      have b7 := b3.trans (bx7.mono b3.size)
      refine hK _ _ ⟨fun _ => Grown.of_below b7, ?_⟩
      clear hK K
      refine stepS (i := 8) rfl (by kernel_rfl) ?_
      intro K hK
      go_simp
      refine (lsame_any _ _ _ _ v7 ((GV.out.below b7).get (List.Mem.tail _ (List.Mem.head _))).2 hd7 (bothD_in _ _ _) (ofD_in _)).mono ?_
      rintro e v8 ⟨rfl, bx8⟩
      rw [HP.out.self]
      have b8 := b7.trans (bx8.mono b7.size)
      refine hK _ _ ⟨fun _ => Grown.of_below b8, ?_⟩
      clear hK K
      refine stepsQ [9, 10, 11, 12, 13, 14, 15, 16, 17, 18, 21] (by kernel_rfl) (by kernel_rfl) (by kernel_rfl) (Grown.of_below b8) ?_
      simp only [atIdx, List.filterMap_cons, List.filterMap_nil, List.getElem?_toArray, List.getElem_toArray, List.getElem?_cons_zero, List.getElem?_cons_succ, List.getElem_cons_zero, List.getElem_cons_succ]
      iterate 11 (show wpQuiet _ _ _ _ (_ :: _) _; go_big_quiet_step (fail))
      refine wpQuiet_nil ?_
      show stepT _ _ _ _ _ _ _ _ _
      refine stepS (i := 19) rfl (by kernel_rfl) ?_
      intro K hK
      go_simp
      refine (not_any _ D v8 ((GV.out.below b8).get (List.Mem.tail _ (List.Mem.tail _ (List.Mem.tail _ (List.Mem.tail _ (List.Mem.tail _ (List.Mem.tail _ (List.Mem.tail _ (List.Mem.head _))))))))).2 HI.out.1 (GV.out.below b8).T).mono ?_
      rintro e v19 ⟨rv19, rfl, hd19, bx19⟩
      have b19 := b8.trans (bx19.mono b8.size)
      refine hK _ _ ⟨fun _ => Grown.of_below b19, ?_⟩
      clear hK K
      refine stepS (i := 20) rfl (by kernel_rfl) ?_
      intro K hK
      go_simp
      refine (not_any _ _ v19 hd19 (notC_in _) (GV.out.below b19).T).mono ?_
      rintro e v20 ⟨rv20, rfl, hd20, bx20⟩
      have b20 := b19.trans (bx20.mono b19.size)
      refine hK _ _ ⟨fun _ => Grown.of_below b20, ?_⟩
      clear hK K
      refine stepS (i := 22) rfl (by kernel_rfl) ?_
      intro K hK
      go_simp
      refine (of_any2 _ D v20 ((GV.out.below b20).get (List.Mem.tail _ (List.Mem.tail _ (List.Mem.tail _ (List.Mem.tail _ (List.Mem.tail _ (List.Mem.tail _ (List.Mem.tail _ (List.Mem.head _))))))))).2 HI.out.1 (GV.out.below b20).T).mono ?_
      rintro e v22 ⟨rv22, rfl, hd22, bx22, -⟩
      have b22 := b20.trans (bx22.mono b20.size)
      refine hK _ _ ⟨fun _ => Grown.of_below b22, ?_⟩
      clear hK K
      refine stepS (i := 23) rfl (by kernel_rfl) ?_
      intro K hK
      go_simp
      refine (lsame_any _ _ _ _ v22 (hd20.below bx22) hd22 (notC_in _) (ofD_in _)).mono ?_
      rintro e v23 ⟨rfl, bx23⟩
      rw [HP.out.dbl]
      have b23 := b22.trans (bx23.mono b22.size)
      refine hK _ _ ⟨fun _ => Grown.of_below b23, ?_⟩
      clear hK K
      refine stepsQ [24, 25] (by kernel_rfl) (by kernel_rfl) (by kernel_rfl) (Grown.of_below b23) ?_
      simp only [atIdx, List.filterMap_cons, List.filterMap_nil, List.getElem?_toArray, List.getElem_toArray, List.getElem?_cons_zero, List.getElem?_cons_succ, List.getElem_cons_zero, List.getElem_cons_succ]
      iterate 2 (show wpQuiet _ _ _ _ (_ :: _) _; go_big_quiet_step (fail))
      refine wpQuiet_nil ?_
      show stepT _ _ _ _ _ _ _ _ _
      refine stepS (i := 26) rfl (by kernel_rfl) ?_
      intro K hK
      go_simp
      refine (prworks_any v23 (GV.out.below b23).T).mono ?_
      rintro e v26 ⟨rfl, bx26⟩
      have b26 := b23.trans (bx26.mono b23.size)
      refine hK _ _ ⟨fun _ => Grown.of_below b26, ?_⟩
      clear hK K
      refine stepsQ [27] (by kernel_rfl) (by kernel_rfl) (by kernel_rfl) (Grown.of_below b26) ?_
      simp only [atIdx, List.filterMap_cons, List.filterMap_nil, List.getElem?_toArray, List.getElem_toArray, List.getElem?_cons_zero, List.getElem?_cons_succ, List.getElem_cons_zero, List.getElem_cons_succ]
      iterate 1 (show wpQuiet _ _ _ _ (_ :: _) _; go_big_quiet_step (fail))
      refine wpQuiet_nil ?_
      show stepT _ _ _ _ _ _ _ _ _
      refine stepS (i := 28) rfl (by kernel_rfl) ?_
      intro K hK
      go_simp
      refine hK _ _ ⟨fun _ => Grown.of_below b26, ?_⟩
      clear hK K
      refine stepT_end (by kernel_rfl) ?_
      have hfin := (GV.out.below b26).bl
      go_wp2_with fail
      go_ret
      exact ⟨rfl, hfin⟩
    · skip
      obtain ⟨⟨y0, y1, y2, y3⟩, -⟩ := (G.out.get (List.Mem.tail _ (List.Mem.tail _ (List.Mem.tail _ (List.Mem.tail _ (List.Mem.tail _ (List.Mem.tail _ (List.Mem.tail _ (List.Mem.head _))))))))).1.c4
      obtain ⟨⟨x0, x1, x2, x3⟩, -⟩ := (G.out.get (List.Mem.tail _ (List.Mem.tail _ (List.Mem.head _)))).1.c4
      refine wp_region_T [] (by kernel_rfl) ?_
      intro V bb
      have lc : ∀ {p : Addr} {v : Value}, V9.cell? p = some v → ∀ d os, (Sort.grow (redrawn V d) os).cell? p = some v := fun {p v} hp d os => ((bb.trans ((below_regrown V d os).mono bb.size)).cell (World.block_lt_of_cell? V9 p hp)).trans hp
      have q0 := lc y0
      have q1 := lc y1
      have q2 := lc y2
      have q3 := lc y3
      have q4 := lc x0
      have q5 := lc x1
      have q6 := lc x2
      have q7 := lc x3
      clear lc
      clear y0 y1 y2 y3 x0 x1 x2 x3
      refine stepsQ [0, 1, 2, 3, 4] (by kernel_rfl) (by kernel_rfl) (by kernel_rfl) (Grown.of_below (Below.refl _ _)) ?_
      simp only [atIdx, List.filterMap_cons, List.filterMap_nil, List.getElem?_toArray, List.getElem_toArray, List.getElem?_cons_zero, List.getElem?_cons_succ, List.getElem_cons_zero, List.getElem_cons_succ]
      iterate 5 (show wpQuiet _ _ _ _ (_ :: _) _; go_big_quiet_step (fail))
      refine wpQuiet_nil ?_
      show stepT _ _ _ _ _ _ _ _ _
      have GV := Lib.hid (G.out.below bb)
      clear G bb
      refine stepS (i := 5) rfl (by kernel_rfl) ?_
      intro K hK
      go_simp
      refine hK _ _ ⟨fun _ => Grown.of_below (Below.refl V.heap.size V), ?_⟩
      clear hK K
      refine stepS (i := 6) rfl (by kernel_rfl) ?_
      intro K hK
      go_simp
      refine hK _ _ ⟨fun _ => Grown.of_below (Below.refl V.heap.size V), ?_⟩
      clear hK K
      refine stepsQ [7, 8, 9, 10, 11, 12, 13, 14, 15, 16] (by kernel_rfl) (by kernel_rfl) (by kernel_rfl) (Grown.of_below (Below.refl V.heap.size V)) ?_
      simp only [atIdx, List.filterMap_cons, List.filterMap_nil, List.getElem?_toArray, List.getElem_toArray, List.getElem?_cons_zero, List.getElem?_cons_succ, List.getElem_cons_zero, List.getElem_cons_succ]
      iterate 10 (show wpQuiet _ _ _ _ (_ :: _) _; go_big_quiet_step (fail))
      refine wpQuiet_nil ?_
      show stepT _ _ _ _ _ _ _ _ _
      refine stepT_end (by kernel_rfl) ?_
      have G := GV
      clear GV q0 q1 q2 q3 q4 q5 q6 q7
      go_wp2_with fail
      obtain ⟨⟨y0, y1, y2, y3⟩, -⟩ := (G.out.get (List.Mem.tail _ (List.Mem.tail _ (List.Mem.tail _ (List.Mem.tail _ (List.Mem.tail _ (List.Mem.tail _ (List.Mem.tail _ (List.Mem.head _))))))))).1.c4
      obtain ⟨⟨x0, x1, x2, x3⟩, -⟩ := (G.out.get (List.Mem.tail _ (List.Mem.tail _ (List.Mem.tail _ (List.Mem.tail _ (List.Mem.tail _ (List.Mem.head _))))))).1.c4
      obtain ⟨⟨z0, z1, z2, z3⟩, -⟩ := (G.out.get (List.Mem.tail _ (List.Mem.tail _ (List.Mem.tail _ (List.Mem.tail _ (List.Mem.head _)))))).1.c4
      obtain ⟨⟨t0, t1, t2, t3⟩, -⟩ := (G.out.get (List.Mem.tail _ (List.Mem.head _))).1.c4
      obtain ⟨⟨s0, s1, s2, s3⟩, -⟩ := (G.out.get (List.Mem.head _)).1.c4
      obtain ⟨g15, o15, c15, he15, hg15⟩ := ((G.out.get (List.Mem.head _)).2.cut.1).get (n := 0) (by omega)
      cases he15
      rw [HP.out.none.2] at hg15
      rw [Nat.add_zero] at hg15
      refine wp_region_T [] (by kernel_rfl) ?_
      intro V' bb
      have lc : ∀ {p : Addr} {v : Value}, V.cell? p = some v → ∀ d os, (Sort.grow (redrawn V' d) os).cell? p = some v := fun {p v} hp d os => ((bb.trans ((below_regrown V' d os).mono bb.size)).cell (World.block_lt_of_cell? V p hp)).trans hp
      have q0 := lc y0
      have q1 := lc y1
      have q2 := lc y2
      have q3 := lc y3
      have q4 := lc x0
      have q5 := lc x1
      have q6 := lc x2
      have q7 := lc x3
      have q8 := lc z0
      have q9 := lc z1
      have q10 := lc z2
      have q11 := lc z3
      have q12 := lc t0
      have q13 := lc t1
      have q14 := lc t2
      have q15 := lc t3
      have q16 := lc s0
      have q17 := lc s1
      have q18 := lc s2
      have q19 := lc s3
      have q20 := lc hg15
      clear lc
      clear y0 y1 y2 y3 x0 x1 x2 x3 z0 z1 z2 z3 t0 t1 t2 t3 s0 s1 s2 s3 hg15
      refine stepsQ [0, 2] (by kernel_rfl) (by kernel_rfl) (by kernel_rfl) (Grown.of_below (Below.refl _ _)) ?_
      simp only [atIdx, List.filterMap_cons, List.filterMap_nil, List.getElem?_toArray, List.getElem_toArray, List.getElem?_cons_zero, List.getElem?_cons_succ, List.getElem_cons_zero, List.getElem_cons_succ]
      iterate 2 (show wpQuiet _ _ _ _ (_ :: _) _; go_big_quiet_step (fail))
      refine wpQuiet_nil ?_
      show stepT _ _ _ _ _ _ _ _ _
      have GV := Lib.hid (G.out.below bb)
      clear G bb
      refine stepS (i := 1) rfl (by kernel_rfl) ?_
      intro K hK
      go_simp
      refine (not_any _ _ V' (GV.out.get (List.Mem.tail _ (List.Mem.tail _ (List.Mem.tail _ (List.Mem.tail _ (List.Mem.tail _ (List.Mem.head _))))))).2 (bothD_in _ _ _) GV.out.T).mono ?_
      rintro e v1 ⟨rv1, rfl, hd1, bx1⟩
      refine hK _ _ ⟨fun _ => Grown.of_below bx1, ?_⟩
      clear hK K
      refine stepS (i := 3) rfl (by kernel_rfl) ?_
      intro K hK
      go_simp
      refine (lsame_any _ _ _ _ v1 hd1 ((GV.out.below bx1).get (List.Mem.tail _ (List.Mem.tail _ (List.Mem.tail _ (List.Mem.tail _ (List.Mem.head _)))))).2 (notC_in _) (bothD_in _ _ _)).mono ?_
      rintro e v3 ⟨rfl, bx3⟩
      rw [HP.out.same]
      have b3 := bx1.trans (bx3.mono bx1.size)
      refine hK _ _ ⟨fun _ => Grown.of_below b3, ?_⟩
      clear hK K
      refine stepsQ [4, 5, 6] (by kernel_rfl) (by kernel_rfl) (by kernel_rfl) (Grown.of_below b3) ?_
      simp only [atIdx, List.filterMap_cons, List.filterMap_nil, List.getElem?_toArray, List.getElem_toArray, List.getElem?_cons_zero, List.getElem?_cons_succ, List.getElem_cons_zero, List.getElem_cons_succ]
      iterate 3 (show wpQuiet _ _ _ _ (_ :: _) _; go_big_quiet_step (fail))
      refine wpQuiet_nil ?_
      show stepT _ _ _ _ _ _ _ _ _
      refine stepS (i := 7) rfl (by kernel_rfl) ?_
      intro K hK
      go_simp
      refine (of_any2 _ D v3 ((GV.out.below b3).get (List.Mem.tail _ (List.Mem.tail _ (List.Mem.tail _ (List.Mem.tail _ (List.Mem.tail _ (List.Mem.tail _ (List.Mem.tail _ (List.Mem.head _))))))))).2 HI.out.1 (GV.out.below b3).T).mono ?_
      rintro e v7 ⟨rv7, rfl, hd7, bx7, -⟩
      have b7 := b3.trans (bx7.mono b3.size)
      refine hK _ _ ⟨fun _ => Grown.of_below b7, ?_⟩
      clear hK K
      refine stepS (i := 8) rfl (by kernel_rfl) ?_
      intro K hK
      go_simp
      refine (lsame_any _ _ _ _ v7 ((GV.out.below b7).get (List.Mem.tail _ (List.Mem.head _))).2 hd7 (bothD_in _ _ _) (ofD_in _)).mono ?_
      rintro e v8 ⟨rfl, bx8⟩
      rw [HP.out.self]
      have b8 := b7.trans (bx8.mono b7.size)
      refine hK _ _ ⟨fun _ => Grown.of_below b8, ?_⟩
      clear hK K
      refine stepsQ [9, 10, 11, 12, 13, 14, 15, 16, 17, 18, 21] (by kernel_rfl) (by kernel_rfl) (by kernel_rfl) (Grown.of_below b8) ?_
      simp only [atIdx, List.filterMap_cons, List.filterMap_nil, List.getElem?_toArray, List.getElem_toArray, List.getElem?_cons_zero, List.getElem?_cons_succ, List.getElem_cons_zero, List.getElem_cons_succ]
      iterate 11 (show wpQuiet _ _ _ _ (_ :: _) _; go_big_quiet_step (fail))
      refine wpQuiet_nil ?_
      show stepT _ _ _ _ _ _ _ _ _
      refine stepS (i := 19) rfl (by kernel_rfl) ?_
      intro K hK
      go_simp
      refine (not_any _ D v8 ((GV.out.below b8).get (List.Mem.tail _ (List.Mem.tail _ (List.Mem.tail _ (List.Mem.tail _ (List.Mem.tail _ (List.Mem.tail _ (List.Mem.tail _ (List.Mem.head _))))))))).2 HI.out.1 (GV.out.below b8).T).mono ?_
      rintro e v19 ⟨rv19, rfl, hd19, bx19⟩
      have b19 := b8.trans (bx19.mono b8.size)
      refine hK _ _ ⟨fun _ => Grown.of_below b19, ?_⟩
      clear hK K
      refine stepS (i := 20) rfl (by kernel_rfl) ?_
      intro K hK
      go_simp
      refine (not_any _ _ v19 hd19 (notC_in _) (GV.out.below b19).T).mono ?_
      rintro e v20 ⟨rv20, rfl, hd20, bx20⟩
      have b20 := b19.trans (bx20.mono b19.size)
      refine hK _ _ ⟨fun _ => Grown.of_below b20, ?_⟩
      clear hK K
      refine stepS (i := 22) rfl (by kernel_rfl) ?_
      intro K hK
      go_simp
      refine (of_any2 _ D v20 ((GV.out.below b20).get (List.Mem.tail _ (List.Mem.tail _ (List.Mem.tail _ (List.Mem.tail _ (List.Mem.tail _ (List.Mem.tail _ (List.Mem.tail _ (List.Mem.head _))))))))).2 HI.out.1 (GV.out.below b20).T).mono ?_
      rintro e v22 ⟨rv22, rfl, hd22, bx22, -⟩
      have b22 := b20.trans (bx22.mono b20.size)
      refine hK _ _ ⟨fun _ => Grown.of_below b22, ?_⟩
      clear hK K
      refine stepS (i := 23) rfl (by kernel_rfl) ?_
      intro K hK
      go_simp
      refine (lsame_any _ _ _ _ v22 (hd20.below bx22) hd22 (notC_in _) (ofD_in _)).mono ?_
      rintro e v23 ⟨rfl, bx23⟩
      rw [HP.out.dbl]
      have b23 := b22.trans (bx23.mono b22.size)
      refine hK _ _ ⟨fun _ => Grown.of_below b23, ?_⟩
      clear hK K
      refine stepsQ [24, 25] (by kernel_rfl) (by kernel_rfl) (by kernel_rfl) (Grown.of_below b23) ?_
      simp only [atIdx, List.filterMap_cons, List.filterMap_nil, List.getElem?_toArray, List.getElem_toArray, List.getElem?_cons_zero, List.getElem?_cons_succ, List.getElem_cons_zero, List.getElem_cons_succ]
      iterate 2 (show wpQuiet _ _ _ _ (_ :: _) _; go_big_quiet_step (fail))
      refine wpQuiet_nil ?_
      show stepT _ _ _ _ _ _ _ _ _
      refine stepS (i := 26) rfl (by kernel_rfl) ?_
      intro K hK
      go_simp
      refine (prworks_any v23 (GV.out.below b23).T).mono ?_
      rintro e v26 ⟨rfl, bx26⟩
      have b26 := b23.trans (bx26.mono b23.size)
      refine hK _ _ ⟨fun _ => Grown.of_below b26, ?_⟩
      clear hK K
      refine stepsQ [27] (by kernel_rfl) (by kernel_rfl) (by kernel_rfl) (Grown.of_below b26) ?_
      simp only [atIdx, List.filterMap_cons, List.filterMap_nil, List.getElem?_toArray, List.getElem_toArray, List.getElem?_cons_zero, List.getElem?_cons_succ, List.getElem_cons_zero, List.getElem_cons_succ]
      iterate 1 (show wpQuiet _ _ _ _ (_ :: _) _; go_big_quiet_step (fail))
      refine wpQuiet_nil ?_
      show stepT _ _ _ _ _ _ _ _ _
      refine stepS (i := 28) rfl (by kernel_rfl) ?_
      intro K hK
      go_simp
      refine hK _ _ ⟨fun _ => Grown.of_below b26, ?_⟩
      clear hK K
      refine stepT_end (by kernel_rfl) ?_
      have hfin := (GV.out.below b26).bl
      go_wp2_with fail
      go_ret
      exact ⟨rfl, hfin⟩

namespace prodTurnsW
set_option maxRecDepth 100000 in
theorem walkRaw {H : Type} (enc : TypeId × Value → H) (v0 v1 : Value) (W : World) {base base' : Nat} {d0 d1 : DataW H} {p0 p1 : List MemPlace}
    (wv0 : Value.okWide Tryd.prog W .any base 26 v0) (h0 : DataW.Trod enc Tryd.prog W 0 (fun _ => true) true 26 v0 d0 p0) (_lt0 : ∀ x ∈ p0, x.block < W.heap.size)
    (wv1 : Value.okWide Tryd.prog W .any base' 26 v1) (h1 : DataW.Trod enc Tryd.prog W 0 (fun _ => true) true 26 v1 d1 p1) (_lt1 : ∀ x ∈ p1, x.block < W.heap.size)
    (hL : laidMet Tryd.prog Rows.prodTurnsRow.laid W) :
    Calls Tryd.prog 5 #[v0, v1] W fun e w' => e = .returned (.bool true) ∧ Below W.heap.size W w' := by
  obtain ⟨D, hD, hI⟩ := open_dfa wv0 h0
  obtain ⟨E, hE, hJ⟩ := open_dfa wv1 h1
  exact law_turns v0 v1 D E W hD hE hI hJ (pow_in hL (by simp [Rows.prodTurnsRow]))
end prodTurnsW
end Go.Proofs.YtpcoijjcjamgiaaDoor
