/-
  ProdTakes: the walk of the law. Conditions: the automata lie in memory; the table of powers lies as laid.
-/
import Derived.Test.YtpcoijjcjamgiaaGreatDoorJPrTakes
import Derived.Test.YtpcoijjcjamgiaaGreatDoorJPrDoes
import Derived.Test.YtpcoijjcjamgiaaGreatDoorJWord
import Derived.Test.YtpcoijjcjamgiaaGreatDoorJPrBoxs
import Derived.Test.YtpcoijjcjamgiaaGreatDoorJAuRefRun
import Derived.Test.YtpcoijjcjamgiaaGreatDoorJAuRefOf
import Derived.Test.YtpcoijjcjamgiaaGreatDoorJAuSame2R
import Derived.Test.YtpcoijjcjamgiaaGreatDoorJAuOpenT
namespace Go.Proofs.YtpcoijjcjamgiaaGreatDoor
set_option linter.unusedVariables false
set_option linter.unusedSimpArgs false
open Go.RowKit Go.Maps Go.Sort Go.ChangeShapes Go.WideShapes

theorem Boxs.tl {w W : World} {x : BoxE} {l : List BoxE} (h : Boxs w W (x :: l)) : Boxs w W l := ⟨h.bl, h.T, fun y hy => h.all y (List.mem_cons_of_mem _ hy)⟩
set_option maxHeartbeats 8000000 in
set_option maxRecDepth 1000000 in
theorem law_ptakes (va vb : Value) (D E : DfaI) (s : ByteArray) (w : World) (ha : DfaAt w va D) (hb : DfaAt w vb E) (hD : D.In) (hE : E.In) (hs : s.size ≤ maxLen) (hT : Pow10 w) :
    Calls Tryz.prog 3 #[va, vb, .string s] w fun e w' => e = .returned (.bool true) ∧ Below w.heap.size w w' := by
  have hs9 : s.size ≤ 9223372036854775807 := by unfold maxLen at hs; omega
  obtain ⟨S1, f1, k1, n1, F1, K1, M1, cf1, ck1, cn1, hS, hF, hB, hM, rfl⟩ := ha.form
  obtain ⟨S2, f2, k2, n2, F2, K2, M2, cf2, ck2, cn2, hS', hF', hB', hM', rfl⟩ := hb.form
  have hM9 := hD.many
  have hM9' := hE.many
  rw [hM] at hM9
  rw [hM'] at hM9'
  have HI := Lib.hid (And.intro hD (And.intro hE (And.intro hM (And.intro hM' hs))))
  have hz0 : ∀ o, (w.alloc o).heap.size = w.heap.size + 1 := fun o => by simp
  have h1 := (Boxs.start w hT).push ha
  have h2 := h1.push (hb.below ((Below.refl w.heap.size w).alloc (Nat.le_refl _) _))
  rw [hz0] at h2
  have G := Lib.hid h2
  clear ha hb hT hD hE hF hB hM hF' hB' hM' hS hS' h1 h2 hs
  obtain ⟨⟨y0, y1, y2, y3⟩, -⟩ := (G.out.get (List.Mem.tail _ (List.Mem.head _))).1.c4
  obtain ⟨⟨x0, x1, x2, x3⟩, -⟩ := (G.out.get (List.Mem.head _)).1.c4
  go_enter Tryz.func3, Tryz.ntmps3
  go_wp2_with fail
  clear hz0
  generalize (w.alloc (.cells #[.int .i64 S1, .slice f1 F1 cf1, .slice k1 K1 ck1, .slice n1 M1 cn1] 26)).alloc (.cells #[.int .i64 S2, .slice f2 F2 cf2, .slice k2 K2 ck2, .slice n2 M2 cn2] 26) = W at *
  refine (great_any _ D W (G.out.get (List.Mem.tail _ (List.Mem.head _))).2 HI.out.1).mono ?_
  rintro e w1 ⟨rfl, bx⟩
  have G' := Lib.hid (G.out.below bx)
  clear G bx
  try clear y0 y1 y2 y3
  try clear x0 x1 x2 x3
  try clear z0 z1 z2 z3
  have G := G'
  clear G'
  obtain ⟨⟨y0, y1, y2, y3⟩, -⟩ := (G.out.get (List.Mem.tail _ (List.Mem.head _))).1.c4
  obtain ⟨⟨x0, x1, x2, x3⟩, -⟩ := (G.out.get (List.Mem.head _)).1.c4
  cases hg1 : greatD D with
  | true =>
    clear hg1
    go_wp2_with fail
    refine (prworks_any w1 G.out.T).mono ?_
    rintro e w' ⟨rfl, b'⟩
    go_wp2_with fail
    go_ret
    exact ⟨rfl, G.out.bl.trans (b'.mono G.out.bl.size)⟩
  | false =>
  go_wp2_with fail
  refine (great_any _ E w1 (G.out.get (List.Mem.head _)).2 HI.out.2.1).mono ?_
  rintro e w2 ⟨rfl, bx⟩
  have G' := Lib.hid (G.out.below bx)
  clear G bx
  try clear y0 y1 y2 y3
  try clear x0 x1 x2 x3
  try clear z0 z1 z2 z3
  have G := G'
  clear G'
  obtain ⟨⟨y0, y1, y2, y3⟩, -⟩ := (G.out.get (List.Mem.tail _ (List.Mem.head _))).1.c4
  obtain ⟨⟨x0, x1, x2, x3⟩, -⟩ := (G.out.get (List.Mem.head _)).1.c4
  cases hg2 : greatD E with
  | true =>
    clear hg2
    go_wp2_with fail
    refine (prworks_any w2 G.out.T).mono ?_
    rintro e w' ⟨rfl, b'⟩
    go_wp2_with fail
    go_ret
    exact ⟨rfl, G.out.bl.trans (b'.mono G.out.bl.size)⟩
  | false =>
  by_cases h12 : 12 < M1
  · have q1 : decide (12 < (M1 : Int)) = true := decide_eq_true (by omega)
    go_wp2_with fail
    refine (prworks_any w2 G.out.T).mono ?_
    rintro e w' ⟨rfl, b'⟩
    go_wp2_with fail
    go_ret
    exact ⟨rfl, G.out.bl.trans (b'.mono G.out.bl.size)⟩
  have q1 : decide (12 < (M1 : Int)) = false := decide_eq_false (by omega)
  by_cases h13 : 12 < M2
  · have q2 : decide (12 < (M2 : Int)) = true := decide_eq_true (by omega)
    go_wp2_with fail
    refine (prworks_any w2 G.out.T).mono ?_
    rintro e w' ⟨rfl, b'⟩
    go_wp2_with fail
    go_ret
    exact ⟨rfl, G.out.bl.trans (b'.mono G.out.bl.size)⟩
  have q2 : decide (12 < (M2 : Int)) = false := decide_eq_false (by omega)
  by_cases h14 : 40 < s.size
  · have q3 : decide (40 < (s.size : Int)) = true := decide_eq_true (by omega)
    go_wp2_with fail
    refine (prworks_any w2 G.out.T).mono ?_
    rintro e w' ⟨rfl, b'⟩
    go_wp2_with fail
    go_ret
    exact ⟨rfl, G.out.bl.trans (b'.mono G.out.bl.size)⟩
  have q3 : decide (40 < (s.size : Int)) = false := decide_eq_false (by omega)
  have HL := Lib.hid (And.intro (show D.next.length ≤ 12 by rw [HI.out.2.2.1]; omega) (show E.next.length ≤ 12 by rw [HI.out.2.2.2.1]; omega))
  clear hg1 hg2
  go_wp2_with fail
  clear q1 q2 q3
  refine (refdright_any _ D w2 (G.out.get (List.Mem.tail _ (List.Mem.head _))).2 HI.out.1).mono ?_
  rintro e w3 ⟨rfl, bx⟩
  have G' := Lib.hid (G.out.below bx)
  clear G bx
  try clear y0 y1 y2 y3
  try clear x0 x1 x2 x3
  try clear z0 z1 z2 z3
  have G := G'
  clear G'
  obtain ⟨⟨y0, y1, y2, y3⟩, -⟩ := (G.out.get (List.Mem.tail _ (List.Mem.head _))).1.c4
  obtain ⟨⟨x0, x1, x2, x3⟩, -⟩ := (G.out.get (List.Mem.head _)).1.c4
  cases hr1 : rightD D with
  | false =>
    have HR := Lib.hid hr1
    have HF := Lib.hid (fun n => takes_wrong (A := D) (B := E) (opB n) (by rw [hr1]; rfl))
    clear hr1
    go_wp2_with fail
    clear y0 y1 y2 y3 x0 x1 x2 x3
    go_loopw [8] (fun c wr => ∃ n : Nat, n ≤ 4 ∧ c = .int .i64 n ∧ Hid (Boxs w wr [⟨w.heap.size + 1, #[.int .i64 S2, .slice f2 F2 cf2, .slice k2 K2 ck2, .slice n2 M2 cn2], E⟩, ⟨w.heap.size, #[.int .i64 S1, .slice f1 F1 cf1, .slice k1 K1 ck1, .slice n1 M1 cn1], D⟩])) (fun c _ => 4 - (intOf c).toNat)
    case atStart => exact ⟨0, by omega, rfl, G⟩
    case round =>
      obtain ⟨n, hn, rfl, GR⟩ := hrel
      clear G
      have G := GR
      clear GR
      by_cases hlt : n < 4
      · skip
        obtain ⟨⟨y0, y1, y2, y3⟩, -⟩ := (G.out.get (List.Mem.tail _ (List.Mem.head _))).1.c4
        obtain ⟨⟨x0, x1, x2, x3⟩, -⟩ := (G.out.get (List.Mem.head _)).1.c4
        go_wp2_with fail
        refine (does_any n hlt _ _ D E wr (G.out.get (List.Mem.tail _ (List.Mem.head _))).2 (G.out.get (List.Mem.head _)).2 HI.out.1 HI.out.2.1 G.out.T).mono ?_
        rintro e u1 ⟨rv, rfl, hd, bx⟩
        rw [(HF.out n).1]
        obtain ⟨S9, f9, k9, n9, F9, K9, M9, cf9, ck9, cn9, -, -, -, hM9, rfl⟩ := hd.form
        obtain rfl : M9 = 0 := by rw [← hM9]; exact (HF.out n).2
        clear hM9
        have h0 := (G.out.below bx).push hd
        have G' := Lib.hid h0
        obtain ⟨p9, hp9⟩ : ∃ p, u1.heap.size = p := ⟨_, rfl⟩
        clear G bx hd h0
        try clear y0 y1 y2 y3
        try clear x0 x1 x2 x3
        try clear z0 z1 z2 z3
        have G := G'
        clear G'
        obtain ⟨⟨z0, z1, z2, z3⟩, -⟩ := (G.out.get (List.Mem.head _)).1.c4
        obtain ⟨⟨y0, y1, y2, y3⟩, -⟩ := (G.out.get (List.Mem.tail _ (List.Mem.tail _ (List.Mem.head _)))).1.c4
        obtain ⟨⟨x0, x1, x2, x3⟩, -⟩ := (G.out.get (List.Mem.tail _ (List.Mem.head _))).1.c4
        go_wp2_with fail
        generalize u1.alloc (.cells #[.int .i64 S9, .slice f9 F9 cf9, .slice k9 K9 ck9, .slice n9 0 cn9] 26) = U at *
        rw [hp9] at G z0 z1 z2 z3
        try rw [hp9]
        clear hp9
        refine wp_region_T [] (by kernel_rfl) ?_
        intro V bb
        have lc : ∀ {p : Addr} {v : Value}, U.cell? p = some v → ∀ d os, (Sort.grow (redrawn V d) os).cell? p = some v := fun {p v} hp d os => ((bb.trans ((below_regrown V d os).mono bb.size)).cell (World.block_lt_of_cell? U p hp)).trans hp
        have q0 := lc y0
        have q1 := lc y1
        have q2 := lc y2
        have q3 := lc y3
        have q4 := lc x0
        have q5 := lc x1
        have q6 := lc x2
        have q7 := lc x3
        have q8 := lc z0
        have q9 := lc z1
        have q10 := lc z2
        have q11 := lc z3
        clear lc
        clear y0 y1 y2 y3 x0 x1 x2 x3 z0 z1 z2 z3
        have GV := Lib.hid (G.out.below bb)
        clear G bb
        refine stepsQ [0, 1, 2, 3, 4, 5] (by kernel_rfl) (by kernel_rfl) (by kernel_rfl) (Grown.of_below (Below.refl _ _)) ?_
        simp only [atIdx, List.filterMap_cons, List.filterMap_nil, List.getElem?_toArray, List.getElem_toArray, List.getElem?_cons_zero, List.getElem?_cons_succ, List.getElem_cons_zero, List.getElem_cons_succ]
        iterate 6 (show wpQuiet _ _ _ _ (_ :: _) _; go_big_quiet_step (fail))
        refine wpQuiet_nil ?_
        show stepT _ _ _ _ _ _ _ _ _
        refine stepS (i := 6) rfl (by kernel_rfl) ?_
        intro K hK
        go_simp
        refine hK _ _ ⟨fun _ => Grown.of_below (Below.refl V.heap.size V), ?_⟩
        clear hK K
        refine stepsQ [7, 8, 9, 10, 11, 13, 14, 15, 17, 18] (by kernel_rfl) (by kernel_rfl) (by kernel_rfl) (Grown.of_below (Below.refl V.heap.size V)) ?_
        simp only [atIdx, List.filterMap_cons, List.filterMap_nil, List.getElem?_toArray, List.getElem_toArray, List.getElem?_cons_zero, List.getElem?_cons_succ, List.getElem_cons_zero, List.getElem_cons_succ]
        iterate 10 (show wpQuiet _ _ _ _ (_ :: _) _; go_big_quiet_step (fail))
        refine wpQuiet_nil ?_
        show stepT _ _ _ _ _ _ _ _ _
        refine stepS (i := 12) rfl (by kernel_rfl) ?_
        intro K hK
        go_simp
        refine hK _ _ ⟨fun _ => Grown.of_below (Below.refl V.heap.size V), ?_⟩
        clear hK K
        refine stepS (i := 16) rfl (by kernel_rfl) ?_
        intro K hK
        go_simp
        refine hK _ _ ⟨fun _ => Grown.of_below (Below.refl V.heap.size V), ?_⟩
        clear hK K
        refine stepS (i := 19) rfl (by kernel_rfl) ?_
        intro K hK
        go_simp
        refine hK _ _ ⟨fun _ => Grown.of_below (Below.refl V.heap.size V), ?_⟩
        clear hK K
        refine stepS (i := 20) rfl (by kernel_rfl) ?_
        intro K hK
        go_simp
        refine hK _ _ ⟨fun _ => Grown.of_below (Below.refl V.heap.size V), ?_⟩
        clear hK K
        refine stepsQ [21, 22, 23, 24, 25, 26, 27, 28, 29, 31] (by kernel_rfl) (by kernel_rfl) (by kernel_rfl) (Grown.of_below (Below.refl V.heap.size V)) ?_
        simp only [atIdx, List.filterMap_cons, List.filterMap_nil, List.getElem?_toArray, List.getElem_toArray, List.getElem?_cons_zero, List.getElem?_cons_succ, List.getElem_cons_zero, List.getElem_cons_succ]
        iterate 10 (show wpQuiet _ _ _ _ (_ :: _) _; go_big_quiet_step (fail))
        refine wpQuiet_nil ?_
        show stepT _ _ _ _ _ _ _ _ _
        refine stepS (i := 30) rfl (by kernel_rfl) ?_
        intro K hK
        go_simp
        refine hK _ _ ⟨fun _ => Grown.of_below (Below.refl V.heap.size V), ?_⟩
        clear hK K
        refine stepS (i := 32) rfl (by kernel_rfl) ?_
        intro K hK
        go_simp
        refine hK _ _ ⟨fun _ => Grown.of_below (Below.refl V.heap.size V), ?_⟩
        clear hK K
        refine stepsQ [33, 34, 35, 36] (by kernel_rfl) (by kernel_rfl) (by kernel_rfl) (Grown.of_below (Below.refl V.heap.size V)) ?_
        simp only [atIdx, List.filterMap_cons, List.filterMap_nil, List.getElem?_toArray, List.getElem_toArray, List.getElem?_cons_zero, List.getElem?_cons_succ, List.getElem_cons_zero, List.getElem_cons_succ]
        iterate 4 (show wpQuiet _ _ _ _ (_ :: _) _; go_big_quiet_step (fail))
        refine wpQuiet_nil ?_
        show stepT _ _ _ _ _ _ _ _ _
        refine stepT_end (by kernel_rfl) ?_
        have HZ := Lib.hid (GV.out.below (Below.refl V.heap.size V)).tl
        clear GV
        go_wp2_with fail
        go_roundw
        case rel => exact ⟨n + 1, by omega, by go_num, HZ⟩
        case measure => simp [intOf]; omega
      · skip
        obtain rfl : n = 4 := by omega
        obtain ⟨⟨y0, y1, y2, y3⟩, -⟩ := (G.out.get (List.Mem.tail _ (List.Mem.head _))).1.c4
        go_wp2_with fail
        refine (not_any _ D wr (G.out.get (List.Mem.tail _ (List.Mem.head _))).2 HI.out.1 G.out.T).mono ?_
        rintro e u1 ⟨rv, rfl, hd, bx⟩
        obtain ⟨S11, f11, k11, n11, F11, K11, M11, cf11, ck11, cn11, -, -, -, hM11, rfl⟩ := hd.form
        obtain rfl : M11 = 0 := by rw [← hM11]; exact takes_wrongn HR.out
        clear hM11
        have h0 := (G.out.below bx).push hd
        have G' := Lib.hid h0
        obtain ⟨p11, hp11⟩ : ∃ p, u1.heap.size = p := ⟨_, rfl⟩
        clear G bx hd h0
        try clear y0 y1 y2 y3
        try clear x0 x1 x2 x3
        try clear z0 z1 z2 z3
        have G := G'
        clear G'
        obtain ⟨⟨y0, y1, y2, y3⟩, -⟩ := (G.out.get (List.Mem.tail _ (List.Mem.tail _ (List.Mem.head _)))).1.c4
        go_wp2_with fail
        generalize u1.alloc (.cells #[.int .i64 S11, .slice f11 F11 cf11, .slice k11 K11 ck11, .slice n11 0 cn11] 26) = U at *
        rw [hp11] at G
        try rw [hp11]
        clear hp11
        refine (refdright_any _ D U (G.out.get (List.Mem.tail _ (List.Mem.tail _ (List.Mem.head _)))).2 HI.out.1).mono ?_
        rintro e w4 ⟨rfl, bx⟩
        rw [HR.out]
        have G' := Lib.hid (G.out.below bx)
        clear G bx
        try clear y0 y1 y2 y3
        try clear x0 x1 x2 x3
        try clear z0 z1 z2 z3
        have G := G'
        clear G'
        obtain ⟨⟨y0, y1, y2, y3⟩, -⟩ := (G.out.get (List.Mem.tail _ (List.Mem.tail _ (List.Mem.head _)))).1.c4
        obtain ⟨⟨x0, x1, x2, x3⟩, -⟩ := (G.out.get (List.Mem.head _)).1.c4
        go_wp2_with fail
        refine (prworks_any w4 G.out.T).mono ?_
        rintro e w' ⟨rfl, b'⟩
        go_wp2_with fail
        go_ret
        exact ⟨rfl, G.out.bl.trans (b'.mono G.out.bl.size)⟩
  | true =>
  go_wp2_with fail
  refine (refdright_any _ E w3 (G.out.get (List.Mem.head _)).2 HI.out.2.1).mono ?_
  rintro e w5 ⟨rfl, bx⟩
  have G' := Lib.hid (G.out.below bx)
  clear G bx
  try clear y0 y1 y2 y3
  try clear x0 x1 x2 x3
  try clear z0 z1 z2 z3
  have G := G'
  clear G'
  cases hr2 : rightD E with
  | false =>
    have HR := Lib.hid hr1
    have HF := Lib.hid (fun n => takes_wrong (A := D) (B := E) (opB n) (by rw [hr1, hr2]; rfl))
    clear hr1 hr2
    go_wp2_with fail
    go_loopw [8] (fun c wr => ∃ n : Nat, n ≤ 4 ∧ c = .int .i64 n ∧ Hid (Boxs w wr [⟨w.heap.size + 1, #[.int .i64 S2, .slice f2 F2 cf2, .slice k2 K2 ck2, .slice n2 M2 cn2], E⟩, ⟨w.heap.size, #[.int .i64 S1, .slice f1 F1 cf1, .slice k1 K1 ck1, .slice n1 M1 cn1], D⟩])) (fun c _ => 4 - (intOf c).toNat)
    case atStart => exact ⟨0, by omega, rfl, G⟩
    case round =>
      obtain ⟨n, hn, rfl, GR⟩ := hrel
      clear G
      have G := GR
      clear GR
      by_cases hlt : n < 4
      · skip
        obtain ⟨⟨y0, y1, y2, y3⟩, -⟩ := (G.out.get (List.Mem.tail _ (List.Mem.head _))).1.c4
        obtain ⟨⟨x0, x1, x2, x3⟩, -⟩ := (G.out.get (List.Mem.head _)).1.c4
        go_wp2_with fail
        refine (does_any n hlt _ _ D E wr (G.out.get (List.Mem.tail _ (List.Mem.head _))).2 (G.out.get (List.Mem.head _)).2 HI.out.1 HI.out.2.1 G.out.T).mono ?_
        rintro e u1 ⟨rv, rfl, hd, bx⟩
        rw [(HF.out n).1]
        obtain ⟨S9, f9, k9, n9, F9, K9, M9, cf9, ck9, cn9, -, -, -, hM9, rfl⟩ := hd.form
        obtain rfl : M9 = 0 := by rw [← hM9]; exact (HF.out n).2
        clear hM9
        have h0 := (G.out.below bx).push hd
        have G' := Lib.hid h0
        obtain ⟨p9, hp9⟩ : ∃ p, u1.heap.size = p := ⟨_, rfl⟩
        clear G bx hd h0
        try clear y0 y1 y2 y3
        try clear x0 x1 x2 x3
        try clear z0 z1 z2 z3
        have G := G'
        clear G'
        obtain ⟨⟨z0, z1, z2, z3⟩, -⟩ := (G.out.get (List.Mem.head _)).1.c4
        obtain ⟨⟨y0, y1, y2, y3⟩, -⟩ := (G.out.get (List.Mem.tail _ (List.Mem.tail _ (List.Mem.head _)))).1.c4
        obtain ⟨⟨x0, x1, x2, x3⟩, -⟩ := (G.out.get (List.Mem.tail _ (List.Mem.head _))).1.c4
        go_wp2_with fail
        generalize u1.alloc (.cells #[.int .i64 S9, .slice f9 F9 cf9, .slice k9 K9 ck9, .slice n9 0 cn9] 26) = U at *
        rw [hp9] at G z0 z1 z2 z3
        try rw [hp9]
        clear hp9
        refine wp_region_T [] (by kernel_rfl) ?_
        intro V bb
        have lc : ∀ {p : Addr} {v : Value}, U.cell? p = some v → ∀ d os, (Sort.grow (redrawn V d) os).cell? p = some v := fun {p v} hp d os => ((bb.trans ((below_regrown V d os).mono bb.size)).cell (World.block_lt_of_cell? U p hp)).trans hp
        have q0 := lc y0
        have q1 := lc y1
        have q2 := lc y2
        have q3 := lc y3
        have q4 := lc x0
        have q5 := lc x1
        have q6 := lc x2
        have q7 := lc x3
        have q8 := lc z0
        have q9 := lc z1
        have q10 := lc z2
        have q11 := lc z3
        clear lc
        clear y0 y1 y2 y3 x0 x1 x2 x3 z0 z1 z2 z3
        have GV := Lib.hid (G.out.below bb)
        clear G bb
        refine stepsQ [0, 1, 2, 3, 4, 5] (by kernel_rfl) (by kernel_rfl) (by kernel_rfl) (Grown.of_below (Below.refl _ _)) ?_
        simp only [atIdx, List.filterMap_cons, List.filterMap_nil, List.getElem?_toArray, List.getElem_toArray, List.getElem?_cons_zero, List.getElem?_cons_succ, List.getElem_cons_zero, List.getElem_cons_succ]
        iterate 6 (show wpQuiet _ _ _ _ (_ :: _) _; go_big_quiet_step (fail))
        refine wpQuiet_nil ?_
        show stepT _ _ _ _ _ _ _ _ _
        refine stepS (i := 6) rfl (by kernel_rfl) ?_
        intro K hK
        go_simp
        refine hK _ _ ⟨fun _ => Grown.of_below (Below.refl V.heap.size V), ?_⟩
        clear hK K
        refine stepsQ [7, 8, 9, 10, 11, 13, 14, 15, 17, 18] (by kernel_rfl) (by kernel_rfl) (by kernel_rfl) (Grown.of_below (Below.refl V.heap.size V)) ?_
        simp only [atIdx, List.filterMap_cons, List.filterMap_nil, List.getElem?_toArray, List.getElem_toArray, List.getElem?_cons_zero, List.getElem?_cons_succ, List.getElem_cons_zero, List.getElem_cons_succ]
        iterate 10 (show wpQuiet _ _ _ _ (_ :: _) _; go_big_quiet_step (fail))
        refine wpQuiet_nil ?_
        show stepT _ _ _ _ _ _ _ _ _
        refine stepS (i := 12) rfl (by kernel_rfl) ?_
        intro K hK
        go_simp
        refine hK _ _ ⟨fun _ => Grown.of_below (Below.refl V.heap.size V), ?_⟩
        clear hK K
        refine stepS (i := 16) rfl (by kernel_rfl) ?_
        intro K hK
        go_simp
        refine hK _ _ ⟨fun _ => Grown.of_below (Below.refl V.heap.size V), ?_⟩
        clear hK K
        refine stepS (i := 19) rfl (by kernel_rfl) ?_
        intro K hK
        go_simp
        refine hK _ _ ⟨fun _ => Grown.of_below (Below.refl V.heap.size V), ?_⟩
        clear hK K
        refine stepS (i := 20) rfl (by kernel_rfl) ?_
        intro K hK
        go_simp
        refine hK _ _ ⟨fun _ => Grown.of_below (Below.refl V.heap.size V), ?_⟩
        clear hK K
        refine stepsQ [21, 22, 23, 24, 25, 26, 27, 28, 29, 31] (by kernel_rfl) (by kernel_rfl) (by kernel_rfl) (Grown.of_below (Below.refl V.heap.size V)) ?_
        simp only [atIdx, List.filterMap_cons, List.filterMap_nil, List.getElem?_toArray, List.getElem_toArray, List.getElem?_cons_zero, List.getElem?_cons_succ, List.getElem_cons_zero, List.getElem_cons_succ]
        iterate 10 (show wpQuiet _ _ _ _ (_ :: _) _; go_big_quiet_step (fail))
        refine wpQuiet_nil ?_
        show stepT _ _ _ _ _ _ _ _ _
        refine stepS (i := 30) rfl (by kernel_rfl) ?_
        intro K hK
        go_simp
        refine hK _ _ ⟨fun _ => Grown.of_below (Below.refl V.heap.size V), ?_⟩
        clear hK K
        refine stepS (i := 32) rfl (by kernel_rfl) ?_
        intro K hK
        go_simp
        refine hK _ _ ⟨fun _ => Grown.of_below (Below.refl V.heap.size V), ?_⟩
        clear hK K
        refine stepsQ [33, 34, 35, 36] (by kernel_rfl) (by kernel_rfl) (by kernel_rfl) (Grown.of_below (Below.refl V.heap.size V)) ?_
        simp only [atIdx, List.filterMap_cons, List.filterMap_nil, List.getElem?_toArray, List.getElem_toArray, List.getElem?_cons_zero, List.getElem?_cons_succ, List.getElem_cons_zero, List.getElem_cons_succ]
        iterate 4 (show wpQuiet _ _ _ _ (_ :: _) _; go_big_quiet_step (fail))
        refine wpQuiet_nil ?_
        show stepT _ _ _ _ _ _ _ _ _
        refine stepT_end (by kernel_rfl) ?_
        have HZ := Lib.hid (GV.out.below (Below.refl V.heap.size V)).tl
        clear GV
        go_wp2_with fail
        go_roundw
        case rel => exact ⟨n + 1, by omega, by go_num, HZ⟩
        case measure => simp [intOf]; omega
      · skip
        obtain rfl : n = 4 := by omega
        obtain ⟨⟨y0, y1, y2, y3⟩, -⟩ := (G.out.get (List.Mem.tail _ (List.Mem.head _))).1.c4
        go_wp2_with fail
        refine (not_any _ D wr (G.out.get (List.Mem.tail _ (List.Mem.head _))).2 HI.out.1 G.out.T).mono ?_
        rintro e u1 ⟨rv, rfl, hd, bx⟩
        obtain ⟨S11, f11, k11, n11, F11, K11, M11, cf11, ck11, cn11, -, -, -, hM11, rfl⟩ := hd.form
        clear hM11
        have h0 := (G.out.below bx).push hd
        have G' := Lib.hid h0
        obtain ⟨p11, hp11⟩ : ∃ p, u1.heap.size = p := ⟨_, rfl⟩
        clear G bx hd h0
        try clear y0 y1 y2 y3
        try clear x0 x1 x2 x3
        try clear z0 z1 z2 z3
        have G := G'
        clear G'
        obtain ⟨⟨y0, y1, y2, y3⟩, -⟩ := (G.out.get (List.Mem.tail _ (List.Mem.tail _ (List.Mem.head _)))).1.c4
        go_wp2_with fail
        generalize u1.alloc (.cells #[.int .i64 S11, .slice f11 F11 cf11, .slice k11 K11 ck11, .slice n11 M11 cn11] 26) = U at *
        rw [hp11] at G
        try rw [hp11]
        clear hp11
        refine (refdright_any _ D U (G.out.get (List.Mem.tail _ (List.Mem.tail _ (List.Mem.head _)))).2 HI.out.1).mono ?_
        rintro e w6 ⟨rfl, bx⟩
        rw [HR.out]
        have G' := Lib.hid (G.out.below bx)
        clear G bx
        try clear y0 y1 y2 y3
        try clear x0 x1 x2 x3
        try clear z0 z1 z2 z3
        have G := G'
        clear G'
        obtain ⟨⟨y0, y1, y2, y3⟩, -⟩ := (G.out.get (List.Mem.tail _ (List.Mem.tail _ (List.Mem.head _)))).1.c4
        obtain ⟨⟨x0, x1, x2, x3⟩, -⟩ := (G.out.get (List.Mem.head _)).1.c4
        go_wp2_with fail
        refine wp_region_T [] (by kernel_rfl) ?_
        intro V bb
        have lc : ∀ {p : Addr} {v : Value}, w6.cell? p = some v → ∀ d os, (Sort.grow (redrawn V d) os).cell? p = some v := fun {p v} hp d os => ((bb.trans ((below_regrown V d os).mono bb.size)).cell (World.block_lt_of_cell? w6 p hp)).trans hp
        have q0 := lc y0
        have q1 := lc y1
        have q2 := lc y2
        have q3 := lc y3
        have q4 := lc x0
        have q5 := lc x1
        have q6 := lc x2
        have q7 := lc x3
        clear lc
        clear y0 y1 y2 y3 x0 x1 x2 x3
        have GV := Lib.hid (G.out.below bb)
        have HT := Lib.hid (takes_not (rightD_iff.1 HR.out) s)
        clear G bb
        refine stepsQ [0, 1, 3, 4] (by kernel_rfl) (by kernel_rfl) (by kernel_rfl) (Grown.of_below (Below.refl _ _)) ?_
        simp only [atIdx, List.filterMap_cons, List.filterMap_nil, List.getElem?_toArray, List.getElem_toArray, List.getElem?_cons_zero, List.getElem?_cons_succ, List.getElem_cons_zero, List.getElem_cons_succ]
        iterate 4 (show wpQuiet _ _ _ _ (_ :: _) _; go_big_quiet_step (fail))
        refine wpQuiet_nil ?_
        show stepT _ _ _ _ _ _ _ _ _
        refine stepS (i := 2) rfl (by kernel_rfl) ?_
        intro K hK
        go_simp
        refine (refrun_any _ s _ V (GV.out.get (List.Mem.head _)).2 (notC_in _) HI.out.2.2.2.2).mono ?_
        rintro e v2 ⟨rfl, b2⟩
        rw [HT.out.1]
        refine hK _ _ ⟨fun _ => Grown.of_below b2, ?_⟩
        clear hK K
        refine stepS (i := 5) rfl (by kernel_rfl) ?_
        intro K hK
        go_simp
        refine (refrun_any _ s _ v2 ((GV.out.below b2).get (List.Mem.tail _ (List.Mem.tail _ (List.Mem.head _)))).2 HI.out.1 HI.out.2.2.2.2).mono ?_
        rintro e v5 ⟨rfl, bx⟩
        have b5 := b2.trans (bx.mono b2.size)
        refine hK _ _ ⟨fun _ => Grown.of_below b5, ?_⟩
        clear hK K
        have HT2 := Lib.hid HT.out.2
        clear HT
        generalize runD D s = X
        cases X
        all_goals
          refine stepsQ [6, 7, 8, 10] (by kernel_rfl) (by kernel_rfl) (by kernel_rfl) (Grown.of_below b5) ?_
          simp only [atIdx, List.filterMap_cons, List.filterMap_nil, List.getElem?_toArray, List.getElem_toArray, List.getElem?_cons_zero, List.getElem?_cons_succ, List.getElem_cons_zero, List.getElem_cons_succ]
          iterate 4 (show wpQuiet _ _ _ _ (_ :: _) _; go_big_quiet_step (fail))
          refine wpQuiet_nil ?_
          show stepT _ _ _ _ _ _ _ _ _
          refine stepS (i := 9) rfl (by kernel_rfl) ?_
          intro K hK
          go_simp
          refine (refof_any _ _ v5 ((GV.out.below b5).get (List.Mem.head _)).2 (notC_in _)).mono ?_
          rintro e v9 ⟨rv9, rfl, hd9, bx⟩
          have b9 := b5.trans (bx.mono b5.size)
          refine hK _ _ ⟨fun _ => Grown.of_below b9, ?_⟩
          clear hK K
          refine stepS (i := 11) rfl (by kernel_rfl) ?_
          intro K hK
          go_simp
          refine (refsame_any _ _ _ _ v9 hd9 ((GV.out.below b9).get (List.Mem.head _)).2 (ofD_in _) (notC_in _)).mono ?_
          rintro e v11 ⟨rfl, bx⟩
          rw [HT2.out]
          have b11 := b9.trans (bx.mono b9.size)
          refine hK _ _ ⟨fun _ => Grown.of_below b11, ?_⟩
          clear hK K
          refine stepsQ [12, 13] (by kernel_rfl) (by kernel_rfl) (by kernel_rfl) (Grown.of_below b11) ?_
          simp only [atIdx, List.filterMap_cons, List.filterMap_nil, List.getElem?_toArray, List.getElem_toArray, List.getElem?_cons_zero, List.getElem?_cons_succ, List.getElem_cons_zero, List.getElem_cons_succ]
          iterate 2 (show wpQuiet _ _ _ _ (_ :: _) _; go_big_quiet_step (fail))
          refine wpQuiet_nil ?_
          show stepT _ _ _ _ _ _ _ _ _
          refine stepS (i := 14) rfl (by kernel_rfl) ?_
          intro K hK
          go_simp
          refine (prworks_any v11 (GV.out.below b11).T).mono ?_
          rintro e v14 ⟨rfl, bx⟩
          have b14 := b11.trans (bx.mono b11.size)
          refine hK _ _ ⟨fun _ => Grown.of_below b14, ?_⟩
          clear hK K
          refine stepsQ [15] (by kernel_rfl) (by kernel_rfl) (by kernel_rfl) (Grown.of_below b14) ?_
          simp only [atIdx, List.filterMap_cons, List.filterMap_nil, List.getElem?_toArray, List.getElem_toArray, List.getElem?_cons_zero, List.getElem?_cons_succ, List.getElem_cons_zero, List.getElem_cons_succ]
          iterate 1 (show wpQuiet _ _ _ _ (_ :: _) _; go_big_quiet_step (fail))
          refine wpQuiet_nil ?_
          show stepT _ _ _ _ _ _ _ _ _
          refine stepS (i := 16) rfl (by kernel_rfl) ?_
          intro K hK
          go_simp
          refine hK _ _ ⟨fun _ => Grown.of_below b14, ?_⟩
          clear hK K
          refine stepT_end (by kernel_rfl) ?_
          have hfin := (GV.out.below b14).bl
          go_wp2_with fail
          go_ret
          exact ⟨rfl, hfin⟩
  | true =>
    have HR := Lib.hid hr1
    have HF := Lib.hid (fun n => takes_fine (A := D) (B := E) (opB n) (rightD_iff.1 hr1) (rightD_iff.1 hr2) HL.out.1 HL.out.2 s)
    clear hr1 hr2
    go_wp2_with fail
    go_loopw [8] (fun c wr => ∃ n : Nat, n ≤ 4 ∧ c = .int .i64 n ∧ Hid (Boxs w wr [⟨w.heap.size + 1, #[.int .i64 S2, .slice f2 F2 cf2, .slice k2 K2 ck2, .slice n2 M2 cn2], E⟩, ⟨w.heap.size, #[.int .i64 S1, .slice f1 F1 cf1, .slice k1 K1 ck1, .slice n1 M1 cn1], D⟩])) (fun c _ => 4 - (intOf c).toNat)
    case atStart => exact ⟨0, by omega, rfl, G⟩
    case round =>
      obtain ⟨n, hn, rfl, GR⟩ := hrel
      clear G
      have G := GR
      clear GR
      by_cases hlt : n < 4
      · skip
        obtain ⟨⟨y0, y1, y2, y3⟩, -⟩ := (G.out.get (List.Mem.tail _ (List.Mem.head _))).1.c4
        obtain ⟨⟨x0, x1, x2, x3⟩, -⟩ := (G.out.get (List.Mem.head _)).1.c4
        go_wp2_with fail
        refine (does_any n hlt _ _ D E wr (G.out.get (List.Mem.tail _ (List.Mem.head _))).2 (G.out.get (List.Mem.head _)).2 HI.out.1 HI.out.2.1 G.out.T).mono ?_
        rintro e u1 ⟨rv, rfl, hd, bx⟩
        rw [(HF.out n).1]
        obtain ⟨S9, f9, k9, n9, F9, K9, M9, cf9, ck9, cn9, -, -, -, hM9, rfl⟩ := hd.form
        have HT := Lib.hid (HF.out n)
        have hI9 := Lib.hid (bothD_in (opB n) D E)
        have hm30 := hI9.out.many
        rw [hM9] at hm30
        clear hM9
        have h0 := (G.out.below bx).push hd
        have G' := Lib.hid h0
        obtain ⟨p9, hp9⟩ : ∃ p, u1.heap.size = p := ⟨_, rfl⟩
        clear G bx hd h0
        try clear y0 y1 y2 y3
        try clear x0 x1 x2 x3
        try clear z0 z1 z2 z3
        have G := G'
        clear G'
        obtain ⟨⟨z0, z1, z2, z3⟩, -⟩ := (G.out.get (List.Mem.head _)).1.c4
        obtain ⟨⟨y0, y1, y2, y3⟩, -⟩ := (G.out.get (List.Mem.tail _ (List.Mem.tail _ (List.Mem.head _)))).1.c4
        obtain ⟨⟨x0, x1, x2, x3⟩, -⟩ := (G.out.get (List.Mem.tail _ (List.Mem.head _))).1.c4
        by_cases h30 : M9 < 30
        · have k30 : decide ((M9 : Int) < 30) = true := decide_eq_true (by omega)
          go_wp2_with fail
          generalize u1.alloc (.cells #[.int .i64 S9, .slice f9 F9 cf9, .slice k9 K9 ck9, .slice n9 M9 cn9] 26) = U at *
          rw [hp9] at G z0 z1 z2 z3
          try rw [hp9]
          clear hp9
          refine wp_region_T [] (by kernel_rfl) ?_
          intro V bb
          have lc : ∀ {p : Addr} {v : Value}, U.cell? p = some v → ∀ d os, (Sort.grow (redrawn V d) os).cell? p = some v := fun {p v} hp d os => ((bb.trans ((below_regrown V d os).mono bb.size)).cell (World.block_lt_of_cell? U p hp)).trans hp
          have q0 := lc y0
          have q1 := lc y1
          have q2 := lc y2
          have q3 := lc y3
          have q4 := lc x0
          have q5 := lc x1
          have q6 := lc x2
          have q7 := lc x3
          have q8 := lc z0
          have q9 := lc z1
          have q10 := lc z2
          have q11 := lc z3
          clear lc
          clear y0 y1 y2 y3 x0 x1 x2 x3 z0 z1 z2 z3
          have GV := Lib.hid (G.out.below bb)
          clear G bb
          refine stepsQ [0, 1, 2, 3, 4, 5] (by kernel_rfl) (by kernel_rfl) (by kernel_rfl) (Grown.of_below (Below.refl _ _)) ?_
          simp only [atIdx, List.filterMap_cons, List.filterMap_nil, List.getElem?_toArray, List.getElem_toArray, List.getElem?_cons_zero, List.getElem?_cons_succ, List.getElem_cons_zero, List.getElem_cons_succ]
          iterate 6 (show wpQuiet _ _ _ _ (_ :: _) _; go_big_quiet_step (fail))
          refine wpQuiet_nil ?_
          show stepT _ _ _ _ _ _ _ _ _
          refine stepS (i := 6) rfl (by kernel_rfl) ?_
          intro K hK
          go_simp
          refine (refdright_any _ _ V (GV.out.get (List.Mem.head _)).2 hI9.out).mono ?_
          rintro e v6 ⟨rfl, b6⟩
          rw [HT.out.2.1]
          refine hK _ _ ⟨fun _ => Grown.of_below b6, ?_⟩
          clear hK K
          refine stepsQ [7, 8, 9, 10, 11, 13, 14, 15, 17, 18] (by kernel_rfl) (by kernel_rfl) (by kernel_rfl) (Grown.of_below b6) ?_
          simp only [atIdx, List.filterMap_cons, List.filterMap_nil, List.getElem?_toArray, List.getElem_toArray, List.getElem?_cons_zero, List.getElem?_cons_succ, List.getElem_cons_zero, List.getElem_cons_succ]
          iterate 10 (show wpQuiet _ _ _ _ (_ :: _) _; go_big_quiet_step (fail))
          refine wpQuiet_nil ?_
          show stepT _ _ _ _ _ _ _ _ _
          refine stepS (i := 12) rfl (by kernel_rfl) ?_
          intro K hK
          go_simp
          refine (refrun_any _ s _ v6 ((GV.out.below b6).get (List.Mem.head _)).2 hI9.out HI.out.2.2.2.2).mono ?_
          rintro e v12 ⟨rfl, bx⟩
          rw [HT.out.2.2.1]
          have b12 := b6.trans (bx.mono b6.size)
          refine hK _ _ ⟨fun _ => Grown.of_below b12, ?_⟩
          clear hK K
          refine stepS (i := 16) rfl (by kernel_rfl) ?_
          intro K hK
          go_simp
          refine (refrun_any _ s _ v12 ((GV.out.below b12).get (List.Mem.tail _ (List.Mem.tail _ (List.Mem.head _)))).2 HI.out.1 HI.out.2.2.2.2).mono ?_
          rintro e v16 ⟨rfl, bx⟩
          have b16 := b12.trans (bx.mono b12.size)
          refine hK _ _ ⟨fun _ => Grown.of_below b16, ?_⟩
          clear hK K
          refine stepS (i := 19) rfl (by kernel_rfl) ?_
          intro K hK
          go_simp
          refine (refrun_any _ s _ v16 ((GV.out.below b16).get (List.Mem.tail _ (List.Mem.head _))).2 HI.out.2.1 HI.out.2.2.2.2).mono ?_
          rintro e v19 ⟨rfl, bx⟩
          have b19 := b16.trans (bx.mono b16.size)
          refine hK _ _ ⟨fun _ => Grown.of_below b19, ?_⟩
          clear hK K
          refine stepS (i := 20) rfl (by kernel_rfl) ?_
          intro K hK
          go_simp
          refine (takes_any n hlt (runD D s) (runD E s) v19).mono ?_
          rintro e v20 ⟨rfl, bx⟩
          have b20 := b19.trans (bx.mono b19.size)
          refine hK _ _ ⟨fun _ => Grown.of_below b20, ?_⟩
          clear hK K
          generalize opB n (runD D s) (runD E s) = X
          cases X
          all_goals
            refine stepsQ [21, 22, 23, 24, 25, 26, 27, 28, 29, 31] (by kernel_rfl) (by kernel_rfl) (by kernel_rfl) (Grown.of_below b20) ?_
            simp only [atIdx, List.filterMap_cons, List.filterMap_nil, List.getElem?_toArray, List.getElem_toArray, List.getElem?_cons_zero, List.getElem?_cons_succ, List.getElem_cons_zero, List.getElem_cons_succ]
            iterate 10 (show wpQuiet _ _ _ _ (_ :: _) _; go_big_quiet_step (fail))
            refine wpQuiet_nil ?_
            show stepT _ _ _ _ _ _ _ _ _
            refine stepS (i := 30) rfl (by kernel_rfl) ?_
            intro K hK
            go_simp
            refine (refof_any _ _ v20 ((GV.out.below b20).get (List.Mem.head _)).2 hI9.out).mono ?_
            rintro e v30 ⟨rv30, rfl, hd30, bx⟩
            have b30 := b20.trans (bx.mono b20.size)
            refine hK _ _ ⟨fun _ => Grown.of_below b30, ?_⟩
            clear hK K
            refine stepS (i := 32) rfl (by kernel_rfl) ?_
            intro K hK
            go_simp
            refine (refsame_any _ _ _ _ v30 hd30 ((GV.out.below b30).get (List.Mem.head _)).2 (ofD_in _) hI9.out).mono ?_
            rintro e v32 ⟨rfl, bx⟩
            rw [HT.out.2.2.2]
            have b32 := b30.trans (bx.mono b30.size)
            refine hK _ _ ⟨fun _ => Grown.of_below b32, ?_⟩
            clear hK K
            refine stepsQ [33, 34, 35, 36] (by kernel_rfl) (by kernel_rfl) (by kernel_rfl) (Grown.of_below b32) ?_
            simp only [atIdx, List.filterMap_cons, List.filterMap_nil, List.getElem?_toArray, List.getElem_toArray, List.getElem?_cons_zero, List.getElem?_cons_succ, List.getElem_cons_zero, List.getElem_cons_succ]
            iterate 4 (show wpQuiet _ _ _ _ (_ :: _) _; go_big_quiet_step (fail))
            refine wpQuiet_nil ?_
            show stepT _ _ _ _ _ _ _ _ _
            refine stepT_end (by kernel_rfl) ?_
            have HZ := Lib.hid (GV.out.below b32).tl
            clear GV
            go_wp2_with fail
            go_roundw
            case rel => exact ⟨n + 1, by omega, by go_num, HZ⟩
            case measure => simp [intOf]; omega
        · have k30 : decide ((M9 : Int) < 30) = false := decide_eq_false (by omega)
          go_wp2_with fail
          generalize u1.alloc (.cells #[.int .i64 S9, .slice f9 F9 cf9, .slice k9 K9 ck9, .slice n9 M9 cn9] 26) = U at *
          rw [hp9] at G z0 z1 z2 z3
          try rw [hp9]
          clear hp9
          refine wp_region_T [] (by kernel_rfl) ?_
          intro V bb
          have lc : ∀ {p : Addr} {v : Value}, U.cell? p = some v → ∀ d os, (Sort.grow (redrawn V d) os).cell? p = some v := fun {p v} hp d os => ((bb.trans ((below_regrown V d os).mono bb.size)).cell (World.block_lt_of_cell? U p hp)).trans hp
          have q0 := lc y0
          have q1 := lc y1
          have q2 := lc y2
          have q3 := lc y3
          have q4 := lc x0
          have q5 := lc x1
          have q6 := lc x2
          have q7 := lc x3
          have q8 := lc z0
          have q9 := lc z1
          have q10 := lc z2
          have q11 := lc z3
          clear lc
          clear y0 y1 y2 y3 x0 x1 x2 x3 z0 z1 z2 z3
          have GV := Lib.hid (G.out.below bb)
          clear G bb
          refine stepsQ [0, 1, 2, 3, 4, 5] (by kernel_rfl) (by kernel_rfl) (by kernel_rfl) (Grown.of_below (Below.refl _ _)) ?_
          simp only [atIdx, List.filterMap_cons, List.filterMap_nil, List.getElem?_toArray, List.getElem_toArray, List.getElem?_cons_zero, List.getElem?_cons_succ, List.getElem_cons_zero, List.getElem_cons_succ]
          iterate 6 (show wpQuiet _ _ _ _ (_ :: _) _; go_big_quiet_step (fail))
          refine wpQuiet_nil ?_
          show stepT _ _ _ _ _ _ _ _ _
          refine stepS (i := 6) rfl (by kernel_rfl) ?_
          intro K hK
          go_simp
          refine (refdright_any _ _ V (GV.out.get (List.Mem.head _)).2 hI9.out).mono ?_
          rintro e v6 ⟨rfl, b6⟩
          rw [HT.out.2.1]
          refine hK _ _ ⟨fun _ => Grown.of_below b6, ?_⟩
          clear hK K
          refine stepsQ [7, 8, 9, 10, 11, 13, 14, 15, 17, 18] (by kernel_rfl) (by kernel_rfl) (by kernel_rfl) (Grown.of_below b6) ?_
          simp only [atIdx, List.filterMap_cons, List.filterMap_nil, List.getElem?_toArray, List.getElem_toArray, List.getElem?_cons_zero, List.getElem?_cons_succ, List.getElem_cons_zero, List.getElem_cons_succ]
          iterate 10 (show wpQuiet _ _ _ _ (_ :: _) _; go_big_quiet_step (fail))
          refine wpQuiet_nil ?_
          show stepT _ _ _ _ _ _ _ _ _
          refine stepS (i := 12) rfl (by kernel_rfl) ?_
          intro K hK
          go_simp
          refine (refrun_any _ s _ v6 ((GV.out.below b6).get (List.Mem.head _)).2 hI9.out HI.out.2.2.2.2).mono ?_
          rintro e v12 ⟨rfl, bx⟩
          rw [HT.out.2.2.1]
          have b12 := b6.trans (bx.mono b6.size)
          refine hK _ _ ⟨fun _ => Grown.of_below b12, ?_⟩
          clear hK K
          refine stepS (i := 16) rfl (by kernel_rfl) ?_
          intro K hK
          go_simp
          refine (refrun_any _ s _ v12 ((GV.out.below b12).get (List.Mem.tail _ (List.Mem.tail _ (List.Mem.head _)))).2 HI.out.1 HI.out.2.2.2.2).mono ?_
          rintro e v16 ⟨rfl, bx⟩
          have b16 := b12.trans (bx.mono b12.size)
          refine hK _ _ ⟨fun _ => Grown.of_below b16, ?_⟩
          clear hK K
          refine stepS (i := 19) rfl (by kernel_rfl) ?_
          intro K hK
          go_simp
          refine (refrun_any _ s _ v16 ((GV.out.below b16).get (List.Mem.tail _ (List.Mem.head _))).2 HI.out.2.1 HI.out.2.2.2.2).mono ?_
          rintro e v19 ⟨rfl, bx⟩
          have b19 := b16.trans (bx.mono b16.size)
          refine hK _ _ ⟨fun _ => Grown.of_below b19, ?_⟩
          clear hK K
          refine stepS (i := 20) rfl (by kernel_rfl) ?_
          intro K hK
          go_simp
          refine (takes_any n hlt (runD D s) (runD E s) v19).mono ?_
          rintro e v20 ⟨rfl, bx⟩
          have b20 := b19.trans (bx.mono b19.size)
          refine hK _ _ ⟨fun _ => Grown.of_below b20, ?_⟩
          clear hK K
          generalize opB n (runD D s) (runD E s) = X
          cases X
          all_goals
            refine stepsQ [21, 22, 23, 24, 25, 26, 27, 28, 29, 31] (by kernel_rfl) (by kernel_rfl) (by kernel_rfl) (Grown.of_below b20) ?_
            simp only [atIdx, List.filterMap_cons, List.filterMap_nil, List.getElem?_toArray, List.getElem_toArray, List.getElem?_cons_zero, List.getElem?_cons_succ, List.getElem_cons_zero, List.getElem_cons_succ]
            iterate 10 (show wpQuiet _ _ _ _ (_ :: _) _; go_big_quiet_step (fail))
            refine wpQuiet_nil ?_
            show stepT _ _ _ _ _ _ _ _ _
            refine stepS (i := 30) rfl (by kernel_rfl) ?_
            intro K hK
            go_simp
            refine hK _ _ ⟨fun _ => Grown.of_below b20, ?_⟩
            clear hK K
            refine stepS (i := 32) rfl (by kernel_rfl) ?_
            intro K hK
            go_simp
            refine hK _ _ ⟨fun _ => Grown.of_below b20, ?_⟩
            clear hK K
            refine stepsQ [33, 34, 35, 36] (by kernel_rfl) (by kernel_rfl) (by kernel_rfl) (Grown.of_below b20) ?_
            simp only [atIdx, List.filterMap_cons, List.filterMap_nil, List.getElem?_toArray, List.getElem_toArray, List.getElem?_cons_zero, List.getElem?_cons_succ, List.getElem_cons_zero, List.getElem_cons_succ]
            iterate 4 (show wpQuiet _ _ _ _ (_ :: _) _; go_big_quiet_step (fail))
            refine wpQuiet_nil ?_
            show stepT _ _ _ _ _ _ _ _ _
            refine stepT_end (by kernel_rfl) ?_
            have HZ := Lib.hid (GV.out.below b20).tl
            clear GV
            go_wp2_with fail
            go_roundw
            case rel => exact ⟨n + 1, by omega, by go_num, HZ⟩
            case measure => simp [intOf]; omega
      · skip
        obtain rfl : n = 4 := by omega
        obtain ⟨⟨y0, y1, y2, y3⟩, -⟩ := (G.out.get (List.Mem.tail _ (List.Mem.head _))).1.c4
        go_wp2_with fail
        refine (not_any _ D wr (G.out.get (List.Mem.tail _ (List.Mem.head _))).2 HI.out.1 G.out.T).mono ?_
        rintro e u1 ⟨rv, rfl, hd, bx⟩
        obtain ⟨S11, f11, k11, n11, F11, K11, M11, cf11, ck11, cn11, -, -, -, hM11, rfl⟩ := hd.form
        clear hM11
        have h0 := (G.out.below bx).push hd
        have G' := Lib.hid h0
        obtain ⟨p11, hp11⟩ : ∃ p, u1.heap.size = p := ⟨_, rfl⟩
        clear G bx hd h0
        try clear y0 y1 y2 y3
        try clear x0 x1 x2 x3
        try clear z0 z1 z2 z3
        have G := G'
        clear G'
        obtain ⟨⟨y0, y1, y2, y3⟩, -⟩ := (G.out.get (List.Mem.tail _ (List.Mem.tail _ (List.Mem.head _)))).1.c4
        go_wp2_with fail
        generalize u1.alloc (.cells #[.int .i64 S11, .slice f11 F11 cf11, .slice k11 K11 ck11, .slice n11 M11 cn11] 26) = U at *
        rw [hp11] at G
        try rw [hp11]
        clear hp11
        refine (refdright_any _ D U (G.out.get (List.Mem.tail _ (List.Mem.tail _ (List.Mem.head _)))).2 HI.out.1).mono ?_
        rintro e w7 ⟨rfl, bx⟩
        rw [HR.out]
        have G' := Lib.hid (G.out.below bx)
        clear G bx
        try clear y0 y1 y2 y3
        try clear x0 x1 x2 x3
        try clear z0 z1 z2 z3
        have G := G'
        clear G'
        obtain ⟨⟨y0, y1, y2, y3⟩, -⟩ := (G.out.get (List.Mem.tail _ (List.Mem.tail _ (List.Mem.head _)))).1.c4
        obtain ⟨⟨x0, x1, x2, x3⟩, -⟩ := (G.out.get (List.Mem.head _)).1.c4
        go_wp2_with fail
        refine wp_region_T [] (by kernel_rfl) ?_
        intro V bb
        have lc : ∀ {p : Addr} {v : Value}, w7.cell? p = some v → ∀ d os, (Sort.grow (redrawn V d) os).cell? p = some v := fun {p v} hp d os => ((bb.trans ((below_regrown V d os).mono bb.size)).cell (World.block_lt_of_cell? w7 p hp)).trans hp
        have q0 := lc y0
        have q1 := lc y1
        have q2 := lc y2
        have q3 := lc y3
        have q4 := lc x0
        have q5 := lc x1
        have q6 := lc x2
        have q7 := lc x3
        clear lc
        clear y0 y1 y2 y3 x0 x1 x2 x3
        have GV := Lib.hid (G.out.below bb)
        have HT := Lib.hid (takes_not (rightD_iff.1 HR.out) s)
        clear G bb
        refine stepsQ [0, 1, 3, 4] (by kernel_rfl) (by kernel_rfl) (by kernel_rfl) (Grown.of_below (Below.refl _ _)) ?_
        simp only [atIdx, List.filterMap_cons, List.filterMap_nil, List.getElem?_toArray, List.getElem_toArray, List.getElem?_cons_zero, List.getElem?_cons_succ, List.getElem_cons_zero, List.getElem_cons_succ]
        iterate 4 (show wpQuiet _ _ _ _ (_ :: _) _; go_big_quiet_step (fail))
        refine wpQuiet_nil ?_
        show stepT _ _ _ _ _ _ _ _ _
        refine stepS (i := 2) rfl (by kernel_rfl) ?_
        intro K hK
        go_simp
        refine (refrun_any _ s _ V (GV.out.get (List.Mem.head _)).2 (notC_in _) HI.out.2.2.2.2).mono ?_
        rintro e v2 ⟨rfl, b2⟩
        rw [HT.out.1]
        refine hK _ _ ⟨fun _ => Grown.of_below b2, ?_⟩
        clear hK K
        refine stepS (i := 5) rfl (by kernel_rfl) ?_
        intro K hK
        go_simp
        refine (refrun_any _ s _ v2 ((GV.out.below b2).get (List.Mem.tail _ (List.Mem.tail _ (List.Mem.head _)))).2 HI.out.1 HI.out.2.2.2.2).mono ?_
        rintro e v5 ⟨rfl, bx⟩
        have b5 := b2.trans (bx.mono b2.size)
        refine hK _ _ ⟨fun _ => Grown.of_below b5, ?_⟩
        clear hK K
        have HT2 := Lib.hid HT.out.2
        clear HT
        generalize runD D s = X
        cases X
        all_goals
          refine stepsQ [6, 7, 8, 10] (by kernel_rfl) (by kernel_rfl) (by kernel_rfl) (Grown.of_below b5) ?_
          simp only [atIdx, List.filterMap_cons, List.filterMap_nil, List.getElem?_toArray, List.getElem_toArray, List.getElem?_cons_zero, List.getElem?_cons_succ, List.getElem_cons_zero, List.getElem_cons_succ]
          iterate 4 (show wpQuiet _ _ _ _ (_ :: _) _; go_big_quiet_step (fail))
          refine wpQuiet_nil ?_
          show stepT _ _ _ _ _ _ _ _ _
          refine stepS (i := 9) rfl (by kernel_rfl) ?_
          intro K hK
          go_simp
          refine (refof_any _ _ v5 ((GV.out.below b5).get (List.Mem.head _)).2 (notC_in _)).mono ?_
          rintro e v9 ⟨rv9, rfl, hd9, bx⟩
          have b9 := b5.trans (bx.mono b5.size)
          refine hK _ _ ⟨fun _ => Grown.of_below b9, ?_⟩
          clear hK K
          refine stepS (i := 11) rfl (by kernel_rfl) ?_
          intro K hK
          go_simp
          refine (refsame_any _ _ _ _ v9 hd9 ((GV.out.below b9).get (List.Mem.head _)).2 (ofD_in _) (notC_in _)).mono ?_
          rintro e v11 ⟨rfl, bx⟩
          rw [HT2.out]
          have b11 := b9.trans (bx.mono b9.size)
          refine hK _ _ ⟨fun _ => Grown.of_below b11, ?_⟩
          clear hK K
          refine stepsQ [12, 13] (by kernel_rfl) (by kernel_rfl) (by kernel_rfl) (Grown.of_below b11) ?_
          simp only [atIdx, List.filterMap_cons, List.filterMap_nil, List.getElem?_toArray, List.getElem_toArray, List.getElem?_cons_zero, List.getElem?_cons_succ, List.getElem_cons_zero, List.getElem_cons_succ]
          iterate 2 (show wpQuiet _ _ _ _ (_ :: _) _; go_big_quiet_step (fail))
          refine wpQuiet_nil ?_
          show stepT _ _ _ _ _ _ _ _ _
          refine stepS (i := 14) rfl (by kernel_rfl) ?_
          intro K hK
          go_simp
          refine (prworks_any v11 (GV.out.below b11).T).mono ?_
          rintro e v14 ⟨rfl, bx⟩
          have b14 := b11.trans (bx.mono b11.size)
          refine hK _ _ ⟨fun _ => Grown.of_below b14, ?_⟩
          clear hK K
          refine stepsQ [15] (by kernel_rfl) (by kernel_rfl) (by kernel_rfl) (Grown.of_below b14) ?_
          simp only [atIdx, List.filterMap_cons, List.filterMap_nil, List.getElem?_toArray, List.getElem_toArray, List.getElem?_cons_zero, List.getElem?_cons_succ, List.getElem_cons_zero, List.getElem_cons_succ]
          iterate 1 (show wpQuiet _ _ _ _ (_ :: _) _; go_big_quiet_step (fail))
          refine wpQuiet_nil ?_
          show stepT _ _ _ _ _ _ _ _ _
          refine stepS (i := 16) rfl (by kernel_rfl) ?_
          intro K hK
          go_simp
          refine hK _ _ ⟨fun _ => Grown.of_below b14, ?_⟩
          clear hK K
          refine stepT_end (by kernel_rfl) ?_
          have hfin := (GV.out.below b14).bl
          go_wp2_with fail
          go_ret
          exact ⟨rfl, hfin⟩

namespace prodTakesW
set_option maxRecDepth 100000 in
theorem walkRaw {H : Type} (enc : TypeId × Value → H) (v0 v1 : Value) (a2 : ByteArray) (W : World) {base base' : Nat} {d0 d1 : DataW H} {p0 p1 : List MemPlace}
    (wv0 : Value.okWide Tryz.prog W .any base 26 v0) (h0 : DataW.Trod enc Tryz.prog W 0 (fun _ => true) true 26 v0 d0 p0) (_lt0 : ∀ x ∈ p0, x.block < W.heap.size)
    (wv1 : Value.okWide Tryz.prog W .any base' 26 v1) (h1 : DataW.Trod enc Tryz.prog W 0 (fun _ => true) true 26 v1 d1 p1) (_lt1 : ∀ x ∈ p1, x.block < W.heap.size)
    (w2 : a2.size ≤ maxLen) (hL : laidMet Tryz.prog Rows.prodTakesRow.laid W) :
    Calls Tryz.prog 3 #[v0, v1, .string a2] W fun e w' => e = .returned (.bool true) ∧ Below W.heap.size W w' := by
  obtain ⟨D, hD, hI⟩ := open_dfa wv0 h0
  obtain ⟨E, hE, hJ⟩ := open_dfa wv1 h1
  exact law_ptakes v0 v1 D E a2 W hD hE hI hJ w2 (pow_in hL (by simp [Rows.prodTakesRow]))
end prodTakesW
end Go.Proofs.YtpcoijjcjamgiaaGreatDoor
