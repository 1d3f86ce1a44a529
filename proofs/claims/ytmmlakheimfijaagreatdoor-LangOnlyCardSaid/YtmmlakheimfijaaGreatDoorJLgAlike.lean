/-
  The walks of lang.Inside and lang.Alike. Conditions: the automata lie in memory; the table of powers lies as laid.
-/
import Derived.Test.YtmmlakheimfijaaGreatDoorJLgFirst
import Derived.Test.YtmmlakheimfijaaGreatDoorJLgOnly
import Derived.Test.YtmmlakheimfijaaGreatDoorJBoth
import Derived.Test.YtmmlakheimfijaaGreatDoorJDfa
namespace Go.Proofs.YtmmlakheimfijaaGreatDoor
set_option linter.unusedVariables false
set_option linter.unusedSimpArgs false
open Go.RowKit Go.Maps Go.Sort Go.ChangeShapes Go.WideShapes

noncomputable def alikeD (D E : DfaI) : Bool := rightD D && rightD E && eqD (ofD D) (ofD E)
set_option maxHeartbeats 8000000 in
set_option maxRecDepth 1000000 in
theorem alike_any (va vb : Value) (D E : DfaI) (w : World) (ha : DfaAt w va D) (hb : DfaAt w vb E) (hD : D.In) (hE : E.In) (hT : Pow10 w) :
    Calls Tryz.prog 18 #[va, vb] w fun e w' => e = .returned (.bool (alikeD D E)) ∧ Below w.heap.size w w' := by
  obtain ⟨S, af, ab, an, F, K1, M, cf, cb, cn, hS, hF, hK1, hM, rfl⟩ := ha.form
  obtain ⟨S', ef, eb, en, F', K2, M', ce, ce', ce'', hS', hF', hK2, hM', rfl⟩ := hb.form
  have hz0 : (w.alloc (.cells #[.int .i64 S, .slice af F cf, .slice ab K1 cb, .slice an M cn] 26)).heap.size = w.heap.size + 1 := by simp
  have b0 := (Below.refl w.heap.size w).alloc (Nat.le_refl _) (.cells #[.int .i64 S, .slice af F cf, .slice ab K1 cb, .slice an M cn] 26)
  have b1 := b0.alloc (by rw [hz0]; omega) (.cells #[.int .i64 S', .slice ef F' ce, .slice eb K2 ce', .slice en M' ce''] 26)
  have hz1 : ((w.alloc (.cells #[.int .i64 S, .slice af F cf, .slice ab K1 cb, .slice an M cn] 26)).alloc (.cells #[.int .i64 S', .slice ef F' ce, .slice eb K2 ce', .slice en M' ce''] 26)).heap.size = w.heap.size + 2 := by simp
  have qa := (Blk.new w 26 #[.int .i64 S, .slice af F cf, .slice ab K1 cb, .slice an M cn]).alloc (.cells #[.int .i64 S', .slice ef F' ce, .slice eb K2 ce', .slice en M' ce''] 26)
  have qb := Blk.new (w.alloc (.cells #[.int .i64 S, .slice af F cf, .slice ab K1 cb, .slice an M cn] 26)) 26 #[.int .i64 S', .slice ef F' ce, .slice eb K2 ce', .slice en M' ce'']
  rw [hz0] at qb
  have HD := Lib.hid (And.intro (ha.below b1) (And.intro (hb.below b1) (And.intro qa (And.intro qb (And.intro b1 (hT.below b1 (Nat.le_refl _)))))))
  have HI := Lib.hid (And.intro hD hE)
  clear ha hb hS hF hK1 hM hS' hF' hK2 hM' b0 b1 qa qb hT hD hE
  go_enter Tryz.func18, Tryz.ntmps18
  go_wp2_with fail
  clear hz0
  generalize (w.alloc (.cells #[.int .i64 S, .slice af F cf, .slice ab K1 cb, .slice an M cn] 26)).alloc (.cells #[.int .i64 S', .slice ef F' ce, .slice eb K2 ce', .slice en M' ce''] 26) = W at *
  refine wp_region_T [] (by kernel_rfl) ?_
  intro V bb
  have H := Lib.hid (And.intro (HD.out.1.below bb) (And.intro (HD.out.2.1.below bb) (And.intro (HD.out.2.2.1.below bb (by omega)) (And.intro (HD.out.2.2.2.1.below bb (by omega)) (And.intro (HD.out.2.2.2.2.1.trans (bb.mono (by omega))) (HD.out.2.2.2.2.2.below bb (Nat.le_refl _)))))))
  have hzV := bb.size
  clear HD bb
  have lc : ∀ {p : Addr} {v : Value}, V.cell? p = some v → ∀ d os, (Sort.grow (redrawn V d) os).cell? p = some v := fun {p v} hp d os => ((below_regrown V d os).cell (World.block_lt_of_cell? V p hp)).trans hp
  obtain ⟨⟨y0, y1, y2, y3⟩, -⟩ := (H.out.2.2.1).c4
  have q0 := lc y0
  have q1 := lc y1
  have q2 := lc y2
  have q3 := lc y3
  clear lc y0 y1 y2 y3
  refine stepsQ [0] (by kernel_rfl) (by kernel_rfl) (by kernel_rfl) (Grown.of_below (Below.refl _ _)) ?_
  simp only [atIdx, List.filterMap_cons, List.filterMap_nil, List.getElem?_toArray, List.getElem_toArray, List.getElem?_cons_zero, List.getElem?_cons_succ, List.getElem_cons_zero, List.getElem_cons_succ]
  iterate 1 (show wpQuiet _ _ _ _ (_ :: _) _; go_big_quiet_step (fail))
  refine wpQuiet_nil ?_
  show stepT _ _ _ _ _ _ _ _ _
  clear q0 q1 q2 q3
  have hcall := dright_any _ D V H.out.1 HI.out.1
  obtain ⟨rD, hrD⟩ : ∃ r, rightD D = r := ⟨_, rfl⟩
  rw [hrD] at hcall
  refine stepS (i := 1) rfl (by kernel_rfl) ?_
  intro K hK
  go_simp
  refine hcall.mono ?_
  rintro e V1 ⟨rfl, b1⟩
  refine hK _ _ ⟨fun _ => Grown.of_below b1, ?_⟩
  clear hK K hcall
  have H1 := Lib.hid (And.intro (H.out.1.below b1) (And.intro (H.out.2.1.below b1) (And.intro (H.out.2.2.1.below b1 (by omega)) (And.intro (H.out.2.2.2.1.below b1 (by omega)) (And.intro (H.out.2.2.2.2.1.trans (b1.mono (by omega))) (H.out.2.2.2.2.2.below b1 (Nat.le_refl _)))))))
  have hz2 := b1.size
  have HrD := Lib.hid hrD
  clear hrD
  cases rD with
  | false =>
    refine stepsQ [2, 3] (by kernel_rfl) (by kernel_rfl) (by kernel_rfl) (Grown.of_below b1) ?_
    simp only [atIdx, List.filterMap_cons, List.filterMap_nil, List.getElem?_toArray, List.getElem_toArray, List.getElem?_cons_zero, List.getElem?_cons_succ, List.getElem_cons_zero, List.getElem_cons_succ]
    iterate 2 (show wpQuiet _ _ _ _ (_ :: _) _; go_big_quiet_step (fail))
    refine wpQuiet_nil ?_
    show stepT _ _ _ _ _ _ _ _ _
    refine stepS (i := 4) rfl (by kernel_rfl) ?_
    intro K hK
    go_simp
    refine hK _ _ ⟨fun _ => Grown.of_below b1, ?_⟩
    clear hK K
    refine stepsQ [5, 6, 7, 9] (by kernel_rfl) (by kernel_rfl) (by kernel_rfl) (Grown.of_below b1) ?_
    simp only [atIdx, List.filterMap_cons, List.filterMap_nil, List.getElem?_toArray, List.getElem_toArray, List.getElem?_cons_zero, List.getElem?_cons_succ, List.getElem_cons_zero, List.getElem_cons_succ]
    iterate 4 (show wpQuiet _ _ _ _ (_ :: _) _; go_big_quiet_step (fail))
    refine wpQuiet_nil ?_
    show stepT _ _ _ _ _ _ _ _ _
    refine stepS (i := 8) rfl (by kernel_rfl) ?_
    intro K hK
    go_simp
    refine hK _ _ ⟨fun _ => Grown.of_below b1, ?_⟩
    clear hK K
    refine stepS (i := 10) rfl (by kernel_rfl) ?_
    intro K hK
    go_simp
    refine hK _ _ ⟨fun _ => Grown.of_below b1, ?_⟩
    clear hK K
    refine stepS (i := 11) rfl (by kernel_rfl) ?_
    intro K hK
    go_simp
    refine hK _ _ ⟨fun _ => Grown.of_below b1, ?_⟩
    clear hK K
    refine stepsQ [12, 13] (by kernel_rfl) (by kernel_rfl) (by kernel_rfl) (Grown.of_below b1) ?_
    simp only [atIdx, List.filterMap_cons, List.filterMap_nil, List.getElem?_toArray, List.getElem_toArray, List.getElem?_cons_zero, List.getElem?_cons_succ, List.getElem_cons_zero, List.getElem_cons_succ]
    iterate 2 (show wpQuiet _ _ _ _ (_ :: _) _; go_big_quiet_step (fail))
    refine wpQuiet_nil ?_
    show stepT _ _ _ _ _ _ _ _ _
    refine stepT_end (by kernel_rfl) ?_
    go_wp2_with fail
    go_ret
    exact ⟨ret_bool (by unfold alikeD; rw [HrD.out]; rfl), H1.out.2.2.2.2.1⟩
  | true =>
    have lc : ∀ {p : Addr} {v : Value}, V.cell? p = some v → ∀ d os, (Sort.grow (redrawn V d) os).cell? p = some v := fun {p v} hp d os => ((below_regrown V d os).cell (World.block_lt_of_cell? V p hp)).trans hp
    obtain ⟨⟨y0, y1, y2, y3⟩, -⟩ := (H.out.2.2.2.1).c4
    have q0 := lc y0
    have q1 := lc y1
    have q2 := lc y2
    have q3 := lc y3
    clear lc y0 y1 y2 y3
    refine stepsQ [2, 3] (by kernel_rfl) (by kernel_rfl) (by kernel_rfl) (Grown.of_below b1) ?_
    simp only [atIdx, List.filterMap_cons, List.filterMap_nil, List.getElem?_toArray, List.getElem_toArray, List.getElem?_cons_zero, List.getElem?_cons_succ, List.getElem_cons_zero, List.getElem_cons_succ]
    iterate 2 (show wpQuiet _ _ _ _ (_ :: _) _; go_big_quiet_step (fail))
    refine wpQuiet_nil ?_
    show stepT _ _ _ _ _ _ _ _ _
    clear q0 q1 q2 q3
    have hcall := dright_any _ E V1 H1.out.2.1 HI.out.2
    obtain ⟨rE, hrE⟩ : ∃ r, rightD E = r := ⟨_, rfl⟩
    rw [hrE] at hcall
    refine stepS (i := 4) rfl (by kernel_rfl) ?_
    intro K hK
    go_simp
    refine hcall.mono ?_
    rintro e V2 ⟨rfl, b2⟩
    have b12 := b1.trans (b2.mono b1.size)
    refine hK _ _ ⟨fun _ => Grown.of_below b12, ?_⟩
    clear hK K hcall
    have H2 := Lib.hid (And.intro (H1.out.1.below b2) (And.intro (H1.out.2.1.below b2) (And.intro (H1.out.2.2.1.below b2 (by omega)) (And.intro (H1.out.2.2.2.1.below b2 (by omega)) (And.intro (H1.out.2.2.2.2.1.trans (b2.mono (by omega))) (H1.out.2.2.2.2.2.below b2 (Nat.le_refl _)))))))
    have hz3 := b2.size
    have HrE := Lib.hid hrE
    clear hrE b2
    cases rE with
    | false =>
      refine stepsQ [5, 6, 7, 9] (by kernel_rfl) (by kernel_rfl) (by kernel_rfl) (Grown.of_below b12) ?_
      simp only [atIdx, List.filterMap_cons, List.filterMap_nil, List.getElem?_toArray, List.getElem_toArray, List.getElem?_cons_zero, List.getElem?_cons_succ, List.getElem_cons_zero, List.getElem_cons_succ]
      iterate 4 (show wpQuiet _ _ _ _ (_ :: _) _; go_big_quiet_step (fail))
      refine wpQuiet_nil ?_
      show stepT _ _ _ _ _ _ _ _ _
      refine stepS (i := 8) rfl (by kernel_rfl) ?_
      intro K hK
      go_simp
      refine hK _ _ ⟨fun _ => Grown.of_below b12, ?_⟩
      clear hK K
      refine stepS (i := 10) rfl (by kernel_rfl) ?_
      intro K hK
      go_simp
      refine hK _ _ ⟨fun _ => Grown.of_below b12, ?_⟩
      clear hK K
      refine stepS (i := 11) rfl (by kernel_rfl) ?_
      intro K hK
      go_simp
      refine hK _ _ ⟨fun _ => Grown.of_below b12, ?_⟩
      clear hK K
      refine stepsQ [12, 13] (by kernel_rfl) (by kernel_rfl) (by kernel_rfl) (Grown.of_below b12) ?_
      simp only [atIdx, List.filterMap_cons, List.filterMap_nil, List.getElem?_toArray, List.getElem_toArray, List.getElem?_cons_zero, List.getElem?_cons_succ, List.getElem_cons_zero, List.getElem_cons_succ]
      iterate 2 (show wpQuiet _ _ _ _ (_ :: _) _; go_big_quiet_step (fail))
      refine wpQuiet_nil ?_
      show stepT _ _ _ _ _ _ _ _ _
      refine stepT_end (by kernel_rfl) ?_
      go_wp2_with fail
      go_ret
      exact ⟨ret_bool (by unfold alikeD; rw [HrE.out, Bool.and_false]; rfl), H2.out.2.2.2.2.1⟩
    | true =>
      have lc : ∀ {p : Addr} {v : Value}, V.cell? p = some v → ∀ d os, (Sort.grow (redrawn V d) os).cell? p = some v := fun {p v} hp d os => ((below_regrown V d os).cell (World.block_lt_of_cell? V p hp)).trans hp
      obtain ⟨⟨y0, y1, y2, y3⟩, -⟩ := (H.out.2.2.1).c4
      have q0 := lc y0
      have q1 := lc y1
      have q2 := lc y2
      have q3 := lc y3
      clear lc y0 y1 y2 y3
      have lc2 : ∀ {p : Addr} {v : Value}, V.cell? p = some v → ∀ d os, (Sort.grow (redrawn V d) os).cell? p = some v := fun {p v} hp d os => ((below_regrown V d os).cell (World.block_lt_of_cell? V p hp)).trans hp
      obtain ⟨⟨x0, x1, x2, x3⟩, -⟩ := (H.out.2.2.2.1).c4
      have p0 := lc2 x0
      have p1 := lc2 x1
      have p2 := lc2 x2
      have p3 := lc2 x3
      clear lc2 x0 x1 x2 x3
      refine stepsQ [5, 6, 7, 9] (by kernel_rfl) (by kernel_rfl) (by kernel_rfl) (Grown.of_below b12) ?_
      simp only [atIdx, List.filterMap_cons, List.filterMap_nil, List.getElem?_toArray, List.getElem_toArray, List.getElem?_cons_zero, List.getElem?_cons_succ, List.getElem_cons_zero, List.getElem_cons_succ]
      iterate 4 (show wpQuiet _ _ _ _ (_ :: _) _; go_big_quiet_step (fail))
      refine wpQuiet_nil ?_
      show stepT _ _ _ _ _ _ _ _ _
      clear q0 q1 q2 q3 p0 p1 p2 p3
      have hof := of_any2 _ D V2 H2.out.1 HI.out.1 H2.out.2.2.2.2.2
      refine stepS (i := 8) rfl (by kernel_rfl) ?_
      intro K hK
      go_simp
      refine hof.mono ?_
      rintro e V3 ⟨rv, rfl, hd3, b3, -⟩
      have b13 := b12.trans (b3.mono b12.size)
      refine hK _ _ ⟨fun _ => Grown.of_below b13, ?_⟩
      clear hK K hof
      have H3 := Lib.hid (And.intro hd3 (And.intro (H2.out.2.1.below b3) (And.intro (H2.out.2.2.2.2.1.trans (b3.mono (by omega))) (H2.out.2.2.2.2.2.below b3 (Nat.le_refl _)))))
      have hz4 := b3.size
      clear hd3 b3
      have hof := of_any2 _ E V3 H3.out.2.1 HI.out.2 H3.out.2.2.2
      refine stepS (i := 10) rfl (by kernel_rfl) ?_
      intro K hK
      go_simp
      refine hof.mono ?_
      rintro e V4 ⟨rv2, rfl, hd4, b4, -⟩
      have b14 := b13.trans (b4.mono b13.size)
      refine hK _ _ ⟨fun _ => Grown.of_below b14, ?_⟩
      clear hK K hof
      have hsm := lsame_any _ _ (ofD D) (ofD E) V4 (H3.out.1.below b4) hd4 (ofD_in D) (ofD_in E)
      have H4 := Lib.hid (H3.out.2.2.1.trans (b4.mono (by omega)))
      have hz5 := b4.size
      clear hd4 b4
      refine stepS (i := 11) rfl (by kernel_rfl) ?_
      intro K hK
      go_simp
      refine hsm.mono ?_
      rintro e V5 ⟨rfl, b5⟩
      have b15 := b14.trans (b5.mono b14.size)
      refine hK _ _ ⟨fun _ => Grown.of_below b15, ?_⟩
      clear hK K hsm
      have H5 := Lib.hid (H4.out.trans (b5.mono (by omega)))
      obtain ⟨R, hR⟩ : ∃ R, eqD (ofD D) (ofD E) = R := ⟨_, rfl⟩
      rw [hR]
      have HR := Lib.hid (show alikeD D E = R by unfold alikeD; rw [HrD.out, HrE.out, hR]; rfl)
      clear hR
      refine stepsQ [12, 13] (by kernel_rfl) (by kernel_rfl) (by kernel_rfl) (Grown.of_below b15) ?_
      simp only [atIdx, List.filterMap_cons, List.filterMap_nil, List.getElem?_toArray, List.getElem_toArray, List.getElem?_cons_zero, List.getElem?_cons_succ, List.getElem_cons_zero, List.getElem_cons_succ]
      iterate 2 (show wpQuiet _ _ _ _ (_ :: _) _; go_big_quiet_step (fail))
      refine wpQuiet_nil ?_
      show stepT _ _ _ _ _ _ _ _ _
      refine stepT_end (by kernel_rfl) ?_
      go_wp2_with fail
      go_ret
      exact ⟨ret_bool HR.out.symm, H5.out⟩
/-- what Inside tells -/
noncomputable def insideB (D E : DfaI) : Bool := decide (bothE D E = 0) && !(firstRes (bothD lessB D E)).isSome
set_option maxHeartbeats 8000000 in
set_option maxRecDepth 1000000 in
theorem inside_any (va vb : Value) (D E : DfaI) (w : World) (ha : DfaAt w va D) (hb : DfaAt w vb E) (hD : D.In) (hE : E.In) (hT : Pow10 w) :
    Calls Tryz.prog 21 #[va, vb] w fun e w' => e = .returned (.tuple #[.bool (insideB D E), .int .i64 (bothE D E)]) ∧ Below w.heap.size w w' := by
  obtain ⟨S, af, ab, an, F, K1, M, cf, cb, cn, hS, hF, hK1, hM, rfl⟩ := ha.form
  obtain ⟨S', ef, eb, en, F', K2, M', ce, ce', ce'', hS', hF', hK2, hM', rfl⟩ := hb.form
  have hz0 : (w.alloc (.cells #[.int .i64 S, .slice af F cf, .slice ab K1 cb, .slice an M cn] 26)).heap.size = w.heap.size + 1 := by simp
  have b0 := (Below.refl w.heap.size w).alloc (Nat.le_refl _) (.cells #[.int .i64 S, .slice af F cf, .slice ab K1 cb, .slice an M cn] 26)
  have b1 := b0.alloc (by rw [hz0]; omega) (.cells #[.int .i64 S', .slice ef F' ce, .slice eb K2 ce', .slice en M' ce''] 26)
  have qa := (Blk.new w 26 #[.int .i64 S, .slice af F cf, .slice ab K1 cb, .slice an M cn]).alloc (.cells #[.int .i64 S', .slice ef F' ce, .slice eb K2 ce', .slice en M' ce''] 26)
  have qb := Blk.new (w.alloc (.cells #[.int .i64 S, .slice af F cf, .slice ab K1 cb, .slice an M cn] 26)) 26 #[.int .i64 S', .slice ef F' ce, .slice eb K2 ce', .slice en M' ce'']
  rw [hz0] at qb
  obtain ⟨⟨y0, y1, y2, y3⟩, -⟩ := qa.c4
  obtain ⟨⟨x0, x1, x2, x3⟩, -⟩ := qb.c4
  have hless := less_any _ _ D E ((w.alloc (.cells #[.int .i64 S, .slice af F cf, .slice ab K1 cb, .slice an M cn] 26)).alloc (.cells #[.int .i64 S', .slice ef F' ce, .slice eb K2 ce', .slice en M' ce''] 26)) (ha.below b1) (hb.below b1) hD hE (hT.below b1 (Nat.le_refl _))
  have HD := Lib.hid b1
  clear ha hb hS hF hK1 hM hS' hF' hK2 hM' b0 b1 qa qb hT hD hE hz0
  go_enter Tryz.func21, Tryz.ntmps21
  go_wp2_with fail
  refine hless.mono ?_
  rintro e w1 ⟨rv, rfl, hout, b1⟩
  clear x0 x1 x2 x3 y0 y1 y2 y3 hless
  have hd := hout.at_
  obtain ⟨S3, f3, k3, n3, F3, K3, M3, c31, c32, c33, hS3, -, -, -, rfl⟩ := hd.form
  have hbb := HD.out.trans (b1.mono HD.out.size)
  have hal := (Below.refl w1.heap.size w1).alloc (Nat.le_refl _) (.cells #[.int .i64 S3, .slice f3 F3 c31, .slice k3 K3 c32, .slice n3 M3 c33] 26)
  have hfirst := lfirst_any _ (bothD lessB D E) _ (hd.below hal) (bothD_in lessB D E)
  have hbb2 := hbb.trans (hal.mono hbb.size)
  have HB := Lib.hid (And.intro hbb hbb2)
  clear hout b1 hd hbb hbb2
  by_cases he : bothE D E = 0
  · have hib : insideB D E = !(firstRes (bothD lessB D E)).isSome := by unfold insideB; rw [decide_eq_true he, Bool.true_and]
    rw [he]
    have hq3 := Blk.new w1 26 #[.int .i64 S3, .slice f3 F3 c31, .slice k3 K3 c32, .slice n3 M3 c33]
    obtain ⟨⟨z0, z1, z2, z3⟩, -⟩ := hq3.c4
    unfold firstV at hfirst
    obtain ⟨T, hT⟩ : ∃ T, bsT ((firstRes (bothD lessB D E)).getD []) = T := ⟨_, rfl⟩
    obtain ⟨B, hB⟩ : ∃ B, (firstRes (bothD lessB D E)).isSome = B := ⟨_, rfl⟩
    rw [hT, hB] at hfirst
    rw [hB] at hib
    have HIB := Lib.hid (And.intro hib he)
    clear he hib hT hB hal hq3
    go_wp2_with fail
    refine hfirst.mono ?_
    rintro e w3 ⟨rfl, b3⟩
    have hb3 := HB.out.2.trans (b3.mono HB.out.2.size)
    have HB3 := Lib.hid hb3
    clear z0 z1 z2 z3 hfirst b3 hb3
    go_wp2_with fail
    refine bodyPost_ret (results_tmp2 rfl _ _ _) rfl ?_
    exact ⟨by rw [HIB.out.1, HIB.out.2]; rfl, HB3.out⟩
  · have hib : insideB D E = false := by unfold insideB; rw [decide_eq_false he, Bool.false_and]
    obtain ⟨X, hX⟩ : ∃ X, bothE D E = X := ⟨_, rfl⟩
    rw [hX] at he ⊢
    have HIB := Lib.hid (And.intro hib hX)
    clear hib hX hal hfirst
    go_wp2_with fail
    refine bodyPost_ret (results_tmp2 rfl _ _ _) rfl ?_
    exact ⟨by rw [HIB.out.1, HIB.out.2]; rfl, HB.out.2⟩
end Go.Proofs.YtmmlakheimfijaaGreatDoor
