/-
  The walk of the program's Set. Conditions: the words fit; the table of the library lies as laid.
-/
import Derived.Test.YtpknglbpbodnbaaDoorJRgBuild
namespace Go.Proofs.YtpknglbpbodnbaaDoor
set_option linter.unusedVariables false
set_option linter.unusedSimpArgs false
open Go.RowKit Go.Sort Cs Rg Go.ChangeShapes Go.WideShapes

/-- a new variable that is a set -/
theorem alloc_set (o : Oper) (h : o.op = .alloc 24) (ρ : Operand → Value) (w : World) :
    (execOp ρ o).run Tryd.prog w = .ok (.value (.pointer (some ⟨w.heap.size, 0, none⟩))) (w.alloc (.cells #[.int .u64 0, .int .u64 0, .int .u64 0, .int .u64 0] 24)) := by
  simp [execOp, h, go_sem]
def zeroC (_ : TypeId) : Array Value := #[.int .u64 0, .int .u64 0, .int .u64 0, .int .u64 0]
theorem four_blk {w : World} {g : Nat} {t : TypeId} (h : w.heap[g]? = some (.cells #[.int .u64 0, .int .u64 0, .int .u64 0, .int .u64 0] t (0, 0))) : Four w g noneS :=
  ⟨fun i hi => by
    rw [cell_of_row w g i _ t (0, 0) h]
    obtain rfl | rfl | rfl | rfl : i = 0 ∨ i = 1 ∨ i = 2 ∨ i = 3 := by omega
    · rfl
    · rfl
    · rfl
    · rfl, fun i => by simp [World.frozen?, h]⟩
theorem s4_dec (s t : Nat → Int) : decide (s4 s = s4 t) = true ↔ ∀ i, i < 4 → s i = t i := by rw [decide_eq_true_eq, s4_eq]
theorem run_eq_s4 (s t : Nat → Int) (w : World) :
    (Op.equalIn 10000 24 (.agg #[.int .u64 (s 0), .int .u64 (s 1), .int .u64 (s 2), .int .u64 (s 3)]) (.agg #[.int .u64 (t 0), .int .u64 (t 1), .int .u64 (t 2), .int .u64 (t 3)])).run Tryd.prog w = .ok (decide (s4 s = s4 t)) w := run_eq_set s t _ (s4_dec s t) w
theorem endF_step {s : Nat → Int} {lo : Nat} (h : lo < 256) (hh : hasS s lo = true) : endF s (256 - lo) lo = endF s (255 - lo) (lo + 1) := by
  obtain ⟨k, hk⟩ : ∃ k, 256 - lo = k + 1 := ⟨255 - lo, by omega⟩
  rw [hk, endF, if_pos hh]
  congr 1
  omega
theorem withinT_len (b : Nat) : (withinT b).length ≤ 4 := by
  unfold withinT signT
  split
  · simp
  · split <;> simp
theorem Four.belowB {w w' : World} {g B : Nat} {f : Nat → Int} (h : Four w g f) (hb : Below B w w') (hg : g < B) : Four w' g f :=
  ⟨fun i hi => (hb.cell (p := ⟨g, i, none⟩) hg).trans (h.cell i hi), fun i => (hb.frozen (p := ⟨g, i, none⟩) hg).trans (h.free i)⟩
/-- the loop's state -/
structure Lp (w w' : World) (s : Nat → Int) (b : Nat) (acc : List Nat) : Prop where
  a : Four w' w.heap.size s
  bl : Bld w' b acc
  below : Below w.heap.size w w'
  lt : w.heap.size < b
theorem Lp.go {w w' w2 : World} {s : Nat → Int} {b : Nat} {acc : List Nat} (h : Lp w w' s b acc) (hb : Below w'.heap.size w' w2) : Lp w w2 s b acc :=
  ⟨h.a.below hb (Nat.lt_trans h.lt h.bl.lt), h.bl.below hb, h.below.trans (hb.mono h.below.size), h.lt⟩
theorem Lp.put {w w' w2 : World} {s : Nat → Int} {b : Nat} {acc acc2 : List Nat} (h : Lp w w' s b acc) (hb : Below b w' w2) (h2 : Bld w2 b acc2) : Lp w w2 s b acc2 :=
  ⟨h.a.belowB hb h.lt, h2, h.below.trans (hb.mono (Nat.le_of_lt h.lt)), h.lt⟩
theorem runs_no {s : Nat → Int} {k lo : Nat} (hl : lo < 256) (h : hasS s lo = false) : runsF s (k + 1) lo = runsF s k (lo + 1) := by
  rw [runsF, if_neg (by omega), if_neg (by rw [h]; simp)]
theorem runs_yes {s : Nat → Int} {k lo e : Nat} (hl : lo < 256) (h : hasS s lo = true) (he : endF s (256 - lo) lo = e) : runsF s (k + 1) lo = Rg.runT lo e ++ runsF s k e := by
  rw [runsF, if_neg (by omega), if_pos h, he]
theorem runs_end {s : Nat → Int} {k lo : Nat} (hl : 256 ≤ lo) : runsF s k lo = [] := by
  cases k with
  | zero => rfl
  | succ k => rw [runsF, if_pos hl]
theorem runT_len (lo e : Nat) : (Rg.runT lo e).length ≤ 9 := by
  unfold Rg.runT
  have h1 := withinT_len lo
  have h2 := withinT_len (e - 1)
  simp only [List.length_append]
  split <;> split <;> simp <;> omega
set_option maxRecDepth 100000 in
theorem cv_u8 (m : Nat) (h : m < 256) (w : World) : (convert 3 5 (.int .i64 (m : Int))).run Tryd.prog w = .ok (.int .u8 (m : Int)) w := by
  have hwb : IntKind.u8.wrap (m : Int) = (m : Int) := by rw [IntKind.wrap_u8]; omega
  have e := run_convert_int (P := Tryd.prog) (w := w) 3 5 .i64 (m : Int) (by rw [Tryd.underlying3]; rfl) Tryd.underlying5
  rw [show Tryd.prog.intKind 5 = .u8 from by kernel_rfl, hwb] at e
  exact e
/-- what lies there -/
structure St (w w' : World) (s f f7 : Nat → Int) (d e : Nat) : Prop where
  a : Four w' w.heap.size s
  b : Four w' d f
  c : Four w' e f7
  below : Below w.heap.size w w'
  la : w.heap.size < w'.heap.size
  lb : d < w'.heap.size
  lc : e < w'.heap.size
theorem St.go {w w' w2 : World} {s f f7 : Nat → Int} {d e : Nat} (h : St w w' s f f7 d e) (b : Below w'.heap.size w' w2) : St w w2 s f f7 d e :=
  ⟨h.a.below b h.la, h.b.below b h.lb, h.c.below b h.lc, h.below.trans (b.mono h.below.size), Nat.lt_of_lt_of_le h.la b.size, Nat.lt_of_lt_of_le h.lb b.size, Nat.lt_of_lt_of_le h.lc b.size⟩
theorem setT_none {s : Nat → Int} (h : s4 s = none4) : setT (s4 s) = [91, 94, 92, 120, 48, 48, 45, 92, 120, 102, 102, 93] := by unfold setT; rw [if_pos h]
theorem setT_all {s : Nat → Int} (h0 : ¬ s4 s = none4) (h : s4 s = all4) : setT (s4 s) = [46] := by unfold setT; rw [if_neg h0, if_pos h]
theorem setT_digit {s : Nat → Int} (h0 : ¬ s4 s = none4) (h1 : ¬ s4 s = all4) (h : s4 s = digit4) : setT (s4 s) = [92, 100] := by unfold setT; rw [if_neg h0, if_neg h1, if_pos h]
theorem setT_word {s : Nat → Int} (h0 : ¬ s4 s = none4) (h1 : ¬ s4 s = all4) (h2 : ¬ s4 s = digit4) (h : s4 s = word4) : setT (s4 s) = [92, 119] := by unfold setT; rw [if_neg h0, if_neg h1, if_neg h2, if_pos h]
theorem cnt_ext {s t : Nat → Int} {n : Nat} (h : ∀ b, b < n → hasS s b = hasS t b) : cnt s n = cnt t n := by
  induction n with
  | zero => rfl
  | succ n ih => rw [cnt_succ, cnt_succ, ih fun b hb => h b (by omega), h n (by omega)]
theorem cnt_s4 (s : Nat → Int) : cnt (s4 s).f 256 = cnt s 256 := cnt_ext fun b hb => s4_has s hb
theorem leastF_ext {s t : Nat → Int} : ∀ {n lo : Nat}, lo + n ≤ 256 → (∀ b, b < 256 → hasS s b = hasS t b) → leastF s n lo = leastF t n lo
  | 0, _, _, _ => rfl
  | n + 1, lo, hl, h => by
    unfold leastF
    rw [h lo (by omega), leastF_ext (by omega) h]
theorem endF_ext {s t : Nat → Int} : ∀ {n lo : Nat}, lo + n ≤ 256 → (∀ b, b < 256 → hasS s b = hasS t b) → endF s n lo = endF t n lo
  | 0, _, _, _ => rfl
  | n + 1, lo, hl, h => by
    unfold endF
    rw [h lo (by omega), endF_ext (by omega) h]
theorem runsF_ext {s t : Nat → Int} (h : ∀ b, b < 256 → hasS s b = hasS t b) : ∀ {n lo : Nat}, runsF s n lo = runsF t n lo
  | 0, _ => rfl
  | n + 1, lo => by
    unfold runsF
    by_cases hl : 256 ≤ lo
    · rw [if_pos hl, if_pos hl]
    · rw [if_neg hl, if_neg hl, h lo (by omega), endF_ext (by omega) h, runsF_ext h, runsF_ext h]
theorem setT_one {s : Nat → Int} (h0 : ¬ s4 s = none4) (h1 : ¬ s4 s = all4) (h2 : ¬ s4 s = digit4) (h3 : ¬ s4 s = word4) (h : cnt s 256 = 1) : setT (s4 s) = byteT (leastF s 256 0) := by
  unfold setT
  rw [if_neg h0, if_neg h1, if_neg h2, if_neg h3, cnt_s4, if_pos h, leastF_ext (by omega) fun b hb => s4_has s hb]
theorem setT_runs {s : Nat → Int} (h0 : ¬ s4 s = none4) (h1 : ¬ s4 s = all4) (h2 : ¬ s4 s = digit4) (h3 : ¬ s4 s = word4) (h : ¬ cnt s 256 = 1) : setT (s4 s) = 91 :: (runsF s 256 0 ++ [93]) := by
  unfold setT
  rw [if_neg h0, if_neg h1, if_neg h2, if_neg h3, cnt_s4, if_neg h, runsF_ext fun b hb => s4_has s hb]
theorem least_lt {s : Nat → Int} (h : cnt s 256 = 1) : leastF s 256 0 < 256 ∧ hasS s (leastF s 256 0) = true ∧ ∀ b, b < leastF s 256 0 → hasS s b = false := by
  have h1 := leastF_le s 256 0
  have h2 := leastF_has s 256 0
  have h3 := leastF_no s 256 0
  have h4 : ¬ leastF s 256 0 = 0 + 256 := fun e => by
    have := cnt_none (s := s) (n := 256) fun b hb => h3 b (by omega) (by omega)
    omega
  exact ⟨by omega, h2.resolve_left h4, fun b hb => h3 b (by omega) hb⟩
set_option maxHeartbeats 8000000 in
set_option maxRecDepth 1000000 in
theorem set14_any (s : Nat → Int) (w : World) (hs : SetIn s) (hT : TabIn w) :
    Calls Tryd.prog 10 #[setV s] w fun e w' => e = .returned (.string (bsT (setT (s4 s)))) ∧ Below w.heap.size w w' := by
  have HS := Lib.hid (And.intro hs hT)
  clear hs hT
  obtain ⟨R, hR⟩ : ∃ R, bsT (setT (s4 s)) = R := ⟨_, rfl⟩
  have HR := Lib.hid hR
  rw [hR]
  clear hR
  have h1 := fun w => of_any 48 57 w (by omega) (by omega)
  have h2 := fun w => of_any 65 90 w (by omega) (by omega)
  have h4 := fun w => of_any 97 122 w (by omega) (by omega)
  have h5 := fun w => of_any 95 95 w (by omega) (by omega)
  have h3 := fun w => or_any (ofS 48 57) (ofS 65 90) w (ofIn _ _) (ofIn _ _)
  have h6 := fun w => or_any (ofS 97 122) (ofS 95 95) w (ofIn _ _) (ofIn _ _)
  have h7 := fun w => or_any (orS (ofS 48 57) (ofS 65 90)) (orS (ofS 97 122) (ofS 95 95)) w (orIn (ofIn _ _) (ofIn _ _)) (orIn (ofIn _ _) (ofIn _ _))
  rw [show orS (orS (ofS 48 57) (ofS 65 90)) (orS (ofS 97 122) (ofS 95 95)) = wordF from rfl] at h7
  obtain ⟨f, hf1⟩ : ∃ f, ofS 48 57 = f := ⟨_, rfl⟩
  obtain ⟨f2, hf2⟩ : ∃ f, ofS 65 90 = f := ⟨_, rfl⟩
  obtain ⟨f4, hf4⟩ : ∃ f, ofS 97 122 = f := ⟨_, rfl⟩
  obtain ⟨f5, hf5⟩ : ∃ f, ofS 95 95 = f := ⟨_, rfl⟩
  rw [hf1] at h1 h3 h7
  rw [hf2] at h2 h3 h7
  rw [hf4] at h4 h6 h7
  rw [hf5] at h5 h6 h7
  obtain ⟨f3, hf3⟩ : ∃ g, orS f f2 = g := ⟨_, rfl⟩
  obtain ⟨f6, hf6⟩ : ∃ f, orS f4 f5 = f := ⟨_, rfl⟩
  rw [hf3] at h3 h7
  rw [hf6] at h6 h7
  obtain ⟨f7, hf7⟩ : ∃ f, wordF = f := ⟨_, rfl⟩
  rw [hf7] at h7
  have H := Lib.hid (And.intro h1 (And.intro h2 (And.intro h3 (And.intro h4 (And.intro h5 (And.intro h6 h7))))))
  have HF := Lib.hid (And.intro hf1 hf7)
  clear h1 h2 h3 h4 h5 h6 h7 hf1 hf2 hf3 hf4 hf5 hf6 hf7
  unfold setV
  go_enter Tryd.func10, Tryd.ntmps10
  go_wp2_with fail
  have e1 := Four.new w s 24
  have b1 : Below w.heap.size w (w.alloc (.cells #[.int .u64 (s 0), .int .u64 (s 1), .int .u64 (s 2), .int .u64 (s 3)] 24)) := (Below.refl _ _).alloc (Nat.le_refl _) _
  have hz : w.heap.size < (w.alloc (.cells #[.int .u64 (s 0), .int .u64 (s 1), .int .u64 (s 2), .int .u64 (s 3)] 24)).heap.size := by simp
  have F := Lib.hid (And.intro e1 (And.intro b1 hz))
  clear e1 b1 hz
  generalize w.alloc (.cells #[.int .u64 (s 0), .int .u64 (s 1), .int .u64 (s 2), .int .u64 (s 3)] 24) = w0 at *
  refine (H.out.1 _).mono ?_
  rintro e w1 ⟨rfl, bx⟩
  have G := Lib.hid (And.intro (F.out.1.below bx F.out.2.2) (And.intro (F.out.2.1.trans (bx.mono F.out.2.1.size)) (Nat.lt_of_lt_of_le F.out.2.2 bx.size)))
  clear bx F
  obtain ⟨d, hd⟩ : ∃ d, w1.heap.size = d := ⟨_, rfl⟩
  go_wp2_with fail
  have k2 := Four.new w1 f 24
  have k1 := G.out.1.old (.cells #[.int .u64 (f 0), .int .u64 (f 1), .int .u64 (f 2), .int .u64 (f 3)] 24) G.out.2.2
  have kb := G.out.2.1.alloc G.out.2.1.size (.cells #[.int .u64 (f 0), .int .u64 (f 1), .int .u64 (f 2), .int .u64 (f 3)] 24)
  rw [hd] at k2
  have hgd : w.heap.size < d := by rw [← hd]; exact G.out.2.2
  have hds : d + 1 ≤ (w1.alloc (.cells #[.int .u64 (f 0), .int .u64 (f 1), .int .u64 (f 2), .int .u64 (f 3)] 24)).heap.size := by simp [hd]
  generalize w1.alloc (.cells #[.int .u64 (f 0), .int .u64 (f 1), .int .u64 (f 2), .int .u64 (f 3)] 24) = w2 at *
  have K := Lib.hid (And.intro k1 (And.intro k2 (And.intro kb (And.intro hgd hds))))
  clear k1 k2 kb hgd hds G hd
  unfold setV
  refine wp_region_alloc 8 zeroC ?_ (by kernel_rfl) (by kernel_rfl) (by kernel_rfl) (by kernel_rfl) (by kernel_rfl) ?_ ?_ ?_
  case refine_2 =>
    intro o T hm hT
    have : T = 24 := by simp [allocsOf] at hm; exact hm.2
    subst this
    exact alloc_set o hT
  case refine_3 =>
    intro w3 b3
    have g2 := K.out.2.1.below b3 (by have := K.out.2.2.2.2; omega)
    have hz2 : d < w3.heap.size := by have := b3.size; have := K.out.2.2.2.2; omega
    have c0 := reg1 g2 0 (by omega) (hz2)
    have c1 := reg1 g2 1 (by omega) (hz2)
    have c2 := reg1 g2 2 (by omega) (hz2)
    have c3 := reg1 g2 3 (by omega) (hz2)
    clear g2
    simp only [List.map_cons, List.map_nil, shade, isAlloc, Option.isNone_none, Option.isSome_some, Bool.and_true, if_true, Bool.false_eq_true, if_false, List.take_succ_cons, List.take_zero]
    repeat (go_big_quiet_step (fail))
    go_big_quiet_step ((go_at_call 27; exact Calls.regrown_of (H.out.2.1 _)))
    repeat (go_big_quiet_step (fail))
    go_big_quiet_step ((go_at_call 28; exact Calls.regrown_of (H.out.2.2.1 _)))
    repeat (go_big_quiet_step (fail))
    go_big_quiet_step ((go_at_call 27; exact Calls.regrown_of (H.out.2.2.2.1 _)))
    repeat (go_big_quiet_step (fail))
    go_big_quiet_step ((go_at_call 27; exact Calls.regrown_of (H.out.2.2.2.2.1 _)))
    repeat (go_big_quiet_step (fail))
    go_big_quiet_step ((go_at_call 28; exact Calls.regrown_of (H.out.2.2.2.2.2.1 _)))
    repeat (go_big_quiet_step (fail))
    go_big_quiet_step ((go_at_call 28; exact Calls.regrown_of (H.out.2.2.2.2.2.2 _)))
    repeat (go_big_quiet_step (fail))
    refine wpQuiet_nil ?_
    rfl
  intro β w3 b3 hβ hne
  have p4 := hβ 4 24 (by simp [allocsOf])
  clear hβ hne
  change wpList _ _ _ _ (putAll [(4, 24)] β _) _
  simp only [putAll, List.foldl_cons, List.foldl_nil]
  generalize β 4 = p at *
  have G4 := four_blk p4.2
  have g1 := K.out.1.below b3 (by have := K.out.2.2.2; omega)
  have g2 := K.out.2.1.below b3 (by have := K.out.2.2.2; omega)
  have r0 := G4.cell 0 (by omega)
  have r1 := G4.cell 1 (by omega)
  have r2 := G4.cell 2 (by omega)
  have r3 := G4.cell 3 (by omega)
  have z := G4.free
  have lp : p < w3.heap.size := World.block_lt_of_cell? w3 _ r0
  have hpd : d < p := by have := K.out.2.2.2.2; have := p4.1; omega
  have KK := Lib.hid (And.intro g1 (And.intro g2 (And.intro G4 (And.intro (K.out.2.2.1.trans (b3.mono K.out.2.2.1.size)) (And.intro K.out.2.2.2.1 (And.intro hpd lp))))))
  clear g1 g2 p4 G4 lp hpd K b3
  go_upto_region 3 with (fail)
  have m1 := KK.out.1.far4 (g' := p) (.int .u64 (f7 0)) (.int .u64 (f7 1)) (.int .u64 (f7 2)) (.int .u64 (f7 3)) (by have := KK.out.2.2.2.2; omega)
  have m2 := KK.out.2.1.far4 (g' := p) (.int .u64 (f7 0)) (.int .u64 (f7 1)) (.int .u64 (f7 2)) (.int .u64 (f7 3)) (by have := KK.out.2.2.2.2; omega)
  have m3 := KK.out.2.2.1.set4 f7
  have mb := below_set4 (g := p) KK.out.2.2.2.1 (.int .u64 (f7 0)) (.int .u64 (f7 1)) (.int .u64 (f7 2)) (.int .u64 (f7 3)) (by have := KK.out.2.2.2.2; omega)
  have ms : p < ((((w3.setCell ⟨p, 0, none⟩ (.int .u64 (f7 0))).setCell ⟨p, 1, none⟩ (.int .u64 (f7 1))).setCell ⟨p, 2, none⟩ (.int .u64 (f7 2))).setCell ⟨p, 3, none⟩ (.int .u64 (f7 3))).heap.size := by simp; exact KK.out.2.2.2.2.2.2
  generalize (((w3.setCell ⟨p, 0, none⟩ (.int .u64 (f7 0))).setCell ⟨p, 1, none⟩ (.int .u64 (f7 1))).setCell ⟨p, 2, none⟩ (.int .u64 (f7 2))).setCell ⟨p, 3, none⟩ (.int .u64 (f7 3)) = w4 at *
  have S := Lib.hid (St.mk m1 m2 m3 mb (by have := KK.out.2.2.2.2; omega) (by have := KK.out.2.2.2.2; omega) ms)
  clear m1 m2 m3 mb ms KK r0 r1 r2 r3 z H
  obtain ⟨fA, hA⟩ : ∃ f, ofS 0 255 = f := ⟨_, rfl⟩
  have h8 := fun w => of_any 0 255 w (by omega) (by omega)
  rw [hA] at h8
  have H8 := Lib.hid h8
  have HA := Lib.hid hA
  clear h8 hA
  unfold setV at H8
  have e0 := fun w => run_eq_none s _ (s4_dec s noneS) w
  have e1 := run_eq_s4 s fA
  have e2 := run_eq_s4 s f
  have e3 := run_eq_s4 s f7
  have hn : (decide (s4 s = s4 noneS) = true) ↔ s4 s = none4 := by rw [decide_eq_true_eq]; exact Iff.rfl
  have ha : (decide (s4 s = s4 fA) = true) ↔ s4 s = all4 := by rw [decide_eq_true_eq, ← HA.out]; exact Iff.rfl
  have hd : (decide (s4 s = s4 f) = true) ↔ s4 s = digit4 := by rw [decide_eq_true_eq, ← HF.out.1]; exact Iff.rfl
  have hwd : (decide (s4 s = s4 f7) = true) ↔ s4 s = word4 := by rw [decide_eq_true_eq, ← HF.out.2]; exact Iff.rfl
  obtain ⟨c0, hc0⟩ : ∃ c, decide (s4 s = s4 noneS) = c := ⟨_, rfl⟩
  obtain ⟨c1, hc1⟩ : ∃ c, decide (s4 s = s4 fA) = c := ⟨_, rfl⟩
  obtain ⟨c2, hc2⟩ : ∃ c, decide (s4 s = s4 f) = c := ⟨_, rfl⟩
  obtain ⟨c3, hc3⟩ : ∃ c, decide (s4 s = s4 f7) = c := ⟨_, rfl⟩
  rw [hc0] at e0 hn
  rw [hc1] at e1 ha
  rw [hc2] at e2 hd
  rw [hc3] at e3 hwd
  have HN := Lib.hid (And.intro hn (And.intro ha (And.intro hd hwd)))
  clear hn ha hd hwd hc0 hc1 hc2 hc3
  have a0 := S.out.a.cell 0 (by omega)
  have a1 := S.out.a.cell 1 (by omega)
  have a2 := S.out.a.cell 2 (by omega)
  have a3 := S.out.a.cell 3 (by omega)
  cases c0 with
  | true =>
    go_wp2_with fail
    go_ret
    exact ⟨ret_str (by rw [← HR.out, setT_none (by simpa using HN.out.1)]; rfl), S.out.below⟩
  | false =>
  go_upto_region 5 with (fail)
  clear e0 a0 a1 a2 a3
  have q0 := reg1 S.out.a 0 (by omega) S.out.la
  have q1 := reg1 S.out.a 1 (by omega) S.out.la
  have q2 := reg1 S.out.a 2 (by omega) S.out.la
  have q3 := reg1 S.out.a 3 (by omega) S.out.la
  refine wp_region_quiet_below (by kernel_rfl) (by kernel_rfl) ?_
  repeat (go_big_quiet_step (fail))
  go_big_quiet_step ((go_at_call 27; exact Calls.regrown_of (H8.out _)))
  repeat (go_big_quiet_step (fail))
  refine wpQuiet_nil ?_
  intro _ hw'
  obtain ⟨⟨dq, osq⟩, hw''⟩ := hw'
  subst hw''
  have bb : Below w4.heap.size w4 (Sort.grow (redrawn w4 dq) osq) := below_regrown w4 dq osq
  have S5 := Lib.hid (S.out.go bb)
  clear S bb q0 q1 q2 q3 e1
  generalize Sort.grow (redrawn w4 dq) osq = w5 at *
  cases c1 with
  | true =>
    go_wp2_with fail
    go_ret
    exact ⟨ret_str (by rw [← HR.out, setT_all (by simpa using HN.out.1) (by simpa using HN.out.2.1)]; rfl), S5.out.below⟩
  | false =>
  have a0 := S5.out.a.cell 0 (by omega)
  have a1 := S5.out.a.cell 1 (by omega)
  have a2 := S5.out.a.cell 2 (by omega)
  have a3 := S5.out.a.cell 3 (by omega)
  have b0 := S5.out.b.cell 0 (by omega)
  have b1 := S5.out.b.cell 1 (by omega)
  have b2 := S5.out.b.cell 2 (by omega)
  have b3 := S5.out.b.cell 3 (by omega)
  cases c2 with
  | true =>
    go_wp2_with fail
    go_ret
    exact ⟨ret_str (by rw [← HR.out, setT_digit (by simpa using HN.out.1) (by simpa using HN.out.2.1) (by simpa using HN.out.2.2.1)]; rfl), S5.out.below⟩
  | false =>
  have d0 := S5.out.c.cell 0 (by omega)
  have d1 := S5.out.c.cell 1 (by omega)
  have d2 := S5.out.c.cell 2 (by omega)
  have d3 := S5.out.c.cell 3 (by omega)
  cases c3 with
  | true =>
    go_wp2_with fail
    go_ret
    exact ⟨ret_str (by rw [← HR.out, setT_word (by simpa using HN.out.1) (by simpa using HN.out.2.1) (by simpa using HN.out.2.2.1) (by simpa using HN.out.2.2.2)]; rfl), S5.out.below⟩
  | false =>
  have hN := HN.out
  have n0 : ¬ s4 s = none4 := by simpa using hN.1
  have n1 : ¬ s4 s = all4 := by simpa using hN.2.1
  have n2 : ¬ s4 s = digit4 := by simpa using hN.2.2.1
  have n3 : ¬ s4 s = word4 := by simpa using hN.2.2.2
  have N := Lib.hid (And.intro n0 (And.intro n1 (And.intro n2 n3)))
  clear hN n0 n1 n2 n3 HN
  go_wp2_with fail
  refine (count_any s _ HS.out.1).mono ?_
  rintro e w6 ⟨rfl, bx⟩
  have S6 := Lib.hid (S5.out.go bx)
  clear bx S5 a0 a1 a2 a3 b0 b1 b2 b3 d0 d1 d2 d3 e2 e3
  have hcl := cnt_le s 256
  obtain ⟨n, hcn⟩ : ∃ n, cnt s 256 = n := ⟨_, rfl⟩
  rw [hcn] at hcl ⊢
  have HCN := Lib.hid hcn
  clear hcn
  have a0 := S6.out.a.cell 0 (by omega)
  have a1 := S6.out.a.cell 1 (by omega)
  have a2 := S6.out.a.cell 2 (by omega)
  have a3 := S6.out.a.cell 3 (by omega)
  by_cases h1 : n = 1
  · have k1 : ((n : Int) == 1) = true := by rw [h1]; rfl
    have hL := least_lt (HCN.out.trans h1)
    have hT := setT_one N.out.1 N.out.2.1 N.out.2.2.1 N.out.2.2.2 (HCN.out.trans h1)
    obtain ⟨m, hm⟩ : ∃ m, leastF s 256 0 = m := ⟨_, rfl⟩
    rw [hm] at hL hT
    have HL := Lib.hid (And.intro hL hT)
    have hm6 := hL.1
    have hwb : IntKind.u8.wrap (m : Int) = (m : Int) := by rw [IntKind.wrap_u8]; omega
    have hcv0 : ∀ w, (convert 3 5 (.int .i64 (m : Int))).run Tryd.prog w = .ok (.int .u8 (m : Int)) w := fun w => by
      have e := run_convert_int (P := Tryd.prog) (w := w) 3 5 .i64 (m : Int) (by rw [Tryd.underlying3]; rfl) Tryd.underlying5
      rw [show Tryd.prog.intKind 5 = .u8 from by kernel_rfl, hwb] at e
      exact e
    clear hL hT hm hwb
    subst h1
    go_wp2_with fail
    refine (first_yes s m _ HS.out.1 HL.out.1.1 HL.out.1.2.1 HL.out.1.2.2 (HS.out.2.below S6.out.below)).mono ?_
    rintro e w7 ⟨rfl, bx⟩
    have HB := Lib.hid (S6.out.below.trans (bx.mono S6.out.below.size))
    clear bx S6 a0 a1 a2 a3
    go_wp2_with fail
    refine (byte14_any m _ hm6).mono ?_
    rintro e w8 ⟨rfl, bx⟩
    have HB2 := Lib.hid (HB.out.trans (bx.mono HB.out.size))
    clear bx HB
    obtain ⟨ts, hts⟩ : ∃ ts, bsT (byteT m) = ts := ⟨_, rfl⟩
    rw [hts]
    have HTS := Lib.hid hts
    clear hts
    go_wp2_with fail
    go_ret
    exact ⟨ret_str (by rw [← HR.out, HL.out.2, HTS.out]), HB2.out⟩
  · have k1 : ((n : Int) == 1) = false := by rw [beq_eq_false_iff_ne]; omega
    have hT := setT_runs N.out.1 N.out.2.1 N.out.2.2.1 N.out.2.2.2 (fun e => h1 (HCN.out.symm.trans e))
    have HT := Lib.hid hT
    clear hT h1
    obtain ⟨b, hb⟩ : ∃ b, w6.heap.size = b := ⟨_, rfl⟩
    have hnew := Bld.new w6
    rw [hb] at hnew
    have L := Lib.hid (Lp.mk (S6.out.go ((Below.refl _ w6).alloc (Nat.le_refl _) (.cells #[.pointer none, .slice none 0 0] 49))).a hnew (S6.out.below.alloc S6.out.below.size (.cells #[.pointer none, .slice none 0 0] 49)) (by rw [← hb]; exact S6.out.la))
    go_wp2_with fail
    clear hnew S6 a0 a1 a2 a3
    generalize w6.alloc (.cells #[.pointer none, .slice none 0 0] 49) = w7 at *
    clear hb N
    go_loopw [6] (fun c wr => ∃ (lo k : Nat) (acc : List Nat), lo ≤ 256 ∧ c = .int .i64 (lo : Int) ∧ Hid (acc ++ runsF s k lo = runsF s 256 0 ∧ 256 ≤ lo + k ∧ acc.length ≤ 9 * lo) ∧ Hid (Lp w wr s b acc)) (fun c _ => 256 - (intOf c).toNat)
    case atStart => exact ⟨0, 256, [], by omega, rfl, Lib.hid ⟨rfl, by omega, by simp⟩, L⟩
    case round =>
      clear L
      obtain ⟨lo, k, acc, hl, rfl, X, L⟩ := hrel
      by_cases hlo : lo < 256
      · have kl : decide ((lo : Int) < 256) = true := decide_eq_true (by omega)
        have kl' : decide (lo < 256) = true := decide_eq_true hlo
        obtain ⟨k, rfl⟩ : ∃ k', k = k' + 1 := ⟨k - 1, by have := X.out.2.1; omega⟩
        have hcv := cv_u8 lo hlo
        have hix := fun w => has_any s (lo : Int) w (by omega) (by omega) HS.out.1
        rw [Int.toNat_natCast] at hix
        have a0 := L.out.a.cell 0 (by omega)
        have a1 := L.out.a.cell 1 (by omega)
        have a2 := L.out.a.cell 2 (by omega)
        have a3 := L.out.a.cell 3 (by omega)
        cases hh : hasS s lo with
        | false =>
          rw [hh] at hix
          have HIX := Lib.hid hix
          have HH := Lib.hid hh
          clear hix hh
          go_wp2_with fail
          refine (HIX.out _).mono ?_
          rintro e v1 ⟨rfl, bx⟩
          have L1 := Lib.hid (L.out.go bx)
          clear bx L a0 a1 a2 a3
          go_wp2_with fail
          go_roundw
          case rel => exact ⟨lo + 1, k, acc, by omega, by go_num, Lib.hid ⟨by rw [← X.out.1, runs_no hlo HH.out], by have := X.out.2.1; omega, by have := X.out.2.2; omega⟩, L1⟩
          case measure => simp [intOf]; omega
        | true =>
          rw [hh] at hix
          have HIX := Lib.hid hix
          have HH := Lib.hid hh
          clear hix hh
          go_wp2_with fail
          refine (HIX.out _).mono ?_
          rintro e v1 ⟨rfl, bx⟩
          have L1 := Lib.hid (L.out.go bx)
          clear bx L a0 a1 a2 a3 hcv HIX
          go_wp2_with fail
          have ES := Lib.hid (endF_step hlo HH.out)
          go_loopw [7] (fun c wr2 => ∃ hi : Nat, lo ≤ hi ∧ hi ≤ 255 ∧ c = .int .i64 (hi : Int) ∧ Hid (endF s (256 - lo) lo = endF s (255 - hi) (hi + 1)) ∧ Hid (Lp w wr2 s b acc)) (fun c _ => 255 - (intOf c).toNat)
          case atStart => exact ⟨lo, Nat.le_refl _, by omega, rfl, ES, L1⟩
          case round =>
            clear L1 ES
            obtain ⟨hi, hlh, hh5, rfl, EE, L1⟩ := hrel
            by_cases hlt : hi < 255
            · have k5 : decide ((hi : Int) < 255) = true := decide_eq_true (by omega)
              have k5' : decide (hi < 255) = true := decide_eq_true hlt
              have hcv := cv_u8 (hi + 1) (by omega)
              rw [show ((hi + 1 : Nat) : Int) = (hi : Int) + 1 by omega] at hcv
              have hix := fun w => has_any s ((hi : Int) + 1) w (by omega) (by omega) HS.out.1
              rw [show ((hi : Int) + 1).toNat = hi + 1 by omega] at hix
              obtain ⟨j, hj⟩ : ∃ j, 255 - hi = j + 1 := ⟨254 - hi, by omega⟩
              have a0 := L1.out.a.cell 0 (by omega)
              have a1 := L1.out.a.cell 1 (by omega)
              have a2 := L1.out.a.cell 2 (by omega)
              have a3 := L1.out.a.cell 3 (by omega)
              cases hh2 : hasS s (hi + 1) with
              | true =>
                rw [hh2] at hix
                have HIX := Lib.hid hix
                have hE : endF s (255 - hi) (hi + 1) = endF s (255 - (hi + 1)) (hi + 1 + 1) := by
                  rw [hj, endF, if_pos hh2]
                  congr 1
                  omega
                have HE := Lib.hid hE
                clear hix hh2 hE hj
                go_wp2_with fail
                refine (HIX.out _).mono ?_
                rintro e v2 ⟨rfl, bx⟩
                have L2 := Lib.hid (L1.out.go bx)
                clear bx L1 a0 a1 a2 a3 hcv HIX
                go_wp2_with fail
                go_roundw
                case rel => exact ⟨hi + 1, by omega, by omega, by go_num, Lib.hid (EE.out.trans HE.out), L2⟩
                case measure => simp [intOf]; omega
              | false =>
                rw [hh2] at hix
                have HIX := Lib.hid hix
                have EQ := Lib.hid (EE.out.trans (show endF s (255 - hi) (hi + 1) = hi + 1 by rw [hj, endF, if_neg (by rw [hh2]; simp)]))
                clear hix hh2 hj
                go_wp2_with fail
                refine (HIX.out _).mono ?_
                rintro e v2 ⟨rfl, bx⟩
                have L2 := Lib.hid (L1.out.go bx)
                clear bx L1 a0 a1 a2 a3 hcv HIX
                have hal : acc.length ≤ 9 * 256 := by have := X.out.2.2; omega
                have hilo : (hi : Int) ≤ 255 := by omega
                by_cases hA : hi = lo
                · have kA : decide ((lo : Int) + 1 < (hi : Int)) = false := decide_eq_false (by omega)
                  have kA' : decide (lo + 1 < hi) = false := decide_eq_false (by omega)
                  have kB : decide ((lo : Int) < (hi : Int)) = false := decide_eq_false (by omega)
                  have kB' : decide (lo < hi) = false := decide_eq_false (by omega)
                  have hrt : Rg.runT lo (hi + 1) = withinT lo := by unfold Rg.runT; rw [if_neg (by omega), if_neg (by omega)]; simp
                  have HRT := Lib.hid hrt
                  have HAE := Lib.hid hA
                  clear hrt hA
                  go_wp2_with fail
                  refine (within_any lo _ hlo).mono ?_
                  rintro e v1 ⟨rfl, bx⟩
                  have L1 := Lib.hid (L2.out.go bx)
                  clear bx L2
                  go_wp2_with fail
                  refine (wstr_any b _ (withinT lo) _ L1.out.bl (by have := withinT_len lo; have := withinT_len hi; (try simp only [List.length_append, List.length_cons, List.length_nil]); omega)).mono ?_
                  rintro e v2 ⟨rfl, hb2, bx, -⟩
                  have L2 := Lib.hid (L1.out.put bx hb2)
                  clear bx hb2 L1
                  go_wp2_with fail
                  go_roundw
                  case rel => exact ⟨hi + 1, k, _, by omega, by go_num, Lib.hid ⟨by rw [← X.out.1, runs_yes hlo HH.out EQ.out, HRT.out]; simp [List.append_assoc], by have := X.out.2.1; omega, by have := withinT_len lo; have := withinT_len hi; have := X.out.2.2; simp only [List.length_append, List.length_cons, List.length_nil]; omega⟩, L2⟩
                  case measure => simp [intOf]; omega
                · by_cases hB : hi = lo + 1
                  · have kA : decide ((lo : Int) + 1 < (hi : Int)) = false := decide_eq_false (by omega)
                    have kA' : decide (lo + 1 < hi) = false := decide_eq_false (by omega)
                    have kB : decide ((lo : Int) < (hi : Int)) = true := decide_eq_true (by omega)
                    have kB' : decide (lo < hi) = true := decide_eq_true (by omega)
                    have hrt : Rg.runT lo (hi + 1) = withinT lo ++ withinT hi := by unfold Rg.runT; rw [if_neg (by omega), if_pos (by omega)]; simp
                    have HRT := Lib.hid hrt
                    have HAE := Lib.hid hB
                    clear hrt hB hA
                    go_wp2_with fail
                    refine (within_any lo _ hlo).mono ?_
                    rintro e v1 ⟨rfl, bx⟩
                    have L1 := Lib.hid (L2.out.go bx)
                    clear bx L2
                    go_wp2_with fail
                    refine (wstr_any b _ (withinT lo) _ L1.out.bl (by have := withinT_len lo; have := withinT_len hi; (try simp only [List.length_append, List.length_cons, List.length_nil]); omega)).mono ?_
                    rintro e v2 ⟨rfl, hb2, bx, -⟩
                    have L2 := Lib.hid (L1.out.put bx hb2)
                    clear bx hb2 L1
                    go_wp2_with fail
                    refine (within_any hi _ (by omega)).mono ?_
                    rintro e v3 ⟨rfl, bx⟩
                    have L3 := Lib.hid (L2.out.go bx)
                    clear bx L2
                    go_wp2_with fail
                    refine (wstr_any b _ (withinT hi) _ L3.out.bl (by have := withinT_len lo; have := withinT_len hi; (try simp only [List.length_append, List.length_cons, List.length_nil]); omega)).mono ?_
                    rintro e v4 ⟨rfl, hb2, bx, -⟩
                    have L4 := Lib.hid (L3.out.put bx hb2)
                    clear bx hb2 L3
                    go_wp2_with fail
                    go_roundw
                    case rel => exact ⟨hi + 1, k, _, by omega, by go_num, Lib.hid ⟨by rw [← X.out.1, runs_yes hlo HH.out EQ.out, HRT.out]; simp [List.append_assoc], by have := X.out.2.1; omega, by have := withinT_len lo; have := withinT_len hi; have := X.out.2.2; simp only [List.length_append, List.length_cons, List.length_nil]; omega⟩, L4⟩
                    case measure => simp [intOf]; omega
                  · have kA : decide ((lo : Int) + 1 < (hi : Int)) = true := decide_eq_true (by omega)
                    have kA' : decide (lo + 1 < hi) = true := decide_eq_true (by omega)
                    have kB : decide ((lo : Int) < (hi : Int)) = true := decide_eq_true (by omega)
                    have kB' : decide (lo < hi) = true := decide_eq_true (by omega)
                    have hrt : Rg.runT lo (hi + 1) = withinT lo ++ [45] ++ withinT hi := by unfold Rg.runT; rw [if_pos (by omega), if_pos (by omega)]; simp
                    have HRT := Lib.hid hrt
                    have HAE := Lib.hid (And.intro hA hB)
                    clear hrt hB hA
                    go_wp2_with fail
                    refine (within_any lo _ hlo).mono ?_
                    rintro e v1 ⟨rfl, bx⟩
                    have L1 := Lib.hid (L2.out.go bx)
                    clear bx L2
                    go_wp2_with fail
                    refine (wstr_any b _ (withinT lo) _ L1.out.bl (by have := withinT_len lo; have := withinT_len hi; (try simp only [List.length_append, List.length_cons, List.length_nil]); omega)).mono ?_
                    rintro e v2 ⟨rfl, hb2, bx, -⟩
                    have L2 := Lib.hid (L1.out.put bx hb2)
                    clear bx hb2 L1
                    go_wp2_with fail
                    refine (wbyte_any b _ 45 _ L2.out.bl (by omega) (by have := withinT_len lo; (try simp only [List.length_append]); omega)).mono ?_
                    rintro e v2b ⟨rfl, hb2, bx, -⟩
                    have L2b := Lib.hid (L2.out.put bx hb2)
                    clear bx hb2 L2
                    go_wp2_with fail
                    refine (within_any hi _ (by omega)).mono ?_
                    rintro e v3 ⟨rfl, bx⟩
                    have L3 := Lib.hid (L2b.out.go bx)
                    clear bx L2b
                    go_wp2_with fail
                    refine (wstr_any b _ (withinT hi) _ L3.out.bl (by have := withinT_len lo; have := withinT_len hi; (try simp only [List.length_append, List.length_cons, List.length_nil]); omega)).mono ?_
                    rintro e v4 ⟨rfl, hb2, bx, -⟩
                    have L4 := Lib.hid (L3.out.put bx hb2)
                    clear bx hb2 L3
                    go_wp2_with fail
                    go_roundw
                    case rel => exact ⟨hi + 1, k, _, by omega, by go_num, Lib.hid ⟨by rw [← X.out.1, runs_yes hlo HH.out EQ.out, HRT.out]; simp [List.append_assoc], by have := X.out.2.1; omega, by have := withinT_len lo; have := withinT_len hi; have := X.out.2.2; simp only [List.length_append, List.length_cons, List.length_nil]; omega⟩, L4⟩
                    case measure => simp [intOf]; omega
            · have k5 : decide ((hi : Int) < 255) = false := decide_eq_false (by omega)
              have k5' : decide (hi < 255) = false := decide_eq_false hlt
              have EQ := Lib.hid (EE.out.trans (show endF s (255 - hi) (hi + 1) = hi + 1 by rw [show 255 - hi = 0 by omega]; rfl))
              have L9 := L1
              clear L1
              have hal : acc.length ≤ 9 * 256 := by have := X.out.2.2; omega
              have hilo : (hi : Int) ≤ 255 := by omega
              by_cases hA : hi = lo
              · have kA : decide ((lo : Int) + 1 < (hi : Int)) = false := decide_eq_false (by omega)
                have kA' : decide (lo + 1 < hi) = false := decide_eq_false (by omega)
                have kB : decide ((lo : Int) < (hi : Int)) = false := decide_eq_false (by omega)
                have kB' : decide (lo < hi) = false := decide_eq_false (by omega)
                have hrt : Rg.runT lo (hi + 1) = withinT lo := by unfold Rg.runT; rw [if_neg (by omega), if_neg (by omega)]; simp
                have HRT := Lib.hid hrt
                have HAE := Lib.hid hA
                clear hrt hA
                go_wp2_with fail
                refine (within_any lo _ hlo).mono ?_
                rintro e v1 ⟨rfl, bx⟩
                have L1 := Lib.hid (L9.out.go bx)
                clear bx L9
                go_wp2_with fail
                refine (wstr_any b _ (withinT lo) _ L1.out.bl (by have := withinT_len lo; have := withinT_len hi; (try simp only [List.length_append, List.length_cons, List.length_nil]); omega)).mono ?_
                rintro e v2 ⟨rfl, hb2, bx, -⟩
                have L2 := Lib.hid (L1.out.put bx hb2)
                clear bx hb2 L1
                go_wp2_with fail
                go_roundw
                case rel => exact ⟨hi + 1, k, _, by omega, by go_num, Lib.hid ⟨by rw [← X.out.1, runs_yes hlo HH.out EQ.out, HRT.out]; simp [List.append_assoc], by have := X.out.2.1; omega, by have := withinT_len lo; have := withinT_len hi; have := X.out.2.2; simp only [List.length_append, List.length_cons, List.length_nil]; omega⟩, L2⟩
                case measure => simp [intOf]; omega
              · by_cases hB : hi = lo + 1
                · have kA : decide ((lo : Int) + 1 < (hi : Int)) = false := decide_eq_false (by omega)
                  have kA' : decide (lo + 1 < hi) = false := decide_eq_false (by omega)
                  have kB : decide ((lo : Int) < (hi : Int)) = true := decide_eq_true (by omega)
                  have kB' : decide (lo < hi) = true := decide_eq_true (by omega)
                  have hrt : Rg.runT lo (hi + 1) = withinT lo ++ withinT hi := by unfold Rg.runT; rw [if_neg (by omega), if_pos (by omega)]; simp
                  have HRT := Lib.hid hrt
                  have HAE := Lib.hid hB
                  clear hrt hB hA
                  go_wp2_with fail
                  refine (within_any lo _ hlo).mono ?_
                  rintro e v1 ⟨rfl, bx⟩
                  have L1 := Lib.hid (L9.out.go bx)
                  clear bx L9
                  go_wp2_with fail
                  refine (wstr_any b _ (withinT lo) _ L1.out.bl (by have := withinT_len lo; have := withinT_len hi; (try simp only [List.length_append, List.length_cons, List.length_nil]); omega)).mono ?_
                  rintro e v2 ⟨rfl, hb2, bx, -⟩
                  have L2 := Lib.hid (L1.out.put bx hb2)
                  clear bx hb2 L1
                  go_wp2_with fail
                  refine (within_any hi _ (by omega)).mono ?_
                  rintro e v3 ⟨rfl, bx⟩
                  have L3 := Lib.hid (L2.out.go bx)
                  clear bx L2
                  go_wp2_with fail
                  refine (wstr_any b _ (withinT hi) _ L3.out.bl (by have := withinT_len lo; have := withinT_len hi; (try simp only [List.length_append, List.length_cons, List.length_nil]); omega)).mono ?_
                  rintro e v4 ⟨rfl, hb2, bx, -⟩
                  have L4 := Lib.hid (L3.out.put bx hb2)
                  clear bx hb2 L3
                  go_wp2_with fail
                  go_roundw
                  case rel => exact ⟨hi + 1, k, _, by omega, by go_num, Lib.hid ⟨by rw [← X.out.1, runs_yes hlo HH.out EQ.out, HRT.out]; simp [List.append_assoc], by have := X.out.2.1; omega, by have := withinT_len lo; have := withinT_len hi; have := X.out.2.2; simp only [List.length_append, List.length_cons, List.length_nil]; omega⟩, L4⟩
                  case measure => simp [intOf]; omega
                · have kA : decide ((lo : Int) + 1 < (hi : Int)) = true := decide_eq_true (by omega)
                  have kA' : decide (lo + 1 < hi) = true := decide_eq_true (by omega)
                  have kB : decide ((lo : Int) < (hi : Int)) = true := decide_eq_true (by omega)
                  have kB' : decide (lo < hi) = true := decide_eq_true (by omega)
                  have hrt : Rg.runT lo (hi + 1) = withinT lo ++ [45] ++ withinT hi := by unfold Rg.runT; rw [if_pos (by omega), if_pos (by omega)]; simp
                  have HRT := Lib.hid hrt
                  have HAE := Lib.hid (And.intro hA hB)
                  clear hrt hB hA
                  go_wp2_with fail
                  refine (within_any lo _ hlo).mono ?_
                  rintro e v1 ⟨rfl, bx⟩
                  have L1 := Lib.hid (L9.out.go bx)
                  clear bx L9
                  go_wp2_with fail
                  refine (wstr_any b _ (withinT lo) _ L1.out.bl (by have := withinT_len lo; have := withinT_len hi; (try simp only [List.length_append, List.length_cons, List.length_nil]); omega)).mono ?_
                  rintro e v2 ⟨rfl, hb2, bx, -⟩
                  have L2 := Lib.hid (L1.out.put bx hb2)
                  clear bx hb2 L1
                  go_wp2_with fail
                  refine (wbyte_any b _ 45 _ L2.out.bl (by omega) (by have := withinT_len lo; (try simp only [List.length_append]); omega)).mono ?_
                  rintro e v2b ⟨rfl, hb2, bx, -⟩
                  have L2b := Lib.hid (L2.out.put bx hb2)
                  clear bx hb2 L2
                  go_wp2_with fail
                  refine (within_any hi _ (by omega)).mono ?_
                  rintro e v3 ⟨rfl, bx⟩
                  have L3 := Lib.hid (L2b.out.go bx)
                  clear bx L2b
                  go_wp2_with fail
                  refine (wstr_any b _ (withinT hi) _ L3.out.bl (by have := withinT_len lo; have := withinT_len hi; (try simp only [List.length_append, List.length_cons, List.length_nil]); omega)).mono ?_
                  rintro e v4 ⟨rfl, hb2, bx, -⟩
                  have L4 := Lib.hid (L3.out.put bx hb2)
                  clear bx hb2 L3
                  go_wp2_with fail
                  go_roundw
                  case rel => exact ⟨hi + 1, k, _, by omega, by go_num, Lib.hid ⟨by rw [← X.out.1, runs_yes hlo HH.out EQ.out, HRT.out]; simp [List.append_assoc], by have := X.out.2.1; omega, by have := withinT_len lo; have := withinT_len hi; have := X.out.2.2; simp only [List.length_append, List.length_cons, List.length_nil]; omega⟩, L4⟩
                  case measure => simp [intOf]; omega
      · have kl : decide ((lo : Int) < 256) = false := decide_eq_false (by omega)
        have kl' : decide (lo < 256) = false := decide_eq_false hlo
        have hacc : acc = runsF s 256 0 := by rw [← X.out.1, runs_end (by omega)]; simp
        have hal : acc.length ≤ 9 * 256 := by have := X.out.2.2; omega
        have HACC := Lib.hid hacc
        clear hacc
        go_wp2_with fail
        refine (wtext_any b acc _ L.out.bl).mono ?_
        rintro e v1 ⟨rfl, hb2, bx, -⟩
        have L1 := Lib.hid (L.out.put bx hb2)
        clear bx hb2 L
        obtain ⟨ts, hts⟩ : ∃ ts, bsT acc = ts := ⟨_, rfl⟩
        have hsz : ts.size ≤ 9 * 256 := by rw [← hts, bsT_size]; exact hal
        rw [hts]
        have HTS := Lib.hid hts
        clear hts
        go_wp2_with fail
        go_ret
        exact ⟨ret_str (by
          rw [← HR.out, HT.out, ← HACC.out, ← HTS.out]
          show bsT [91] ++ bsT acc ++ bsT [93] = _
          rw [bsT_app, bsT_app]
          simp), L1.out.below⟩
end Go.Proofs.YtpknglbpbodnbaaDoor
