/-
  The walk of the reference's Same. Conditions: both trees lie in memory.
-/
import Derived.Test.YtpknglbpbodnbaaDoorJRgRight
namespace Go.Proofs.YtpknglbpbodnbaaDoor
set_option linter.unusedVariables false
set_option linter.unusedSimpArgs false
open Go.RowKit Go.Sort Cs Rg Go.ChangeShapes Go.WideShapes

theorem mk_eq {k k' : Int} {s s' : S4} {l l' : List Nd} {x x' y y' : Int} : Nd.mk k s l x y = Nd.mk k' s' l' x' y' ↔ k = k' ∧ s = s' ∧ x = x' ∧ y = y' ∧ l = l' := by
  constructor
  · intro h
    cases h
    exact ⟨rfl, rfl, rfl, rfl, rfl⟩
  · rintro ⟨rfl, rfl, rfl, rfl, rfl⟩
    rfl
def SameTo (l l' : List Nd) (i : Nat) : Prop := ∀ j, j < i → l[j]? = l'[j]?
theorem SameTo.succ {l l' : List Nd} {i : Nat} (h : SameTo l l' i) (e : l[i]? = l'[i]?) : SameTo l l' (i + 1) := fun j hj => by
  by_cases hji : j = i
  · rw [hji]; exact e
  · exact h j (by omega)
theorem SameTo.all {l l' : List Nd} (h : SameTo l l' l.length) (hl : l.length = l'.length) : l = l' := by
  refine List.ext_getElem? fun j => ?_
  by_cases hj : j < l.length
  · exact h j hj
  · rw [List.getElem?_eq_none (by omega), List.getElem?_eq_none (by omega)]
theorem Blk.old {w : World} {g : Nat} {t : TypeId} {cs : Array Value} (h : Blk w g t cs) (o : Obj) : Blk (w.alloc o) g t cs := h.alloc o
set_option maxHeartbeats 8000000 in
set_option maxRecDepth 1000000 in
theorem refsame_any (n : Nd) : ∀ (n' : Nd) (v v' : Value) (w : World), NdAt w v n → NdAt w v' n' →
    Calls Tryd.prog 15 #[v, v'] w fun e w' => e = .returned (.bool (decide (n = n'))) ∧ Below w.heap.size w w' := by
  refine Nd.ind (P := fun n => ∀ (n' : Nd) (v v' : Value) (w : World), NdAt w v n → NdAt w v' n' →
    Calls Tryd.prog 15 #[v, v'] w fun e w' => e = .returned (.bool (decide (n = n'))) ∧ Below w.heap.size w w') (fun k s l x y ih n' v v' w hv hv' => ?_) n
  obtain ⟨k', s', l', x', y'⟩ := n'
  obtain ⟨a, c, rfl, hin⟩ := hv
  obtain ⟨a', c', rfl, hin'⟩ := hv'
  have hln : l.length ≤ 9223372036854775807 := by have := hin.len; unfold maxLen at this; exact this
  have hln' : l'.length ≤ 9223372036854775807 := by have := hin'.len; unfold maxLen at this; exact this
  have hz0 : (w.alloc (.cells #[.int .i64 k, .int .u64 s.a, .int .u64 s.b, .int .u64 s.c, .int .u64 s.d, .slice a l.length c, .int .i64 x, .int .i64 y] 27)).heap.size = w.heap.size + 1 := by simp
  have hb0 := (Below.refl w.heap.size w).alloc (Nat.le_refl _) (.cells #[.int .i64 k, .int .u64 s.a, .int .u64 s.b, .int .u64 s.c, .int .u64 s.d, .slice a l.length c, .int .i64 x, .int .i64 y] 27)
  have hb2 := hb0.alloc (by rw [hz0]; omega) (.cells #[.int .i64 k', .int .u64 s'.a, .int .u64 s'.b, .int .u64 s'.c, .int .u64 s'.d, .slice a' l'.length c', .int .i64 x', .int .i64 y'] 27)
  have hq := (Blk.new w 27 #[.int .i64 k, .int .u64 s.a, .int .u64 s.b, .int .u64 s.c, .int .u64 s.d, .slice a l.length c, .int .i64 x, .int .i64 y]).old (.cells #[.int .i64 k', .int .u64 s'.a, .int .u64 s'.b, .int .u64 s'.c, .int .u64 s'.d, .slice a' l'.length c', .int .i64 x', .int .i64 y'] 27)
  have hq' := Blk.new (w.alloc (.cells #[.int .i64 k, .int .u64 s.a, .int .u64 s.b, .int .u64 s.c, .int .u64 s.d, .slice a l.length c, .int .i64 x, .int .i64 y] 27)) 27 #[.int .i64 k', .int .u64 s'.a, .int .u64 s'.b, .int .u64 s'.c, .int .u64 s'.d, .slice a' l'.length c', .int .i64 x', .int .i64 y']
  rw [hz0] at hq'
  have IH := Lib.hid ih
  have HBB := Lib.hid hb2
  obtain ⟨⟨y0, y1, y2, y3, y4, y5, y6, y7⟩, -⟩ := hq.c8
  obtain ⟨⟨x0, x1, x2, x3, x4, x5, x6, x7⟩, -⟩ := hq'.c8
  have H := Lib.hid (And.intro (hin.below hb2) (And.intro (hin'.below hb2) (And.intro hq hq')))
  obtain ⟨e0, he0⟩ : ∃ e0, decide (s = s') = e0 := ⟨_, rfl⟩
  have heq := eq_s4 s s' e0 he0.symm
  have HE := Lib.hid he0
  clear hin hin' hb0 hb2 hq hq' ih he0
  obtain ⟨R, hR⟩ : ∃ R, decide (Nd.mk k s l x y = Nd.mk k' s' l' x' y') = R := ⟨_, rfl⟩
  have hRR : R = true ↔ k = k' ∧ s = s' ∧ x = x' ∧ y = y' ∧ l = l' := by rw [← hR, decide_eq_true_iff]; exact mk_eq
  have HR := Lib.hid hRR
  rw [hR]
  clear hR hRR
  show Calls Tryd.prog 15 #[.agg #[.int .i64 k, .int .u64 s.a, .int .u64 s.b, .int .u64 s.c, .int .u64 s.d, .slice a l.length c, .int .i64 x, .int .i64 y], .agg #[.int .i64 k', .int .u64 s'.a, .int .u64 s'.b, .int .u64 s'.c, .int .u64 s'.d, .slice a' l'.length c', .int .i64 x', .int .i64 y']] w _
  go_enter Tryd.func15, Tryd.ntmps15
  by_cases hk : k = k'
  case neg =>
    have HF := Lib.hid (show R = false by rw [Bool.eq_false_iff]; intro h; exact hk (HR.out.1 h).1)
    have k1 : (k != k') = true := by rw [bne_iff_ne]; exact hk
    clear hk
    clear hz0
    go_wp2_with fail
    all_goals go_ret
    all_goals exact ⟨ret_bool HF.out.symm, HBB.out⟩
  subst hk
  cases e0 with
  | false =>
    have HF := Lib.hid (show R = false by rw [Bool.eq_false_iff]; intro h; exact of_decide_eq_false HE.out (HR.out.1 h).2.1)
    clear hz0
    go_wp2_with fail
    all_goals go_ret
    all_goals exact ⟨ret_bool HF.out.symm, HBB.out⟩
  | true =>
  have hs : s = s' := of_decide_eq_true HE.out
  subst hs
  by_cases hx : x = x'
  case neg =>
    have HF := Lib.hid (show R = false by rw [Bool.eq_false_iff]; intro h; exact hx (HR.out.1 h).2.2.1)
    have k1 : (x != x') = true := by rw [bne_iff_ne]; exact hx
    clear hx hz0
    go_wp2_with fail
    all_goals go_ret
    all_goals exact ⟨ret_bool HF.out.symm, HBB.out⟩
  subst hx
  by_cases hy : y = y'
  case neg =>
    have HF := Lib.hid (show R = false by rw [Bool.eq_false_iff]; intro h; exact hy (HR.out.1 h).2.2.2.1)
    have k1 : (y != y') = true := by rw [bne_iff_ne]; exact hy
    clear hy hz0
    go_wp2_with fail
    all_goals go_ret
    all_goals exact ⟨ret_bool HF.out.symm, HBB.out⟩
  subst hy
  by_cases hl : l.length = l'.length
  case neg =>
    have HF := Lib.hid (show R = false by rw [Bool.eq_false_iff]; intro h; exact hl (by rw [(HR.out.1 h).2.2.2.2]))
    have k1 : ((l.length : Int) != l'.length) = true := by rw [bne_iff_ne]; omega
    clear hl hz0
    go_wp2_with fail
    all_goals go_ret
    all_goals exact ⟨ret_bool HF.out.symm, HBB.out⟩
  have k1 : ((l.length : Int) != l'.length) = false := by rw [hl]; exact bne_self_eq_false _
  have HL := Lib.hid hl
  clear hl hz0
  go_wp2_with fail
  clear y0 y1 y2 y3 y4 y5 y6 y7 x0 x1 x2 x3 x4 x5 x6 x7 heq
  generalize (w.alloc (.cells #[.int .i64 k, .int .u64 s.a, .int .u64 s.b, .int .u64 s.c, .int .u64 s.d, .slice a l.length c, .int .i64 x, .int .i64 y] 27)).alloc (.cells #[.int .i64 k, .int .u64 s.a, .int .u64 s.b, .int .u64 s.c, .int .u64 s.d, .slice a' l'.length c', .int .i64 x, .int .i64 y] 27) = W at *
  go_loopw [5] (fun si wr => ∃ i : Nat, si = .int .i64 (i : Int) ∧ i ≤ l.length ∧ Hid (SameTo l l' i) ∧ Below W.heap.size W wr) (fun si _ => l.length - (intOf si).toNat)
  case atStart => exact ⟨0, rfl, Nat.zero_le _, Lib.hid (fun j h => by omega), Below.refl _ _⟩
  case round =>
    obtain ⟨i, rfl, hi, HK, hbr⟩ := hrel
    have hq := H.out.2.2.1.below hbr H.out.2.2.1.lt
    have hq' := H.out.2.2.2.below hbr H.out.2.2.2.lt
    obtain ⟨⟨y0, y1, y2, y3, y4, y5, y6, y7⟩, -⟩ := hq.c8
    obtain ⟨⟨x0, x1, x2, x3, x4, x5, x6, x7⟩, -⟩ := hq'.c8
    have hin := H.out.1.below hbr
    have hin' := H.out.2.1.below hbr
    have HB := Lib.hid (And.intro (HBB.out.trans (hbr.mono HBB.out.size)) hbr)
    by_cases hil : i < l.length
    · have k2 : decide (i < l.length) = true := decide_eq_true hil
      have hil' : i < l'.length := by have := HL.out; omega
      obtain ⟨m, hm⟩ : ∃ m, l[i]? = some m := ⟨_, List.getElem?_eq_getElem hil⟩
      obtain ⟨m', hm'⟩ : ∃ m, l'[i]? = some m := ⟨_, List.getElem?_eq_getElem hil'⟩
      have HM := Lib.hid (And.intro hm hm')
      obtain ⟨b, o, a1, c1, rfl, hblt, hl8, hi1⟩ := hin.kid (i := i) (m := m) hm
      obtain ⟨b', o', a2, c2, rfl, hblt', hl8', hi2⟩ := hin'.kid (i := i) (m := m') hm'
      obtain ⟨z0, z1, z2, z3, z4, z5, z6, z7⟩ := hl8.c8
      obtain ⟨u0, u1, u2, u3, u4, u5, u6, u7⟩ := hl8'.c8
      have HI := Lib.hid (And.intro hi1 hi2)
      clear hin hin' hl8 hl8' hq hq' hm hm' hbr hi1 hi2
      go_wp2_with fail
      refine wp_region_T [] (by kernel_rfl) ?_
      intro V bb
      have lc : ∀ {p : Addr} {v : Value}, wr.cell? p = some v → ∀ d os, (Sort.grow (redrawn V d) os).cell? p = some v := fun {p v} hp d os => ((bb.trans ((below_regrown V d os).mono bb.size)).cell (World.block_lt_of_cell? wr p hp)).trans hp
      have q5 := lc y5
      have p5 := lc x5
      have r0 := lc z0
      have r1 := lc z1
      have r2 := lc z2
      have r3 := lc z3
      have r4 := lc z4
      have r5 := lc z5
      have r6 := lc z6
      have r7 := lc z7
      have t0 := lc u0
      have t1 := lc u1
      have t2 := lc u2
      have t3 := lc u3
      have t4 := lc u4
      have t5 := lc u5
      have t6 := lc u6
      have t7 := lc u7
      clear lc y0 y1 y2 y3 y4 y5 y6 y7 x0 x1 x2 x3 x4 x5 x6 x7 z0 z1 z2 z3 z4 z5 z6 z7 u0 u1 u2 u3 u4 u5 u6 u7
      refine stepsQ [0, 1, 2, 3, 4, 5, 6, 7, 8, 9] (by kernel_rfl) (by kernel_rfl) (by kernel_rfl) (Grown.of_below (Below.refl _ _)) ?_
      simp only [atIdx, List.filterMap_cons, List.filterMap_nil, List.getElem?_toArray, List.getElem_toArray, List.getElem?_cons_zero, List.getElem?_cons_succ, List.getElem_cons_zero, List.getElem_cons_succ]
      iterate 10 (show wpQuiet _ _ _ _ (_ :: _) _; go_big_quiet_step (fail))
      refine wpQuiet_nil ?_
      show stepT _ _ _ _ _ _ _ _ _
      clear q5 p5 r0 r1 r2 r3 r4 r5 r6 r7 t0 t1 t2 t3 t4 t5 t6 t7
      refine stepS (i := 10) rfl (by kernel_rfl) ?_
      intro Kx hKx
      go_simp
      refine (IH.out m (List.mem_of_getElem? HM.out.1) m' _ _ V ⟨a1, c1, rfl, HI.out.1.below bb⟩ ⟨a2, c2, rfl, HI.out.2.below bb⟩).mono ?_
      rintro e w1 ⟨rfl, b1⟩
      have hbv := bb.trans (b1.mono bb.size)
      have HW := Lib.hid (And.intro (HB.out.1.trans (hbv.mono HB.out.1.size)) (HB.out.2.trans (hbv.mono HB.out.2.size)))
      clear bb hbv
      refine hKx _ _ ⟨fun _ => Grown.of_below b1, ?_⟩
      clear hKx Kx
      by_cases hmm : m = m'
      · rw [decide_eq_true hmm]
        have HN := Lib.hid (show l[i]? = l'[i]? by rw [HM.out.1, HM.out.2, hmm])
        clear hmm
        refine stepsQ [11] (by kernel_rfl) (by kernel_rfl) (by kernel_rfl) (Grown.of_below b1) ?_
        simp only [atIdx, List.filterMap_cons, List.filterMap_nil, List.getElem?_toArray, List.getElem_toArray, List.getElem?_cons_zero, List.getElem?_cons_succ, List.getElem_cons_zero, List.getElem_cons_succ]
        iterate 1 (show wpQuiet _ _ _ _ (_ :: _) _; go_big_quiet_step (fail))
        refine wpQuiet_nil ?_
        show stepT _ _ _ _ _ _ _ _ _
        refine stepT_end (by kernel_rfl) ?_
        go_wp2_with fail
        go_roundw
        case rel => exact ⟨i + 1, by go_num, hil, Lib.hid (HK.out.succ HN.out), HW.out.2⟩
        case measure => simp [intOf]; omega
      · rw [decide_eq_false hmm]
        have HF := Lib.hid (show R = false by
          rw [Bool.eq_false_iff]
          intro h
          have e := (HR.out.1 h).2.2.2.2
          have h1 := HM.out.1
          rw [e, HM.out.2] at h1
          exact hmm (Option.some.inj h1).symm)
        clear hmm
        refine stepsQ [11] (by kernel_rfl) (by kernel_rfl) (by kernel_rfl) (Grown.of_below b1) ?_
        simp only [atIdx, List.filterMap_cons, List.filterMap_nil, List.getElem?_toArray, List.getElem_toArray, List.getElem?_cons_zero, List.getElem?_cons_succ, List.getElem_cons_zero, List.getElem_cons_succ]
        iterate 1 (show wpQuiet _ _ _ _ (_ :: _) _; go_big_quiet_step (fail))
        refine wpQuiet_nil ?_
        show stepT _ _ _ _ _ _ _ _ _
        refine stepT_end (by kernel_rfl) ?_
        go_wp2_with fail
        go_ret
        exact ⟨ret_bool HF.out.symm, HW.out.1⟩
    · have k2 : decide (i < l.length) = false := decide_eq_false hil
      have HF := Lib.hid (show R = true by
        obtain rfl : i = l.length := by omega
        have e := HK.out.all HL.out
        exact HR.out.2 (by first | exact ⟨rfl, rfl, rfl, rfl, e⟩ | exact ⟨trivial, trivial, trivial, trivial, e⟩))
      clear hin hin' hq hq' hbr
      go_wp2_with fail
      go_ret
      exact ⟨ret_bool HF.out.symm, HB.out.1⟩
end Go.Proofs.YtpknglbpbodnbaaDoor
