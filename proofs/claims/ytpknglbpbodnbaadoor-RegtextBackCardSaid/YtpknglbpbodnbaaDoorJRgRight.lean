/-
  The walks of times and Right, the program's and the reference's. Conditions: the tree lies in memory.
-/
import Derived.Test.YtpknglbpbodnbaaDoorJRgMem
namespace Go.Proofs.YtpknglbpbodnbaaDoor
set_option linter.unusedVariables false
set_option linter.unusedSimpArgs false
open Go.RowKit Go.Sort Cs Rg Go.ChangeShapes Go.WideShapes

theorem eq_s4 (s t : S4) (r : Bool) (hr : r = decide (s = t)) (w : World) :
    (Op.equalIn 10000 24 (.agg #[.int .u64 s.a, .int .u64 s.b, .int .u64 s.c, .int .u64 s.d]) (.agg #[.int .u64 t.a, .int .u64 t.b, .int .u64 t.c, .int .u64 t.d])).run Tryd.prog w = .ok r w :=
  run_eq_set s.f t.f r (by rw [hr, decide_eq_true_iff]; exact S4.eq_iff) w
theorem eq_none4 (s : S4) (r : Bool) (hr : r = decide (s = none4)) (w : World) :
    (Op.equalIn 10000 24 (.agg #[.int .u64 s.a, .int .u64 s.b, .int .u64 s.c, .int .u64 s.d]) (.agg #[.int .u64 0, .int .u64 0, .int .u64 0, .int .u64 0])).run Tryd.prog w = .ok r w := eq_s4 s none4 r hr w
set_option maxHeartbeats 8000000 in
set_option maxRecDepth 1000000 in
theorem reftimes_any (x y : Int) (w : World) : Calls Tryd.prog 45 #[.int .i64 x, .int .i64 y] w fun e w' => e = .returned (.bool (timesB x y)) ∧ w' = w := by
  go_enter Tryd.func45, Tryd.ntmps45
  go_wp2_with fail
  all_goals go_ret
  all_goals refine ⟨ret_bool ?_, rfl⟩
  all_goals (unfold timesB; rw [Bool.eq_iff_iff]; simp at *; omega)
set_option maxHeartbeats 8000000 in
set_option maxRecDepth 1000000 in
theorem times_any (x y : Int) (w : World) : Calls Tryd.prog 42 #[.int .i64 x, .int .i64 y] w fun e w' => e = .returned (.bool (timesB x y)) ∧ w' = w := by
  go_enter Tryd.func42, Tryd.ntmps42
  go_wp2_with fail
  all_goals go_ret
  all_goals refine ⟨ret_bool ?_, rfl⟩
  all_goals (unfold timesB; rw [Bool.eq_iff_iff]; simp at *; omega)
/-- all parts before i are right -/
def KidsOk (k : Int) (l : List Nd) (i : Nat) : Prop := ∀ j n, j < i → l[j]? = some n → rightN n = true ∧ (n.kind = k → k = 4)
theorem KidsOk.all {k : Int} {l : List Nd} (h : KidsOk k l l.length) : ∀ n ∈ l, rightN n = true ∧ (n.kind = k → k = 4) := fun n hn => by
  obtain ⟨j, hj, e⟩ := List.getElem_of_mem hn
  exact h j n hj (by rw [List.getElem?_eq_getElem hj, e])
theorem KidsOk.succ {k : Int} {l : List Nd} {i : Nat} {n : Nd} (h : KidsOk k l i) (hn : l[i]? = some n) (h1 : rightN n = true) (h2 : n.kind = k → k = 4) : KidsOk k l (i + 1) := fun j m hj hm => by
  by_cases e : j = i
  · subst e
    rw [hn] at hm
    cases hm
    exact ⟨h1, h2⟩
  · exact h j m (by omega) hm
theorem KidsOk.no {k : Int} {l : List Nd} {i : Nat} {n : Nd} (hn : l[i]? = some n) (h : ¬ (rightN n = true ∧ (n.kind = k → k = 4))) (s : S4) (x y : Int) : rightN (.mk k s l x y) = false := by
  rw [Bool.eq_false_iff]
  intro hr
  exact h ((rightN_iff.1 hr).1 n (List.mem_of_getElem? hn))
/-- what a right tree is, but for its parts -/
def RestOk (k : Int) (s : S4) (l : List Nd) (x y : Int) : Prop := (k ≠ 1 → s = none4) ∧ (k ≠ 4 → x = 0 ∧ y = 0) ∧ ((k = 1 ∧ l = []) ∨ (k = 2 ∧ l.length ≠ 1) ∨ (k = 3 ∧ 1 < l.length) ∨ (k = 4 ∧ l.length = 1 ∧ timesB x y = true))
theorem not_right {k : Int} {s : S4} {l : List Nd} {x y : Int} (h : ¬ ((k ≠ 1 → s = none4) ∧ (k ≠ 4 → x = 0 ∧ y = 0) ∧ ((k = 1 ∧ l = []) ∨ (k = 2 ∧ l.length ≠ 1) ∨ (k = 3 ∧ 1 < l.length) ∨ (k = 4 ∧ l.length = 1 ∧ timesB x y = true)))) : rightN (.mk k s l x y) = false := by
  rw [Bool.eq_false_iff]
  exact fun hr => h (rightN_iff.1 hr).2
set_option maxHeartbeats 8000000 in
set_option maxRecDepth 1000000 in
theorem refright_any (n : Nd) : ∀ (v : Value) (w : World), NdAt w v n →
    Calls Tryd.prog 25 #[v] w fun e w' => e = .returned (.bool (rightN n)) ∧ Below w.heap.size w w' := by
  refine Nd.ind (P := fun n => ∀ (v : Value) (w : World), NdAt w v n →
    Calls Tryd.prog 25 #[v] w fun e w' => e = .returned (.bool (rightN n)) ∧ Below w.heap.size w w') (fun k s l x y ih v w hv => ?_) n
  obtain ⟨a, c, rfl, hin⟩ := hv
  have hln : l.length ≤ 9223372036854775807 := by have := hin.len; unfold maxLen at this; exact this
  have hz0 : (w.alloc (.cells #[.int .i64 k, .int .u64 s.a, .int .u64 s.b, .int .u64 s.c, .int .u64 s.d, .slice a l.length c, .int .i64 x, .int .i64 y] 27)).heap.size = w.heap.size + 1 := by simp
  have hb0 := (Below.refl w.heap.size w).alloc (Nat.le_refl _) (.cells #[.int .i64 k, .int .u64 s.a, .int .u64 s.b, .int .u64 s.c, .int .u64 s.d, .slice a l.length c, .int .i64 x, .int .i64 y] 27)
  have hb2 := hb0.alloc (by rw [hz0]; omega) (.cells #[.int .u64 0, .int .u64 0, .int .u64 0, .int .u64 0] 24)
  have hq := Blk.new w 27 #[.int .i64 k, .int .u64 s.a, .int .u64 s.b, .int .u64 s.c, .int .u64 s.d, .slice a l.length c, .int .i64 x, .int .i64 y]
  have hbz := (Below.refl (w.alloc (.cells #[.int .i64 k, .int .u64 s.a, .int .u64 s.b, .int .u64 s.c, .int .u64 s.d, .slice a l.length c, .int .i64 x, .int .i64 y] 27)).heap.size (w.alloc (.cells #[.int .i64 k, .int .u64 s.a, .int .u64 s.b, .int .u64 s.c, .int .u64 s.d, .slice a l.length c, .int .i64 x, .int .i64 y] 27))).alloc (Nat.le_refl _) (.cells #[.int .u64 0, .int .u64 0, .int .u64 0, .int .u64 0] 24)
  have IH := Lib.hid ih
  have HB2 := Lib.hid hb2
  obtain ⟨⟨y0, y1, y2, y3, y4, y5, y6, y7⟩, -⟩ := hq.c8
  have H := Lib.hid (And.intro (hin.below hb0) (And.intro hq hb0))
  obtain ⟨e0, he0⟩ : ∃ e0, decide (s = none4) = e0 := ⟨_, rfl⟩
  have heq := eq_none4 s e0 he0.symm
  have HE := Lib.hid he0
  clear hin hb0 hb2 hq ih he0 hz0
  obtain ⟨R, hR⟩ : ∃ R, rightN (.mk k s l x y) = R := ⟨_, rfl⟩
  have HR := Lib.hid hR
  rw [hR]
  clear hR
  show Calls Tryd.prog 25 #[.agg #[.int .i64 k, .int .u64 s.a, .int .u64 s.b, .int .u64 s.c, .int .u64 s.d, .slice a l.length c, .int .i64 x, .int .i64 y]] w _
  by_cases hk : k < 1 ∨ 4 < k
  · have HF := Lib.hid (show R = false by rw [← HR.out]; exact not_right (by omega))
    go_enter Tryd.func25, Tryd.ntmps25
    rcases hk with hk | hk
    · have k1 : decide (k < 1) = true := decide_eq_true hk
      go_wp2_with (go_at_call 45; refine (reftimes_any _ _ _).mono ?_; rintro e w' ⟨rfl, rfl⟩)
      all_goals go_ret
      all_goals first | exact ⟨ret_bool HF.out.symm, H.out.2.2⟩ | exact ⟨ret_bool HF.out.symm, HB2.out⟩
    · have k1 : decide (k < 1) = false := decide_eq_false (by omega)
      have k2 : decide (4 < k) = true := decide_eq_true hk
      go_wp2_with (go_at_call 45; refine (reftimes_any _ _ _).mono ?_; rintro e w' ⟨rfl, rfl⟩)
      all_goals go_ret
      all_goals first | exact ⟨ret_bool HF.out.symm, H.out.2.2⟩ | exact ⟨ret_bool HF.out.symm, HB2.out⟩
  by_cases h1 : k = 1
  · subst h1
    by_cases hxy : x = 0 ∧ y = 0
    case neg =>
      have HF := Lib.hid (show R = false by rw [← HR.out]; exact not_right (fun h => hxy (h.2.1 (by omega))))
      go_enter Tryd.func25, Tryd.ntmps25
      by_cases hx : x = 0
      · have hy : ¬ y = 0 := fun e => hxy ⟨hx, e⟩
        subst hx
        go_wp2_with (go_at_call 45; refine (reftimes_any _ _ _).mono ?_; rintro e w' ⟨rfl, rfl⟩)
        all_goals go_ret
        all_goals first | exact ⟨ret_bool HF.out.symm, H.out.2.2⟩ | exact ⟨ret_bool HF.out.symm, HB2.out⟩
      · skip
        go_wp2_with (go_at_call 45; refine (reftimes_any _ _ _).mono ?_; rintro e w' ⟨rfl, rfl⟩)
        all_goals go_ret
        all_goals first | exact ⟨ret_bool HF.out.symm, H.out.2.2⟩ | exact ⟨ret_bool HF.out.symm, HB2.out⟩
    obtain ⟨rfl, rfl⟩ := hxy
    by_cases hl : l = []
    case neg =>
      have HF := Lib.hid (show R = false by rw [← HR.out]; exact not_right (fun h => hl (by have := h.2.2; simpa using this)))
      go_enter Tryd.func25, Tryd.ntmps25
      go_wp2_with (go_at_call 45; refine (reftimes_any _ _ _).mono ?_; rintro e w' ⟨rfl, rfl⟩)
      all_goals go_ret
      all_goals first | exact ⟨ret_bool HF.out.symm, H.out.2.2⟩ | exact ⟨ret_bool HF.out.symm, HB2.out⟩
    subst hl
    have HF := Lib.hid (show R = true by
      rw [← HR.out]
      exact rightN_iff.2 ⟨fun n hn => (by cases hn), fun h => absurd rfl h, fun _ => ⟨rfl, rfl⟩, .inl ⟨rfl, rfl⟩⟩)
    go_enter Tryd.func25, Tryd.ntmps25
    go_wp2_with fail
    clear y0 y1 y2 y3 y4 y5 y6 y7 heq
    have G := Lib.hid (H.out.2.1.below hbz H.out.2.1.lt)
    clear hbz
    generalize (w.alloc (.cells #[.int .i64 1, .int .u64 s.a, .int .u64 s.b, .int .u64 s.c, .int .u64 s.d, .slice a 0 c, .int .i64 0, .int .i64 0] 27)).alloc (.cells #[.int .u64 0, .int .u64 0, .int .u64 0, .int .u64 0] 24) = W at *
    go_loopw [5] (fun si wr => si = .int .i64 0 ∧ wr = W) (fun si _ => 0)
    case atStart => exact ⟨rfl, rfl⟩
    case round =>
      obtain ⟨rfl, hwr⟩ := hrel
      subst hwr
      obtain ⟨⟨y0, y1, y2, y3, y4, y5, y6, y7⟩, -⟩ := G.out.c8
      go_wp2_with fail
      go_ret
      exact ⟨ret_bool HF.out.symm, HB2.out⟩
  by_cases h2 : k = 2
  · subst h2
    by_cases hr : s = none4 ∧ (x = 0 ∧ y = 0) ∧ l.length ≠ 1
    case neg =>
      have HF := Lib.hid (show R = false by rw [← HR.out]; exact not_right (fun h => hr ⟨h.1 (by omega), h.2.1 (by omega), by have := h.2.2; omega⟩))
      go_enter Tryd.func25, Tryd.ntmps25
      cases e0 with
      | false =>
        go_wp2_with (go_at_call 45; refine (reftimes_any _ _ _).mono ?_; rintro e w' ⟨rfl, rfl⟩)
        all_goals go_ret
        all_goals first | exact ⟨ret_bool HF.out.symm, H.out.2.2⟩ | exact ⟨ret_bool HF.out.symm, HB2.out⟩
      | true =>
        have hs : s = none4 := of_decide_eq_true HE.out
        by_cases hx : x = 0
        · subst hx
          by_cases hy : y = 0
          · subst hy
            have h1 : l.length = 1 := by
              refine Classical.byContradiction fun h => hr ⟨hs, ⟨rfl, rfl⟩, h⟩
            have k4 : ((l.length : Int) == 1) = true := by rw [h1]; rfl
            clear h1 hr hs
            go_wp2_with (go_at_call 45; refine (reftimes_any _ _ _).mono ?_; rintro e w' ⟨rfl, rfl⟩)
            all_goals go_ret
            all_goals first | exact ⟨ret_bool HF.out.symm, H.out.2.2⟩ | exact ⟨ret_bool HF.out.symm, HB2.out⟩
          · clear hr hs
            go_wp2_with (go_at_call 45; refine (reftimes_any _ _ _).mono ?_; rintro e w' ⟨rfl, rfl⟩)
            all_goals go_ret
            all_goals first | exact ⟨ret_bool HF.out.symm, H.out.2.2⟩ | exact ⟨ret_bool HF.out.symm, HB2.out⟩
        · clear hr hs
          go_wp2_with (go_at_call 45; refine (reftimes_any _ _ _).mono ?_; rintro e w' ⟨rfl, rfl⟩)
          all_goals go_ret
          all_goals first | exact ⟨ret_bool HF.out.symm, H.out.2.2⟩ | exact ⟨ret_bool HF.out.symm, HB2.out⟩
    obtain ⟨hs, ⟨rfl, rfl⟩, hl1⟩ := hr
    have HRR := Lib.hid (show RestOk 2 s l 0 0 from ⟨fun _ => hs, fun _ => ⟨rfl, rfl⟩, .inr (.inl ⟨rfl, hl1⟩)⟩)
    obtain rfl : e0 = true := by rw [← HE.out]; exact decide_eq_true hs
    have k4 : ((l.length : Int) == 1) = false := by
      rw [beq_eq_false_iff_ne]
      omega
    have G := Lib.hid (And.intro (H.out.1.below hbz) (And.intro (H.out.2.1.below hbz H.out.2.1.lt) trivial))
    clear hs hl1 hbz
    go_enter Tryd.func25, Tryd.ntmps25
    go_wp2_with fail
    clear y0 y1 y2 y3 y4 y5 y6 y7 heq
    generalize hWe : (w.alloc (.cells #[.int .i64 2, .int .u64 s.a, .int .u64 s.b, .int .u64 s.c, .int .u64 s.d, .slice a l.length c, .int .i64 0, .int .i64 0] 27)).alloc (.cells #[.int .u64 0, .int .u64 0, .int .u64 0, .int .u64 0] 24) = W at *
    go_loopw [5] (fun si wr => ∃ i : Nat, si = .int .i64 (i : Int) ∧ i ≤ l.length ∧ Hid (KidsOk 2 l i) ∧ Below W.heap.size W wr) (fun si _ => l.length - (intOf si).toNat)
    case atStart => exact ⟨0, rfl, Nat.zero_le _, Lib.hid (fun j n h => by omega), Below.refl _ _⟩
    case round =>
      obtain ⟨i, rfl, hi, HK, hbr⟩ := hrel
      have hq := G.out.2.1.below hbr G.out.2.1.lt
      obtain ⟨⟨y0, y1, y2, y3, y4, y5, y6, y7⟩, -⟩ := hq.c8
      have hin := G.out.1.below hbr
      have hb1 := HB2.out.trans (hbr.mono HB2.out.size)
      have HBB := Lib.hid (And.intro hb1 hbr)
      clear hb1
      by_cases hil : i < l.length
      · have k1 : decide (i < l.length) = true := decide_eq_true hil
        obtain ⟨m, hm⟩ : ∃ m, l[i]? = some m := ⟨_, List.getElem?_eq_getElem hil⟩
        have HM := Lib.hid hm
        obtain ⟨b, o, a', c', rfl, hblt, hl8, hin'⟩ := hin.kid (i := i) (m := m) hm
        obtain ⟨z0, z1, z2, z3, z4, z5, z6, z7⟩ := hl8.c8
        have HI := Lib.hid hin'
        clear hin hin' hl8 hq hm hbr
        go_wp2_with fail
        refine wp_region_T [] (by kernel_rfl) ?_
        intro V bb
        have lc : ∀ {p : Addr} {v : Value}, wr.cell? p = some v → ∀ d os, (Sort.grow (redrawn V d) os).cell? p = some v := fun {p v} hp d os => ((bb.trans ((below_regrown V d os).mono bb.size)).cell (World.block_lt_of_cell? wr p hp)).trans hp
        have q0 := lc y0
        have q5 := lc y5
        have r0 := lc z0
        have r1 := lc z1
        have r2 := lc z2
        have r3 := lc z3
        have r4 := lc z4
        have r5 := lc z5
        have r6 := lc z6
        have r7 := lc z7
        clear lc y0 y1 y2 y3 y4 y5 y6 y7 z0 z1 z2 z3 z4 z5 z6 z7
        refine stepsQ [0, 1, 2, 3, 4] (by kernel_rfl) (by kernel_rfl) (by kernel_rfl) (Grown.of_below (Below.refl _ _)) ?_
        simp only [atIdx, List.filterMap_cons, List.filterMap_nil, List.getElem?_toArray, List.getElem_toArray, List.getElem?_cons_zero, List.getElem?_cons_succ, List.getElem_cons_zero, List.getElem_cons_succ]
        iterate 5 (show wpQuiet _ _ _ _ (_ :: _) _; go_big_quiet_step (fail))
        refine wpQuiet_nil ?_
        show stepT _ _ _ _ _ _ _ _ _
        refine stepS (i := 5) rfl (by kernel_rfl) ?_
        intro Kx hKx
        go_simp
        refine (IH.out m (List.mem_of_getElem? HM.out) _ V ⟨a', c', rfl, HI.out.below bb⟩).mono ?_
        rintro e w1 ⟨rfl, b1⟩
        have HV := Lib.hid (And.intro bb b1)
        clear bb
        refine hKx _ _ ⟨fun _ => Grown.of_below b1, ?_⟩
        clear hKx Kx
        have hbw := HBB.out.1.trans ((HV.out.1.trans (HV.out.2.mono HV.out.1.size)).mono HBB.out.1.size)
        have hbW := HBB.out.2.trans ((HV.out.1.trans (HV.out.2.mono HV.out.1.size)).mono HBB.out.2.size)
        have HW := Lib.hid (And.intro hbw hbW)
        clear hbw hbW
        cases hrm : rightN m with
        | false =>
          have HF := Lib.hid (show R = false by rw [← HR.out]; exact KidsOk.no HM.out (by rw [hrm]; simp) _ _ _)
          clear hrm
          refine stepsQ [6, 7, 8, 9, 10, 11, 12, 13, 14, 15, 16, 17, 18, 19, 20, 21, 22] (by kernel_rfl) (by kernel_rfl) (by kernel_rfl) (Grown.of_below b1) ?_
          simp only [atIdx, List.filterMap_cons, List.filterMap_nil, List.getElem?_toArray, List.getElem_toArray, List.getElem?_cons_zero, List.getElem?_cons_succ, List.getElem_cons_zero, List.getElem_cons_succ]
          iterate 17 (show wpQuiet _ _ _ _ (_ :: _) _; go_big_quiet_step (fail))
          refine wpQuiet_nil ?_
          show stepT _ _ _ _ _ _ _ _ _
          refine stepT_end (by kernel_rfl) ?_
          clear q0 q5 r0 r1 r2 r3 r4 r5 r6 r7
          go_wp2_with fail
          go_ret
          exact ⟨ret_bool HF.out.symm, HW.out.1⟩
        | true =>
          have HT := Lib.hid hrm
          clear hrm
          by_cases hkm : m.kind = 2
          · have HF := Lib.hid (show R = false by rw [← HR.out]; exact KidsOk.no HM.out (by rw [hkm]; simp) _ _ _)
            have k5 : (m.kind == 2) = true := by rw [hkm]; rfl
            clear hkm
            refine stepsQ [6, 7, 8, 9, 10, 11, 12, 13, 14, 15, 16, 17, 18, 19, 20, 21, 22] (by kernel_rfl) (by kernel_rfl) (by kernel_rfl) (Grown.of_below b1) ?_
            simp only [atIdx, List.filterMap_cons, List.filterMap_nil, List.getElem?_toArray, List.getElem_toArray, List.getElem?_cons_zero, List.getElem?_cons_succ, List.getElem_cons_zero, List.getElem_cons_succ]
            iterate 17 (show wpQuiet _ _ _ _ (_ :: _) _; go_big_quiet_step (fail))
            refine wpQuiet_nil ?_
            show stepT _ _ _ _ _ _ _ _ _
            refine stepT_end (by kernel_rfl) ?_
            clear q0 q5 r0 r1 r2 r3 r4 r5 r6 r7
            go_wp2_with fail
            go_ret
            exact ⟨ret_bool HF.out.symm, HW.out.1⟩
          · have k5 : (m.kind == 2) = false := by rw [beq_eq_false_iff_ne]; exact hkm
            have HN := Lib.hid hkm
            clear hkm
            refine stepsQ [6, 7, 8, 9, 10, 11, 12, 13, 14, 15, 16, 17, 18, 19, 20, 21, 22] (by kernel_rfl) (by kernel_rfl) (by kernel_rfl) (Grown.of_below b1) ?_
            simp only [atIdx, List.filterMap_cons, List.filterMap_nil, List.getElem?_toArray, List.getElem_toArray, List.getElem?_cons_zero, List.getElem?_cons_succ, List.getElem_cons_zero, List.getElem_cons_succ]
            iterate 17 (show wpQuiet _ _ _ _ (_ :: _) _; go_big_quiet_step (fail))
            refine wpQuiet_nil ?_
            show stepT _ _ _ _ _ _ _ _ _
            refine stepT_end (by kernel_rfl) ?_
            clear q0 q5 r0 r1 r2 r3 r4 r5 r6 r7
            go_wp2_with fail
            go_roundw
            case rel => exact ⟨i + 1, by go_num, hil, Lib.hid (HK.out.succ HM.out HT.out (fun e => absurd e HN.out)), HW.out.2⟩
            case measure => simp [intOf]; omega
      · have k1 : decide (i < l.length) = false := decide_eq_false hil
        have HF := Lib.hid (show R = true by
          rw [← HR.out]
          obtain rfl : i = l.length := by omega
          exact rightN_iff.2 ⟨HK.out.all, HRR.out⟩)
        go_wp2_with fail
        go_ret
        exact ⟨ret_bool HF.out.symm, HBB.out.1⟩
  by_cases h3 : k = 3
  · subst h3
    by_cases hr : s = none4 ∧ (x = 0 ∧ y = 0) ∧ 1 < l.length
    case neg =>
      have HF := Lib.hid (show R = false by rw [← HR.out]; exact not_right (fun h => hr ⟨h.1 (by omega), h.2.1 (by omega), by have := h.2.2; omega⟩))
      go_enter Tryd.func25, Tryd.ntmps25
      cases e0 with
      | false =>
        go_wp2_with (go_at_call 45; refine (reftimes_any _ _ _).mono ?_; rintro e w' ⟨rfl, rfl⟩)
        all_goals go_ret
        all_goals first | exact ⟨ret_bool HF.out.symm, H.out.2.2⟩ | exact ⟨ret_bool HF.out.symm, HB2.out⟩
      | true =>
        have hs : s = none4 := of_decide_eq_true HE.out
        by_cases hx : x = 0
        · subst hx
          by_cases hy : y = 0
          · subst hy
            have h1 : ¬ 1 < l.length := fun h => hr ⟨hs, ⟨rfl, rfl⟩, h⟩
            have k4 : decide ((l.length : Int) < 2) = true := decide_eq_true (by omega)
            clear h1 hr hs
            go_wp2_with (go_at_call 45; refine (reftimes_any _ _ _).mono ?_; rintro e w' ⟨rfl, rfl⟩)
            all_goals go_ret
            all_goals first | exact ⟨ret_bool HF.out.symm, H.out.2.2⟩ | exact ⟨ret_bool HF.out.symm, HB2.out⟩
          · clear hr hs
            go_wp2_with (go_at_call 45; refine (reftimes_any _ _ _).mono ?_; rintro e w' ⟨rfl, rfl⟩)
            all_goals go_ret
            all_goals first | exact ⟨ret_bool HF.out.symm, H.out.2.2⟩ | exact ⟨ret_bool HF.out.symm, HB2.out⟩
        · clear hr hs
          go_wp2_with (go_at_call 45; refine (reftimes_any _ _ _).mono ?_; rintro e w' ⟨rfl, rfl⟩)
          all_goals go_ret
          all_goals first | exact ⟨ret_bool HF.out.symm, H.out.2.2⟩ | exact ⟨ret_bool HF.out.symm, HB2.out⟩
    obtain ⟨hs, ⟨rfl, rfl⟩, hl1⟩ := hr
    have HRR := Lib.hid (show RestOk 3 s l 0 0 from ⟨fun _ => hs, fun _ => ⟨rfl, rfl⟩, .inr (.inr (.inl ⟨rfl, hl1⟩))⟩)
    obtain rfl : e0 = true := by rw [← HE.out]; exact decide_eq_true hs
    have k4 : decide ((l.length : Int) < 2) = false := decide_eq_false (by omega)
    have G := Lib.hid (And.intro (H.out.1.below hbz) (And.intro (H.out.2.1.below hbz H.out.2.1.lt) trivial))
    clear hs hl1 hbz
    go_enter Tryd.func25, Tryd.ntmps25
    go_wp2_with fail
    clear y0 y1 y2 y3 y4 y5 y6 y7 heq
    generalize hWe : (w.alloc (.cells #[.int .i64 3, .int .u64 s.a, .int .u64 s.b, .int .u64 s.c, .int .u64 s.d, .slice a l.length c, .int .i64 0, .int .i64 0] 27)).alloc (.cells #[.int .u64 0, .int .u64 0, .int .u64 0, .int .u64 0] 24) = W at *
    go_loopw [5] (fun si wr => ∃ i : Nat, si = .int .i64 (i : Int) ∧ i ≤ l.length ∧ Hid (KidsOk 3 l i) ∧ Below W.heap.size W wr) (fun si _ => l.length - (intOf si).toNat)
    case atStart => exact ⟨0, rfl, Nat.zero_le _, Lib.hid (fun j n h => by omega), Below.refl _ _⟩
    case round =>
      obtain ⟨i, rfl, hi, HK, hbr⟩ := hrel
      have hq := G.out.2.1.below hbr G.out.2.1.lt
      obtain ⟨⟨y0, y1, y2, y3, y4, y5, y6, y7⟩, -⟩ := hq.c8
      have hin := G.out.1.below hbr
      have hb1 := HB2.out.trans (hbr.mono HB2.out.size)
      have HBB := Lib.hid (And.intro hb1 hbr)
      clear hb1
      by_cases hil : i < l.length
      · have k1 : decide (i < l.length) = true := decide_eq_true hil
        obtain ⟨m, hm⟩ : ∃ m, l[i]? = some m := ⟨_, List.getElem?_eq_getElem hil⟩
        have HM := Lib.hid hm
        obtain ⟨b, o, a', c', rfl, hblt, hl8, hin'⟩ := hin.kid (i := i) (m := m) hm
        obtain ⟨z0, z1, z2, z3, z4, z5, z6, z7⟩ := hl8.c8
        have HI := Lib.hid hin'
        clear hin hin' hl8 hq hm hbr
        go_wp2_with fail
        refine wp_region_T [] (by kernel_rfl) ?_
        intro V bb
        have lc : ∀ {p : Addr} {v : Value}, wr.cell? p = some v → ∀ d os, (Sort.grow (redrawn V d) os).cell? p = some v := fun {p v} hp d os => ((bb.trans ((below_regrown V d os).mono bb.size)).cell (World.block_lt_of_cell? wr p hp)).trans hp
        have q0 := lc y0
        have q5 := lc y5
        have r0 := lc z0
        have r1 := lc z1
        have r2 := lc z2
        have r3 := lc z3
        have r4 := lc z4
        have r5 := lc z5
        have r6 := lc z6
        have r7 := lc z7
        clear lc y0 y1 y2 y3 y4 y5 y6 y7 z0 z1 z2 z3 z4 z5 z6 z7
        refine stepsQ [0, 1, 2, 3, 4] (by kernel_rfl) (by kernel_rfl) (by kernel_rfl) (Grown.of_below (Below.refl _ _)) ?_
        simp only [atIdx, List.filterMap_cons, List.filterMap_nil, List.getElem?_toArray, List.getElem_toArray, List.getElem?_cons_zero, List.getElem?_cons_succ, List.getElem_cons_zero, List.getElem_cons_succ]
        iterate 5 (show wpQuiet _ _ _ _ (_ :: _) _; go_big_quiet_step (fail))
        refine wpQuiet_nil ?_
        show stepT _ _ _ _ _ _ _ _ _
        refine stepS (i := 5) rfl (by kernel_rfl) ?_
        intro Kx hKx
        go_simp
        refine (IH.out m (List.mem_of_getElem? HM.out) _ V ⟨a', c', rfl, HI.out.below bb⟩).mono ?_
        rintro e w1 ⟨rfl, b1⟩
        have HV := Lib.hid (And.intro bb b1)
        clear bb
        refine hKx _ _ ⟨fun _ => Grown.of_below b1, ?_⟩
        clear hKx Kx
        have hbw := HBB.out.1.trans ((HV.out.1.trans (HV.out.2.mono HV.out.1.size)).mono HBB.out.1.size)
        have hbW := HBB.out.2.trans ((HV.out.1.trans (HV.out.2.mono HV.out.1.size)).mono HBB.out.2.size)
        have HW := Lib.hid (And.intro hbw hbW)
        clear hbw hbW
        cases hrm : rightN m with
        | false =>
          have HF := Lib.hid (show R = false by rw [← HR.out]; exact KidsOk.no HM.out (by rw [hrm]; simp) _ _ _)
          clear hrm
          refine stepsQ [6, 7, 8, 9, 10, 11, 12, 13, 14, 15, 16, 17, 18, 19, 20, 21, 22] (by kernel_rfl) (by kernel_rfl) (by kernel_rfl) (Grown.of_below b1) ?_
          simp only [atIdx, List.filterMap_cons, List.filterMap_nil, List.getElem?_toArray, List.getElem_toArray, List.getElem?_cons_zero, List.getElem?_cons_succ, List.getElem_cons_zero, List.getElem_cons_succ]
          iterate 17 (show wpQuiet _ _ _ _ (_ :: _) _; go_big_quiet_step (fail))
          refine wpQuiet_nil ?_
          show stepT _ _ _ _ _ _ _ _ _
          refine stepT_end (by kernel_rfl) ?_
          clear q0 q5 r0 r1 r2 r3 r4 r5 r6 r7
          go_wp2_with fail
          go_ret
          exact ⟨ret_bool HF.out.symm, HW.out.1⟩
        | true =>
          have HT := Lib.hid hrm
          clear hrm
          by_cases hkm : m.kind = 3
          · have HF := Lib.hid (show R = false by rw [← HR.out]; exact KidsOk.no HM.out (by rw [hkm]; simp) _ _ _)
            have k5 : (m.kind == 3) = true := by rw [hkm]; rfl
            clear hkm
            refine stepsQ [6, 7, 8, 9, 10, 11, 12, 13, 14, 15, 16, 17, 18, 19, 20, 21, 22] (by kernel_rfl) (by kernel_rfl) (by kernel_rfl) (Grown.of_below b1) ?_
            simp only [atIdx, List.filterMap_cons, List.filterMap_nil, List.getElem?_toArray, List.getElem_toArray, List.getElem?_cons_zero, List.getElem?_cons_succ, List.getElem_cons_zero, List.getElem_cons_succ]
            iterate 17 (show wpQuiet _ _ _ _ (_ :: _) _; go_big_quiet_step (fail))
            refine wpQuiet_nil ?_
            show stepT _ _ _ _ _ _ _ _ _
            refine stepT_end (by kernel_rfl) ?_
            clear q0 q5 r0 r1 r2 r3 r4 r5 r6 r7
            go_wp2_with fail
            go_ret
            exact ⟨ret_bool HF.out.symm, HW.out.1⟩
          · have k5 : (m.kind == 3) = false := by rw [beq_eq_false_iff_ne]; exact hkm
            have HN := Lib.hid hkm
            clear hkm
            refine stepsQ [6, 7, 8, 9, 10, 11, 12, 13, 14, 15, 16, 17, 18, 19, 20, 21, 22] (by kernel_rfl) (by kernel_rfl) (by kernel_rfl) (Grown.of_below b1) ?_
            simp only [atIdx, List.filterMap_cons, List.filterMap_nil, List.getElem?_toArray, List.getElem_toArray, List.getElem?_cons_zero, List.getElem?_cons_succ, List.getElem_cons_zero, List.getElem_cons_succ]
            iterate 17 (show wpQuiet _ _ _ _ (_ :: _) _; go_big_quiet_step (fail))
            refine wpQuiet_nil ?_
            show stepT _ _ _ _ _ _ _ _ _
            refine stepT_end (by kernel_rfl) ?_
            clear q0 q5 r0 r1 r2 r3 r4 r5 r6 r7
            go_wp2_with fail
            go_roundw
            case rel => exact ⟨i + 1, by go_num, hil, Lib.hid (HK.out.succ HM.out HT.out (fun e => absurd e HN.out)), HW.out.2⟩
            case measure => simp [intOf]; omega
      · have k1 : decide (i < l.length) = false := decide_eq_false hil
        have HF := Lib.hid (show R = true by
          rw [← HR.out]
          obtain rfl : i = l.length := by omega
          exact rightN_iff.2 ⟨HK.out.all, HRR.out⟩)
        go_wp2_with fail
        go_ret
        exact ⟨ret_bool HF.out.symm, HBB.out.1⟩
  obtain rfl : k = 4 := by omega
  by_cases hr : s = none4 ∧ l.length = 1 ∧ timesB x y = true
  case neg =>
    have HF := Lib.hid (show R = false by rw [← HR.out]; exact not_right (fun h => hr ⟨h.1 (by omega), by have := h.2.2; omega, by rcases h.2.2 with h | h | h | h <;> first | exact h.2.2 | exact absurd h.1 (by omega)⟩))
    go_enter Tryd.func25, Tryd.ntmps25
    cases e0 with
    | false =>
      go_wp2_with (go_at_call 45; refine (reftimes_any _ _ _).mono ?_; rintro e w' ⟨rfl, rfl⟩)
      all_goals go_ret
      all_goals first | exact ⟨ret_bool HF.out.symm, H.out.2.2⟩ | exact ⟨ret_bool HF.out.symm, HB2.out⟩
    | true =>
      have hs : s = none4 := of_decide_eq_true HE.out
      by_cases h1 : l.length = 1
      · have ht : timesB x y = false := by
          cases h : timesB x y with
          | false => rfl
          | true => exact (hr ⟨hs, h1, h⟩).elim
        have k4 : ((l.length : Int) != 1) = false := by rw [h1]; rfl
        clear h1 hr hs
        go_wp2_with (go_at_call 45; refine (reftimes_any _ _ _).mono ?_; rintro e w' ⟨rfl, rfl⟩; rw [ht])
        all_goals go_ret
        all_goals first | exact ⟨ret_bool HF.out.symm, H.out.2.2⟩ | exact ⟨ret_bool HF.out.symm, HB2.out⟩
      · have k4 : ((l.length : Int) != 1) = true := by
          rw [bne_iff_ne]
          omega
        clear hr hs
        go_wp2_with (go_at_call 45; refine (reftimes_any _ _ _).mono ?_; rintro e w' ⟨rfl, rfl⟩)
        all_goals go_ret
        all_goals first | exact ⟨ret_bool HF.out.symm, H.out.2.2⟩ | exact ⟨ret_bool HF.out.symm, HB2.out⟩
  obtain ⟨hs, hl1, ht⟩ := hr
  have HRR := Lib.hid (show RestOk 4 s l x y from ⟨fun _ => hs, fun h => absurd rfl h, .inr (.inr (.inr ⟨rfl, hl1, ht⟩))⟩)
  obtain rfl : e0 = true := by rw [← HE.out]; exact decide_eq_true hs
  have k4 : ((l.length : Int) != 1) = false := by rw [hl1]; rfl
  have G := Lib.hid (And.intro (H.out.1.below hbz) (And.intro (H.out.2.1.below hbz H.out.2.1.lt) trivial))
  clear hs hl1 hbz
  go_enter Tryd.func25, Tryd.ntmps25
  go_wp2_with (go_at_call 45; refine (reftimes_any _ _ _).mono ?_; rintro e w' ⟨rfl, rfl⟩; rw [ht])
  clear ht
  clear y0 y1 y2 y3 y4 y5 y6 y7 heq
  generalize hWe : (w.alloc (.cells #[.int .i64 4, .int .u64 s.a, .int .u64 s.b, .int .u64 s.c, .int .u64 s.d, .slice a l.length c, .int .i64 x, .int .i64 y] 27)).alloc (.cells #[.int .u64 0, .int .u64 0, .int .u64 0, .int .u64 0] 24) = W at *
  go_loopw [5] (fun si wr => ∃ i : Nat, si = .int .i64 (i : Int) ∧ i ≤ l.length ∧ Hid (KidsOk 4 l i) ∧ Below W.heap.size W wr) (fun si _ => l.length - (intOf si).toNat)
  case atStart => exact ⟨0, rfl, Nat.zero_le _, Lib.hid (fun j n h => by omega), Below.refl _ _⟩
  case round =>
    obtain ⟨i, rfl, hi, HK, hbr⟩ := hrel
    have hq := G.out.2.1.below hbr G.out.2.1.lt
    obtain ⟨⟨y0, y1, y2, y3, y4, y5, y6, y7⟩, -⟩ := hq.c8
    have hin := G.out.1.below hbr
    have hb1 := HB2.out.trans (hbr.mono HB2.out.size)
    have HBB := Lib.hid (And.intro hb1 hbr)
    clear hb1
    by_cases hil : i < l.length
    · have k1 : decide (i < l.length) = true := decide_eq_true hil
      obtain ⟨m, hm⟩ : ∃ m, l[i]? = some m := ⟨_, List.getElem?_eq_getElem hil⟩
      have HM := Lib.hid hm
      obtain ⟨b, o, a', c', rfl, hblt, hl8, hin'⟩ := hin.kid (i := i) (m := m) hm
      obtain ⟨z0, z1, z2, z3, z4, z5, z6, z7⟩ := hl8.c8
      have HI := Lib.hid hin'
      clear hin hin' hl8 hq hm hbr
      go_wp2_with fail
      refine wp_region_T [] (by kernel_rfl) ?_
      intro V bb
      have lc : ∀ {p : Addr} {v : Value}, wr.cell? p = some v → ∀ d os, (Sort.grow (redrawn V d) os).cell? p = some v := fun {p v} hp d os => ((bb.trans ((below_regrown V d os).mono bb.size)).cell (World.block_lt_of_cell? wr p hp)).trans hp
      have q0 := lc y0
      have q5 := lc y5
      have r0 := lc z0
      have r1 := lc z1
      have r2 := lc z2
      have r3 := lc z3
      have r4 := lc z4
      have r5 := lc z5
      have r6 := lc z6
      have r7 := lc z7
      clear lc y0 y1 y2 y3 y4 y5 y6 y7 z0 z1 z2 z3 z4 z5 z6 z7
      refine stepsQ [0, 1, 2, 3, 4] (by kernel_rfl) (by kernel_rfl) (by kernel_rfl) (Grown.of_below (Below.refl _ _)) ?_
      simp only [atIdx, List.filterMap_cons, List.filterMap_nil, List.getElem?_toArray, List.getElem_toArray, List.getElem?_cons_zero, List.getElem?_cons_succ, List.getElem_cons_zero, List.getElem_cons_succ]
      iterate 5 (show wpQuiet _ _ _ _ (_ :: _) _; go_big_quiet_step (fail))
      refine wpQuiet_nil ?_
      show stepT _ _ _ _ _ _ _ _ _
      refine stepS (i := 5) rfl (by kernel_rfl) ?_
      intro Kx hKx
      go_simp
      refine (IH.out m (List.mem_of_getElem? HM.out) _ V ⟨a', c', rfl, HI.out.below bb⟩).mono ?_
      rintro e w1 ⟨rfl, b1⟩
      have HV := Lib.hid (And.intro bb b1)
      clear bb
      refine hKx _ _ ⟨fun _ => Grown.of_below b1, ?_⟩
      clear hKx Kx
      have hbw := HBB.out.1.trans ((HV.out.1.trans (HV.out.2.mono HV.out.1.size)).mono HBB.out.1.size)
      have hbW := HBB.out.2.trans ((HV.out.1.trans (HV.out.2.mono HV.out.1.size)).mono HBB.out.2.size)
      have HW := Lib.hid (And.intro hbw hbW)
      clear hbw hbW
      cases hrm : rightN m with
      | false =>
        have HF := Lib.hid (show R = false by rw [← HR.out]; exact KidsOk.no HM.out (by rw [hrm]; simp) _ _ _)
        clear hrm
        refine stepsQ [6, 7, 8, 9, 10, 11, 12, 13, 14, 15, 16, 17, 18, 19, 20, 21, 22] (by kernel_rfl) (by kernel_rfl) (by kernel_rfl) (Grown.of_below b1) ?_
        simp only [atIdx, List.filterMap_cons, List.filterMap_nil, List.getElem?_toArray, List.getElem_toArray, List.getElem?_cons_zero, List.getElem?_cons_succ, List.getElem_cons_zero, List.getElem_cons_succ]
        iterate 17 (show wpQuiet _ _ _ _ (_ :: _) _; go_big_quiet_step (fail))
        refine wpQuiet_nil ?_
        show stepT _ _ _ _ _ _ _ _ _
        refine stepT_end (by kernel_rfl) ?_
        clear q0 q5 r0 r1 r2 r3 r4 r5 r6 r7
        go_wp2_with fail
        go_ret
        exact ⟨ret_bool HF.out.symm, HW.out.1⟩
      | true =>
        have HT := Lib.hid hrm
        clear hrm
        cases k5 : (m.kind == 4) with
        | false =>
          refine stepsQ [6, 7, 8, 9, 10, 11, 12, 13, 14, 15, 16, 17, 18, 19, 20, 21, 22] (by kernel_rfl) (by kernel_rfl) (by kernel_rfl) (Grown.of_below b1) ?_
          simp only [atIdx, List.filterMap_cons, List.filterMap_nil, List.getElem?_toArray, List.getElem_toArray, List.getElem?_cons_zero, List.getElem?_cons_succ, List.getElem_cons_zero, List.getElem_cons_succ]
          iterate 17 (show wpQuiet _ _ _ _ (_ :: _) _; go_big_quiet_step (fail))
          refine wpQuiet_nil ?_
          show stepT _ _ _ _ _ _ _ _ _
          refine stepT_end (by kernel_rfl) ?_
          clear q0 q5 r0 r1 r2 r3 r4 r5 r6 r7
          go_wp2_with fail
          go_roundw
          case rel => exact ⟨i + 1, by go_num, hil, Lib.hid (HK.out.succ HM.out HT.out (fun _ => rfl)), HW.out.2⟩
          case measure => simp [intOf]; omega
        | true =>
          refine stepsQ [6, 7, 8, 9, 10, 11, 12, 13, 14, 15, 16, 17, 18, 19, 20, 21, 22] (by kernel_rfl) (by kernel_rfl) (by kernel_rfl) (Grown.of_below b1) ?_
          simp only [atIdx, List.filterMap_cons, List.filterMap_nil, List.getElem?_toArray, List.getElem_toArray, List.getElem?_cons_zero, List.getElem?_cons_succ, List.getElem_cons_zero, List.getElem_cons_succ]
          iterate 17 (show wpQuiet _ _ _ _ (_ :: _) _; go_big_quiet_step (fail))
          refine wpQuiet_nil ?_
          show stepT _ _ _ _ _ _ _ _ _
          refine stepT_end (by kernel_rfl) ?_
          clear q0 q5 r0 r1 r2 r3 r4 r5 r6 r7
          go_wp2_with fail
          go_roundw
          case rel => exact ⟨i + 1, by go_num, hil, Lib.hid (HK.out.succ HM.out HT.out (fun _ => rfl)), HW.out.2⟩
          case measure => simp [intOf]; omega
    · have k1 : decide (i < l.length) = false := decide_eq_false hil
      have HF := Lib.hid (show R = true by
        rw [← HR.out]
        obtain rfl : i = l.length := by omega
        exact rightN_iff.2 ⟨HK.out.all, HRR.out⟩)
      go_wp2_with fail
      go_ret
      exact ⟨ret_bool HF.out.symm, HBB.out.1⟩
end Go.Proofs.YtpknglbpbodnbaaDoor
