/-
  The contracts of package bucket and of its reference. Conditions: the fields and times are ints.
-/
import Derived.Test.YtikpbhfjmlfooaaSatSum
import Derived.Test.YtikpbhfjmlfooaaBucketMath
import Derived.Test.YtikpbhfjmlfooaaKit2
import Derived.Lib.QuietBelow
import Derived.StillTailTactics
namespace Go.Proofs.Ytikpbhfjmlfooaa
set_option linter.unusedVariables false
open Go.RowKit Go.Sort

theorem within_any (n m : Int) (w : World) :
    Calls Try.prog 39 #[.int .i64 n, .int .i64 m] w fun e w' => e = .returned (.bool (withinB n m)) ∧ w = w' := by
  by_cases h : 0 ≤ n
  · by_cases h2 : n ≤ m
    · have E := Lib.hid (withinB_true.2 ⟨h, h2⟩)
      go_enter Try.func39, Try.ntmps39
      go_wp2
      go_ret
      exact ⟨ret_bool E.out.symm, rfl⟩
    · have E := Lib.hid (withinB_false.2 (fun x => h2 x.2))
      have h2' : decide (n ≤ m) = false := by simpa using h2
      go_enter Try.func39, Try.ntmps39
      go_wp2
      go_ret
      exact ⟨ret_bool E.out.symm, rfl⟩
  · have E := Lib.hid (withinB_false (m := m) |>.2 (fun x => h x.1))
    have h' : decide (0 ≤ n) = false := by simpa using h
    go_enter Try.func39, Try.ntmps39
    go_wp2
    go_ret
    exact ⟨ret_bool E.out.symm, rfl⟩

theorem within_lit (n m : Int) (w : World) (b : Bool) (h : withinB n m = b) :
    Calls Try.prog 39 #[.int .i64 n, .int .i64 m] w fun e w' => e = .returned (.bool b) ∧ w = w' := by
  subst h; exact within_any n m w

set_option maxHeartbeats 400000 in
theorem right_any (c f h t : Int) (w : World) :
    Calls Try.prog 15 #[.agg #[.int .i64 c, .int .i64 f, .int .i64 h, .int .i64 t]] w fun e w' => e = .returned (.bool (rightB c f h t)) ∧ Below w.heap.size w w' := by
  obtain ⟨b1, h1⟩ : ∃ b, withinB c 1099511627776 = b := ⟨_, rfl⟩
  obtain ⟨b2, h2⟩ : ∃ b, withinB f 1099511627776 = b := ⟨_, rfl⟩
  obtain ⟨b3, h3⟩ : ∃ b, withinB h c = b := ⟨_, rfl⟩
  obtain ⟨b4, h4⟩ : ∃ b, withinB t 1099511627776 = b := ⟨_, rfl⟩
  have E := Lib.hid (show rightB c f h t = (b1 && (b2 && (b3 && b4))) by unfold rightB; rw [h1, h2, h3, h4])
  have H1 := Lib.hid h1
  have H2 := Lib.hid h2
  have H3 := Lib.hid h3
  have H4 := Lib.hid h4
  clear h1 h2 h3 h4
  rcases b1 with _ | _
  ·
    go_enter Try.func15, Try.ntmps15
    go_wp2_with fail
    refine (within_lit _ _ _ _ H1.out).mono ?_
    rintro e w' ⟨rfl, rfl⟩
    go_wp2_with fail
    go_ret
    exact ⟨ret_bool E.out.symm, (Below.refl _ _).alloc (Nat.le_refl _) _⟩
  rcases b2 with _ | _
  ·
    go_enter Try.func15, Try.ntmps15
    go_wp2_with fail
    refine (within_lit _ _ _ _ H1.out).mono ?_
    rintro e w' ⟨rfl, rfl⟩
    go_wp2_with fail
    refine (within_lit _ _ _ _ H2.out).mono ?_
    rintro e w' ⟨rfl, rfl⟩
    go_wp2_with fail
    go_ret
    exact ⟨ret_bool E.out.symm, (Below.refl _ _).alloc (Nat.le_refl _) _⟩
  rcases b3 with _ | _
  ·
    go_enter Try.func15, Try.ntmps15
    go_wp2_with fail
    refine (within_lit _ _ _ _ H1.out).mono ?_
    rintro e w' ⟨rfl, rfl⟩
    go_wp2_with fail
    refine (within_lit _ _ _ _ H2.out).mono ?_
    rintro e w' ⟨rfl, rfl⟩
    go_wp2_with fail
    refine (within_lit _ _ _ _ H3.out).mono ?_
    rintro e w' ⟨rfl, rfl⟩
    go_wp2_with fail
    go_ret
    exact ⟨ret_bool E.out.symm, (Below.refl _ _).alloc (Nat.le_refl _) _⟩
  rcases b4 with _ | _
  ·
    go_enter Try.func15, Try.ntmps15
    go_wp2_with fail
    refine (within_lit _ _ _ _ H1.out).mono ?_
    rintro e w' ⟨rfl, rfl⟩
    go_wp2_with fail
    refine (within_lit _ _ _ _ H2.out).mono ?_
    rintro e w' ⟨rfl, rfl⟩
    go_wp2_with fail
    refine (within_lit _ _ _ _ H3.out).mono ?_
    rintro e w' ⟨rfl, rfl⟩
    go_wp2_with fail
    refine (within_lit _ _ _ _ H4.out).mono ?_
    rintro e w' ⟨rfl, rfl⟩
    go_wp2_with fail
    go_ret
    exact ⟨ret_bool E.out.symm, (Below.refl _ _).alloc (Nat.le_refl _) _⟩
  ·
    go_enter Try.func15, Try.ntmps15
    go_wp2_with fail
    refine (within_lit _ _ _ _ H1.out).mono ?_
    rintro e w' ⟨rfl, rfl⟩
    go_wp2_with fail
    refine (within_lit _ _ _ _ H2.out).mono ?_
    rintro e w' ⟨rfl, rfl⟩
    go_wp2_with fail
    refine (within_lit _ _ _ _ H3.out).mono ?_
    rintro e w' ⟨rfl, rfl⟩
    go_wp2_with fail
    refine (within_lit _ _ _ _ H4.out).mono ?_
    rintro e w' ⟨rfl, rfl⟩
    go_wp2_with fail
    go_ret
    exact ⟨ret_bool E.out.symm, (Below.refl _ _).alloc (Nat.le_refl _) _⟩

set_option maxHeartbeats 800000 in
set_option maxRecDepth 100000 in
theorem refright_any (c f h t : Int) (w : World) :
    Calls Try.prog 16 #[.agg #[.int .i64 c, .int .i64 f, .int .i64 h, .int .i64 t]] w fun e w' => e = .returned (.bool (rightB c f h t)) ∧ Below w.heap.size w w' := by
  have E : Hid (rightB c f h t = (decide (0 ≤ c) && (decide (c ≤ 1099511627776) && (decide (0 ≤ f) && (decide (f ≤ 1099511627776) && (decide (0 ≤ h) && (decide (h ≤ c) && (decide (0 ≤ t) && decide (t ≤ 1099511627776))))))))) := by
    show _ = _
    simp [rightB, withinB, Bool.and_assoc]
  by_cases h1 : 0 ≤ c
  · by_cases h2 : c ≤ 1099511627776
    · by_cases h3 : 0 ≤ f
      · by_cases h4 : f ≤ 1099511627776
        · by_cases h5 : 0 ≤ h
          · by_cases h6 : h ≤ c
            · by_cases h7 : 0 ≤ t
              · by_cases h8 : t ≤ 1099511627776
                · have E2 : Hid (rightB c f h t = true) := by show _ = _; rw [E.out]; simp [h1, h2, h3, h4, h5, h6, h7, h8]
                  go_enter Try.func16, Try.ntmps16
                  go_wp2
                  go_ret
                  exact ⟨ret_bool E2.out.symm, (Below.refl _ _).alloc (Nat.le_refl _) _⟩
                · have d8 : decide (t ≤ 1099511627776) = false := by simpa using h8
                  have E2 : Hid (rightB c f h t = false) := by show _ = _; rw [E.out]; simp [h8]
                  go_enter Try.func16, Try.ntmps16
                  go_wp2
                  go_ret
                  exact ⟨ret_bool E2.out.symm, (Below.refl _ _).alloc (Nat.le_refl _) _⟩
              · have d7 : decide (0 ≤ t) = false := by simpa using h7
                have E2 : Hid (rightB c f h t = false) := by show _ = _; rw [E.out]; simp [h7]
                go_enter Try.func16, Try.ntmps16
                go_wp2
                go_ret
                exact ⟨ret_bool E2.out.symm, (Below.refl _ _).alloc (Nat.le_refl _) _⟩
            · have d6 : decide (h ≤ c) = false := by simpa using h6
              have E2 : Hid (rightB c f h t = false) := by show _ = _; rw [E.out]; simp [h6]
              go_enter Try.func16, Try.ntmps16
              go_wp2
              go_ret
              exact ⟨ret_bool E2.out.symm, (Below.refl _ _).alloc (Nat.le_refl _) _⟩
          · have d5 : decide (0 ≤ h) = false := by simpa using h5
            have E2 : Hid (rightB c f h t = false) := by show _ = _; rw [E.out]; simp [h5]
            go_enter Try.func16, Try.ntmps16
            go_wp2
            go_ret
            exact ⟨ret_bool E2.out.symm, (Below.refl _ _).alloc (Nat.le_refl _) _⟩
        · have d4 : decide (f ≤ 1099511627776) = false := by simpa using h4
          have E2 : Hid (rightB c f h t = false) := by show _ = _; rw [E.out]; simp [h4]
          go_enter Try.func16, Try.ntmps16
          go_wp2
          go_ret
          exact ⟨ret_bool E2.out.symm, (Below.refl _ _).alloc (Nat.le_refl _) _⟩
      · have d3 : decide (0 ≤ f) = false := by simpa using h3
        have E2 : Hid (rightB c f h t = false) := by show _ = _; rw [E.out]; simp [h3]
        go_enter Try.func16, Try.ntmps16
        go_wp2
        go_ret
        exact ⟨ret_bool E2.out.symm, (Below.refl _ _).alloc (Nat.le_refl _) _⟩
    · have d2 : decide (c ≤ 1099511627776) = false := by simpa using h2
      have E2 : Hid (rightB c f h t = false) := by show _ = _; rw [E.out]; simp [h2]
      go_enter Try.func16, Try.ntmps16
      go_wp2
      go_ret
      exact ⟨ret_bool E2.out.symm, (Below.refl _ _).alloc (Nat.le_refl _) _⟩
  · have d1 : decide (0 ≤ c) = false := by simpa using h1
    have E2 : Hid (rightB c f h t = false) := by show _ = _; rw [E.out]; simp [h1]
    go_enter Try.func16, Try.ntmps16
    go_wp2
    go_ret
    exact ⟨ret_bool E2.out.symm, (Below.refl _ _).alloc (Nat.le_refl _) _⟩

theorem right_lit (c f h t : Int) (w : World) (b : Bool) (hb : rightB c f h t = b) :
    Calls Try.prog 15 #[.agg #[.int .i64 c, .int .i64 f, .int .i64 h, .int .i64 t]] w fun e w' => e = .returned (.bool b) ∧ Below w.heap.size w w' := by
  subst hb; exact right_any c f h t w
theorem refright_lit (c f h t : Int) (w : World) (b : Bool) (hb : rightB c f h t = b) :
    Calls Try.prog 16 #[.agg #[.int .i64 c, .int .i64 f, .int .i64 h, .int .i64 t]] w fun e w' => e = .returned (.bool b) ∧ Below w.heap.size w w' := by
  subst hb; exact refright_any c f h t w

/-- a bucket as a value -/
def bv (c f h t : Int) : Value := .agg #[.int .i64 c, .int .i64 f, .int .i64 h, .int .i64 t]
theorem bv_eq {c f h t h' t' : Int} (hh : h = h') (ht : t = t') : bv c f h t = bv c f h' t' := by rw [hh, ht]

theorem below2 (w : World) (o o' : Obj) : Below w.heap.size w ((w.alloc o).alloc o') := ((Below.refl _ _).alloc (Nat.le_refl _) o).alloc (by simp) o'
theorem below_on {w w1 W : World} (h : Below w.heap.size w W) (hb : Below W.heap.size W w1) : Below w.heap.size w w1 := h.trans (hb.mono h.size)

theorem goes_not {c f h t now : Int} (hg : ¬ goesB c f h t now = true) : atH c f h t now = h ∧ atT c f h t now = t := by
  unfold atH atT; rw [if_neg hg, if_neg hg]; exact ⟨rfl, rfl⟩
theorem goes_yes {c f h t now : Int} (hg : goesB c f h t now = true) : atH c f h t now = min c (h + f * (now - t)) ∧ atT c f h t now = now := by
  unfold atH atT; rw [if_pos hg, if_pos hg]; exact ⟨rfl, rfl⟩

set_option maxHeartbeats 1000000 in
set_option maxRecDepth 100000 in
theorem at_stays (c f h t now : Int) (w : World) (hg : ¬ goesB c f h t now = true) :
    Calls Try.prog 17 #[.agg #[.int .i64 c, .int .i64 f, .int .i64 h, .int .i64 t], .int .i64 now] w fun e w' =>
      e = .returned (bv c f (atH c f h t now) (atT c f h t now)) ∧ Below w.heap.size w w' := by
  obtain ⟨e1, e2⟩ := goes_not hg
  have E1 := Lib.hid e1
  have E2 := Lib.hid e2
  clear e1 e2
  by_cases hr : rightB c f h t = true
  · have HR := Lib.hid hr
    by_cases h1 : now ≤ t
    · have d1 : decide (now ≤ t) = true := by simpa using h1
      clear hg hr
      go_enter Try.func17, Try.ntmps17
      go_wp2_with fail
      refine (right_lit _ _ _ _ _ _ HR.out).mono ?_
      rintro e w1 ⟨rfl, b1⟩
      obtain ⟨k1, k2⟩ := bcell b1
      have hz : w.heap.size + 1 < w1.heap.size := by have := b1.size; simp at this; omega
      go_wp2_with fail
      refine bodyPost_ret (v := .agg #[.int .i64 c, .int .i64 f, .int .i64 h, .int .i64 t]) (by simp [results, Try.results17, go_sem, k1]) rfl ⟨by rw [E1.out, E2.out]; rfl, ?_⟩
      repeat (refine Below.setCell ?_ (by simp) _)
      exact below_on (below2 _ _ _) b1
    · have h2 : 1099511627776 < now := by
        have := mt goesB_true.2 hg
        simp only [hr, true_and] at this
        omega
      have d1 : decide (now ≤ t) = false := by simpa using h1
      have d2 : decide (1099511627776 < now) = true := by simpa using h2
      clear hg hr
      go_enter Try.func17, Try.ntmps17
      go_wp2_with fail
      refine (right_lit _ _ _ _ _ _ HR.out).mono ?_
      rintro e w1 ⟨rfl, b1⟩
      obtain ⟨k1, k2⟩ := bcell b1
      have hz : w.heap.size + 1 < w1.heap.size := by have := b1.size; simp at this; omega
      go_wp2_with fail
      refine bodyPost_ret (v := .agg #[.int .i64 c, .int .i64 f, .int .i64 h, .int .i64 t]) (by simp [results, Try.results17, go_sem, k1]) rfl ⟨by rw [E1.out, E2.out]; rfl, ?_⟩
      repeat (refine Below.setCell ?_ (by simp) _)
      exact below_on (below2 _ _ _) b1
  · have HR := Lib.hid (show rightB c f h t = false by simpa using hr)
    clear hg hr
    go_enter Try.func17, Try.ntmps17
    go_wp2_with fail
    refine (right_lit _ _ _ _ _ _ HR.out).mono ?_
    rintro e w1 ⟨rfl, b1⟩
    obtain ⟨k1, k2⟩ := bcell b1
    have hz : w.heap.size + 1 < w1.heap.size := by have := b1.size; simp at this; omega
    go_wp2_with fail
    refine bodyPost_ret (v := .agg #[.int .i64 c, .int .i64 f, .int .i64 h, .int .i64 t]) (by simp [results, Try.results17, go_sem, k1]) rfl ⟨by rw [E1.out, E2.out]; rfl, ?_⟩
    repeat (refine Below.setCell ?_ (by simp) _)
    exact below_on (below2 _ _ _) b1

set_option maxHeartbeats 1000000 in
set_option maxRecDepth 100000 in
theorem at_goes (c f y t now : Int) (w : World) (hg : goesB c f y t now = true) :
    Calls Try.prog 17 #[.agg #[.int .i64 c, .int .i64 f, .int .i64 y, .int .i64 t], .int .i64 now] w fun e w' =>
      e = .returned (bv c f (atH c f y t now) (atT c f y t now)) ∧ Below w.heap.size w w' := by
  obtain ⟨e1, e2⟩ := goes_yes hg
  have E2 := Lib.hid e2
  obtain ⟨hr, h1, h2⟩ := goesB_true.1 hg
  have HR := Lib.hid hr
  obtain ⟨⟨r1, r2⟩, ⟨r3, r4⟩, ⟨r5, r6⟩, ⟨r7, r8⟩⟩ := rightB_true.1 hr
  have d1 : decide (now ≤ t) = false := by simpa using h1
  have d2 : decide (1099511627776 < now) = false := by simpa using h2
  have i1 := Lib.hid (show In f from ⟨by omega, by omega⟩)
  have i2 := Lib.hid (show In (now - t) from ⟨by omega, by omega⟩)
  have i3 := Lib.hid (show In y from ⟨by omega, by omega⟩)
  have i4 := Lib.hid (clip_in (f * (now - t)))
  have S := sat_min (x := f * (now - t)) r2 ⟨r5, r6⟩ (fd_nonneg r3 (show 0 ≤ now - t by omega))
  have wr : IntKind.i64.wrap (now - t) = now - t := IntWalk.i64_in _ ⟨by omega, by omega⟩
  rw [← S] at e1
  by_cases m : clip (y + clip (f * (now - t))) < c
  · have E1 := Lib.hid (show atH c f y t now = clip (y + clip (f * (now - t))) by rw [e1]; omega)
    clear hg hr e1 e2 S
    · try clear r1
      go_enter Try.func17, Try.ntmps17
      go_wp2_with fail
      refine (right_lit _ _ _ _ _ _ HR.out).mono ?_
      rintro e w1 ⟨rfl, b1⟩
      obtain ⟨k1, k2⟩ := bcell b1
      have hz : w.heap.size + 1 < w1.heap.size := by have := b1.size; simp at this; omega
      go_wp2_with fail
      have c0 : w1.cell? ⟨w.heap.size, 0, none⟩ = some (.int .i64 c) := by rw [k1 _ _ (by simp; omega)]; go_simp
      have c1 : w1.cell? ⟨w.heap.size, 1, none⟩ = some (.int .i64 f) := by rw [k1 _ _ (by simp; omega)]; go_simp
      have c2 : w1.cell? ⟨w.heap.size, 2, none⟩ = some (.int .i64 y) := by rw [k1 _ _ (by simp; omega)]; go_simp
      have c3 : w1.cell? ⟨w.heap.size, 3, none⟩ = some (.int .i64 t) := by rw [k1 _ _ (by simp; omega)]; go_simp
      have c4 : w1.frozen? ⟨w.heap.size, 2, none⟩ = false := by rw [k2 _ _ (by simp; omega)]; go_simp
      refine wp_region_still_tail 14 (by kernel_rfl) (by kernel_rfl) ?_
      simp only [List.take_succ_cons, List.take_zero, List.drop_succ_cons, List.drop_zero]
      repeat still_step
      still_call ((mul_any f (now - t) _ i1.out i2.out).mono fun e w' ⟨he, hw⟩ => ⟨he, hw.symm⟩)
      still_call ((add_any y (clip (f * (now - t))) _ i3.out i4.out).mono fun e w' ⟨he, hw⟩ => ⟨he, hw.symm⟩)
      repeat still_step
      refine wpStill_nil ?_
      change wpList _ _ _ _ _ w1.drew
      go_wp2_with fail
      refine bodyPost_ret (v := .agg #[.int .i64 c, .int .i64 f, .int .i64 (clip (y + clip (f * (now - t)))), .int .i64 now]) (by simp [results, Try.results17, go_sem, k1]) rfl ⟨by rw [E1.out, E2.out]; rfl, ?_⟩
      refine Below.drew ?_
      repeat (refine Below.setCell ?_ (by simp) _)
      exact below_on (below2 _ _ _) b1
  · have E1 := Lib.hid (show atH c f y t now = c by rw [e1]; omega)
    clear hg hr e1 e2 S
    · try clear r1
      go_enter Try.func17, Try.ntmps17
      go_wp2_with fail
      refine (right_lit _ _ _ _ _ _ HR.out).mono ?_
      rintro e w1 ⟨rfl, b1⟩
      obtain ⟨k1, k2⟩ := bcell b1
      have hz : w.heap.size + 1 < w1.heap.size := by have := b1.size; simp at this; omega
      go_wp2_with fail
      have c0 : w1.cell? ⟨w.heap.size, 0, none⟩ = some (.int .i64 c) := by rw [k1 _ _ (by simp; omega)]; go_simp
      have c1 : w1.cell? ⟨w.heap.size, 1, none⟩ = some (.int .i64 f) := by rw [k1 _ _ (by simp; omega)]; go_simp
      have c2 : w1.cell? ⟨w.heap.size, 2, none⟩ = some (.int .i64 y) := by rw [k1 _ _ (by simp; omega)]; go_simp
      have c3 : w1.cell? ⟨w.heap.size, 3, none⟩ = some (.int .i64 t) := by rw [k1 _ _ (by simp; omega)]; go_simp
      have c4 : w1.frozen? ⟨w.heap.size, 2, none⟩ = false := by rw [k2 _ _ (by simp; omega)]; go_simp
      refine wp_region_still_tail 14 (by kernel_rfl) (by kernel_rfl) ?_
      simp only [List.take_succ_cons, List.take_zero, List.drop_succ_cons, List.drop_zero]
      repeat still_step
      still_call ((mul_any f (now - t) _ i1.out i2.out).mono fun e w' ⟨he, hw⟩ => ⟨he, hw.symm⟩)
      still_call ((add_any y (clip (f * (now - t))) _ i3.out i4.out).mono fun e w' ⟨he, hw⟩ => ⟨he, hw.symm⟩)
      repeat still_step
      refine wpStill_nil ?_
      change wpList _ _ _ _ _ w1.drew
      go_wp2_with fail
      refine bodyPost_ret (v := .agg #[.int .i64 c, .int .i64 f, .int .i64 c, .int .i64 now]) (by simp [results, Try.results17, go_sem, k1]) rfl ⟨by rw [E1.out, E2.out]; rfl, ?_⟩
      refine Below.drew ?_
      repeat (refine Below.setCell ?_ (by simp) _)
      exact below_on (below2 _ _ _) b1

theorem at_any (c f y t now : Int) (w : World) :
    Calls Try.prog 17 #[.agg #[.int .i64 c, .int .i64 f, .int .i64 y, .int .i64 t], .int .i64 now] w fun e w' =>
      e = .returned (bv c f (atH c f y t now) (atT c f y t now)) ∧ Below w.heap.size w w' := by
  by_cases hg : goesB c f y t now = true
  · exact at_goes c f y t now w hg
  · exact at_stays c f y t now w hg
end Go.Proofs.Ytikpbhfjmlfooaa
