/-
  The contracts of the reference's At, of Take and New of package bucket, and of the reference's Take. Conditions: none but what each says.
-/
import Derived.Test.YtikpbhfjmlfooaaBucket
namespace Go.Proofs.Ytikpbhfjmlfooaa
set_option linter.unusedVariables false
open Go.RowKit Go.Sort

theorem tdiv_in {a b : Int} (ha : 0 ≤ a) (hb : 1 ≤ b) (hm : a ≤ 9223372036854775807) : 0 ≤ a / b ∧ a / b ≤ 9223372036854775807 := by
  have h1 := Int.ediv_nonneg ha (show 0 ≤ b by omega)
  have h2 := Int.ediv_le_self b ha
  omega

set_option maxHeartbeats 1000000 in
set_option maxRecDepth 100000 in
theorem refat_stays (c f y t now : Int) (w : World) (hg : ¬ goesB c f y t now = true) :
    Calls Try.prog 18 #[.agg #[.int .i64 c, .int .i64 f, .int .i64 y, .int .i64 t], .int .i64 now] w fun e w' =>
      e = .returned (bv c f (atH c f y t now) (atT c f y t now)) ∧ Below w.heap.size w w' := by
  obtain ⟨e1, e2⟩ := goes_not hg
  have E1 := Lib.hid e1
  have E2 := Lib.hid e2
  clear e1 e2
  by_cases hr : rightB c f y t = true
  · have HR := Lib.hid hr
    by_cases h1 : now ≤ t
    · have d1 : decide (now ≤ t) = true := by simpa using h1
      clear hg hr
      go_enter Try.func18, Try.ntmps18
      go_wp2_with fail
      refine (refright_lit _ _ _ _ _ _ HR.out).mono ?_
      rintro e w1 ⟨rfl, b1⟩
      obtain ⟨k1, k2⟩ := bcell b1
      have hz : w.heap.size + 1 < w1.heap.size := by have := b1.size; simp at this; omega
      have c0 : w1.cell? ⟨w.heap.size, 0, none⟩ = some (.int .i64 c) := by rw [k1 _ _ (by simp; omega)]; go_simp
      have c1 : w1.cell? ⟨w.heap.size, 1, none⟩ = some (.int .i64 f) := by rw [k1 _ _ (by simp; omega)]; go_simp
      have c2 : w1.cell? ⟨w.heap.size, 2, none⟩ = some (.int .i64 y) := by rw [k1 _ _ (by simp; omega)]; go_simp
      have c3 : w1.cell? ⟨w.heap.size, 3, none⟩ = some (.int .i64 t) := by rw [k1 _ _ (by simp; omega)]; go_simp
      go_wp2_with fail
      refine bodyPost_ret (v := .agg #[.int .i64 c, .int .i64 f, .int .i64 (y), .int .i64 (t)]) (by simp [results, Try.results18, go_sem, k1]) rfl ⟨by rw [E1.out, E2.out]; rfl, ?_⟩
      repeat (refine Below.setCell ?_ (by simp) _)
      exact below_on (below2 _ _ _) b1
    · have h2 : 1099511627776 < now := by
        have := mt goesB_true.2 hg
        simp only [hr, true_and] at this
        omega
      have d1 : decide (now ≤ t) = false := by simpa using h1
      have d2 : decide (1099511627776 < now) = true := by simpa using h2
      clear hg hr
      go_enter Try.func18, Try.ntmps18
      go_wp2_with fail
      refine (refright_lit _ _ _ _ _ _ HR.out).mono ?_
      rintro e w1 ⟨rfl, b1⟩
      obtain ⟨k1, k2⟩ := bcell b1
      have hz : w.heap.size + 1 < w1.heap.size := by have := b1.size; simp at this; omega
      have c0 : w1.cell? ⟨w.heap.size, 0, none⟩ = some (.int .i64 c) := by rw [k1 _ _ (by simp; omega)]; go_simp
      have c1 : w1.cell? ⟨w.heap.size, 1, none⟩ = some (.int .i64 f) := by rw [k1 _ _ (by simp; omega)]; go_simp
      have c2 : w1.cell? ⟨w.heap.size, 2, none⟩ = some (.int .i64 y) := by rw [k1 _ _ (by simp; omega)]; go_simp
      have c3 : w1.cell? ⟨w.heap.size, 3, none⟩ = some (.int .i64 t) := by rw [k1 _ _ (by simp; omega)]; go_simp
      go_wp2_with fail
      refine bodyPost_ret (v := .agg #[.int .i64 c, .int .i64 f, .int .i64 (y), .int .i64 (t)]) (by simp [results, Try.results18, go_sem, k1]) rfl ⟨by rw [E1.out, E2.out]; rfl, ?_⟩
      repeat (refine Below.setCell ?_ (by simp) _)
      exact below_on (below2 _ _ _) b1
  · have HR := Lib.hid (show rightB c f y t = false by simpa using hr)
    clear hg hr
    go_enter Try.func18, Try.ntmps18
    go_wp2_with fail
    refine (refright_lit _ _ _ _ _ _ HR.out).mono ?_
    rintro e w1 ⟨rfl, b1⟩
    obtain ⟨k1, k2⟩ := bcell b1
    have hz : w.heap.size + 1 < w1.heap.size := by have := b1.size; simp at this; omega
    have c0 : w1.cell? ⟨w.heap.size, 0, none⟩ = some (.int .i64 c) := by rw [k1 _ _ (by simp; omega)]; go_simp
    have c1 : w1.cell? ⟨w.heap.size, 1, none⟩ = some (.int .i64 f) := by rw [k1 _ _ (by simp; omega)]; go_simp
    have c2 : w1.cell? ⟨w.heap.size, 2, none⟩ = some (.int .i64 y) := by rw [k1 _ _ (by simp; omega)]; go_simp
    have c3 : w1.cell? ⟨w.heap.size, 3, none⟩ = some (.int .i64 t) := by rw [k1 _ _ (by simp; omega)]; go_simp
    go_wp2_with fail
    refine bodyPost_ret (v := .agg #[.int .i64 c, .int .i64 f, .int .i64 (y), .int .i64 (t)]) (by simp [results, Try.results18, go_sem, k1]) rfl ⟨by rw [E1.out, E2.out]; rfl, ?_⟩
    repeat (refine Below.setCell ?_ (by simp) _)
    exact below_on (below2 _ _ _) b1

set_option maxHeartbeats 1000000 in
set_option maxRecDepth 100000 in
theorem refat_goes (c f y t now : Int) (w : World) (hg : goesB c f y t now = true) :
    Calls Try.prog 18 #[.agg #[.int .i64 c, .int .i64 f, .int .i64 y, .int .i64 t], .int .i64 now] w fun e w' =>
      e = .returned (bv c f (atH c f y t now) (atT c f y t now)) ∧ Below w.heap.size w w' := by
  obtain ⟨e1, e2⟩ := goes_yes hg
  have E2 := Lib.hid e2
  obtain ⟨hr, h1, h2⟩ := goesB_true.1 hg
  have HR := Lib.hid hr
  obtain ⟨⟨r1, r2⟩, ⟨r3, r4⟩, ⟨r5, r6⟩, ⟨r7, r8⟩⟩ := rightB_true.1 hr
  have d1 : decide (now ≤ t) = false := by simpa using h1
  have d2 : decide (1099511627776 < now) = false := by simpa using h2
  have fd := fd_nonneg r3 (show 0 ≤ now - t by omega)
  by_cases h0 : 0 < f
  · have d3 : decide (0 < f) = true := by simpa using h0
    have q := @Int.ediv_lt_iff_lt_mul (c - y) (now - t) f h0
    rw [Int.mul_comm (now - t)] at q
    have q0 := tdiv_in (a := c - y) (b := f) (by omega) (by omega) (by omega)
    by_cases m : (c - y) / f < now - t
    · have d4 : decide ((c - y) / f < now - t) = true := by simpa using m
      have E1 := Lib.hid (show atH c f y t now = c by rw [e1]; have := q.1 m; omega)
      clear hg hr e1 e2 q
      go_enter Try.func18, Try.ntmps18
      go_wp2_with fail
      refine (refright_lit _ _ _ _ _ _ HR.out).mono ?_
      rintro e w1 ⟨rfl, b1⟩
      obtain ⟨k1, k2⟩ := bcell b1
      have hz : w.heap.size + 1 < w1.heap.size := by have := b1.size; simp at this; omega
      have c0 : w1.cell? ⟨w.heap.size, 0, none⟩ = some (.int .i64 c) := by rw [k1 _ _ (by simp; omega)]; go_simp
      have c1 : w1.cell? ⟨w.heap.size, 1, none⟩ = some (.int .i64 f) := by rw [k1 _ _ (by simp; omega)]; go_simp
      have c2 : w1.cell? ⟨w.heap.size, 2, none⟩ = some (.int .i64 y) := by rw [k1 _ _ (by simp; omega)]; go_simp
      have c3 : w1.cell? ⟨w.heap.size, 3, none⟩ = some (.int .i64 t) := by rw [k1 _ _ (by simp; omega)]; go_simp
      go_wp2_with fail
      refine bodyPost_ret (v := .agg #[.int .i64 c, .int .i64 f, .int .i64 (c), .int .i64 (now)]) (by simp [results, Try.results18, go_sem, k1]) rfl ⟨by rw [E1.out, E2.out]; rfl, ?_⟩
      repeat (refine Below.setCell ?_ (by simp) _)
      exact below_on (below2 _ _ _) b1
    · have d4 : decide ((c - y) / f < now - t) = false := by simpa using m
      have q1 := mt q.2 m
      have E1 := Lib.hid (show atH c f y t now = y + f * (now - t) by rw [e1]; omega)
      have m1 : f * (now - t) ≤ 1099511627776 := by omega
      have m2 : 0 ≤ f * (now - t) := fd
      clear hg hr e1 e2 q
      go_enter Try.func18, Try.ntmps18
      go_wp2_with fail
      refine (refright_lit _ _ _ _ _ _ HR.out).mono ?_
      rintro e w1 ⟨rfl, b1⟩
      obtain ⟨k1, k2⟩ := bcell b1
      have hz : w.heap.size + 1 < w1.heap.size := by have := b1.size; simp at this; omega
      have c0 : w1.cell? ⟨w.heap.size, 0, none⟩ = some (.int .i64 c) := by rw [k1 _ _ (by simp; omega)]; go_simp
      have c1 : w1.cell? ⟨w.heap.size, 1, none⟩ = some (.int .i64 f) := by rw [k1 _ _ (by simp; omega)]; go_simp
      have c2 : w1.cell? ⟨w.heap.size, 2, none⟩ = some (.int .i64 y) := by rw [k1 _ _ (by simp; omega)]; go_simp
      have c3 : w1.cell? ⟨w.heap.size, 3, none⟩ = some (.int .i64 t) := by rw [k1 _ _ (by simp; omega)]; go_simp
      go_wp2_with fail
      refine bodyPost_ret (v := .agg #[.int .i64 c, .int .i64 f, .int .i64 (y + f * (now - t)), .int .i64 (now)]) (by simp [results, Try.results18, go_sem, k1]) rfl ⟨by rw [E1.out, E2.out]; rfl, ?_⟩
      repeat (refine Below.setCell ?_ (by simp) _)
      exact below_on (below2 _ _ _) b1
  · have d3 : decide (0 < f) = false := by simpa using h0
    have hf0 : f = 0 := by omega
    have E1 := Lib.hid (show atH c f y t now = y + f * (now - t) by rw [e1, hf0, Int.zero_mul]; omega)
    have m1 : f * (now - t) ≤ 1099511627776 := by rw [hf0, Int.zero_mul]; omega
    have m2 : 0 ≤ f * (now - t) := fd
    clear hg hr e1 e2 hf0
    go_enter Try.func18, Try.ntmps18
    go_wp2_with fail
    refine (refright_lit _ _ _ _ _ _ HR.out).mono ?_
    rintro e w1 ⟨rfl, b1⟩
    obtain ⟨k1, k2⟩ := bcell b1
    have hz : w.heap.size + 1 < w1.heap.size := by have := b1.size; simp at this; omega
    have c0 : w1.cell? ⟨w.heap.size, 0, none⟩ = some (.int .i64 c) := by rw [k1 _ _ (by simp; omega)]; go_simp
    have c1 : w1.cell? ⟨w.heap.size, 1, none⟩ = some (.int .i64 f) := by rw [k1 _ _ (by simp; omega)]; go_simp
    have c2 : w1.cell? ⟨w.heap.size, 2, none⟩ = some (.int .i64 y) := by rw [k1 _ _ (by simp; omega)]; go_simp
    have c3 : w1.cell? ⟨w.heap.size, 3, none⟩ = some (.int .i64 t) := by rw [k1 _ _ (by simp; omega)]; go_simp
    go_wp2_with fail
    refine bodyPost_ret (v := .agg #[.int .i64 c, .int .i64 f, .int .i64 (y + f * (now - t)), .int .i64 (now)]) (by simp [results, Try.results18, go_sem, k1]) rfl ⟨by rw [E1.out, E2.out]; rfl, ?_⟩
    repeat (refine Below.setCell ?_ (by simp) _)
    exact below_on (below2 _ _ _) b1

theorem refat_any (c f y t now : Int) (w : World) :
    Calls Try.prog 18 #[.agg #[.int .i64 c, .int .i64 f, .int .i64 y, .int .i64 t], .int .i64 now] w fun e w' =>
      e = .returned (bv c f (atH c f y t now) (atT c f y t now)) ∧ Below w.heap.size w w' := by
  by_cases hg : goesB c f y t now = true
  · exact refat_goes c f y t now w hg
  · exact refat_stays c f y t now w hg
end Go.Proofs.Ytikpbhfjmlfooaa
