/-
  The walk of the law BucketWindow: it returns true. Conditions: none but what each says.
-/
import Derived.Test.YtikpbhfjmlfooaaBucketLaw
import Derived.Deep.RegionHeld3
namespace Go.Proofs.Ytikpbhfjmlfooaa
set_option linter.unusedVariables false
open Go.RowKit Go.Sort

namespace bucketWindowW

theorem below_regrownN (w : World) (n : Nat) : Below w.heap.size w (w.drewN n) := by
  induction n with
  | zero => exact Below.refl _ _
  | succ n ih => exact ih.trans ⟨rfl, rfl, rfl, Nat.le_refl _, fun _ _ => rfl⟩

/-- the law's guard -/
def okB (c f y t : Int) (len : Nat) (l0 l1 : Int) : Prop := rightB c f y t = true ∧ len ≤ 60 ∧ 0 ≤ l0 ∧ l0 ≤ 1099511627776 ∧ 0 ≤ l1 ∧ l1 ≤ 1099511627776

set_option maxHeartbeats 2000000 in
set_option maxRecDepth 100000 in
theorem walk_bad (c f y t : Int) (x : Option Addr) (len cap : Nat) (l0 l1 : Int) (w : World) (hb : ¬ okB c f y t len l0 l1) :
    Calls Try.prog 4 #[.agg #[.int .i64 c, .int .i64 f, .int .i64 y, .int .i64 t], .slice x len cap, .agg #[.int .i64 l0, .int .i64 l1]] w fun e w' => e = .returned (.bool true) ∧ Below w.heap.size w w' := by
  have key : ∀ r, rightB c f y t = r → (r = true → ¬ (len ≤ 60 ∧ 0 ≤ l0 ∧ l0 ≤ 1099511627776 ∧ 0 ≤ l1 ∧ l1 ≤ 1099511627776)) →
      Calls Try.prog 4 #[.agg #[.int .i64 c, .int .i64 f, .int .i64 y, .int .i64 t], .slice x len cap, .agg #[.int .i64 l0, .int .i64 l1]] w fun e w' => e = .returned (.bool true) ∧ Below w.heap.size w w' := by
    intro r hr hbad
    have ER := Lib.hid hr
    clear hr hb
    have d1 : decide (60 < (len : Int)) = true ∨ decide (60 < (len : Int)) = false := by cases decide (60 < (len : Int)) <;> simp
    have d2 : decide (l0 < 0) = true ∨ decide (l0 < 0) = false := by cases decide (l0 < 0) <;> simp
    have d3 : decide (1099511627776 < l0) = true ∨ decide (1099511627776 < l0) = false := by cases decide (1099511627776 < l0) <;> simp
    have d4 : decide (l1 < 0) = true ∨ decide (l1 < 0) = false := by cases decide (l1 < 0) <;> simp
    have d5 : decide (1099511627776 < l1) = true ∨ decide (1099511627776 < l1) = false := by cases decide (1099511627776 < l1) <;> simp
    have hbad' : r = false ∨ decide (60 < (len : Int)) = true ∨ decide (l0 < 0) = true ∨ decide (1099511627776 < l0) = true ∨ decide (l1 < 0) = true ∨ decide (1099511627776 < l1) = true := by
      cases r
      · exact .inl rfl
      · right
        have := hbad rfl
        simp only [decide_eq_true_eq]
        omega
    clear hbad
    have fin : ∀ (D : List Bool), True := fun _ => trivial
    clear fin
    cases r
    · clear hbad' d1 d2 d3 d4 d5
      go_enter Try.func4, Try.ntmps4
      go_wp2_with fail
      refine (right_lit _ _ _ _ _ _ ER.out).mono ?_
      rintro e w1 ⟨rfl, b1⟩
      go_wp2_with fail
      refine (bworks_any _).mono ?_
      rintro e w2 ⟨rfl, b2⟩
      go_wp2_with fail
      go_ret
      exact ⟨rfl, (below_on (below2 _ _ _) b1).trans (b2.mono (below_on (below2 _ _ _) b1).size)⟩
    · simp only [Bool.true_eq_false, false_or] at hbad'
      have hx : ∀ w1, Below ((w.alloc (.cells #[.int .i64 c, .int .i64 f, .int .i64 y, .int .i64 t] 23)).alloc (.cells #[.int .i64 l0, .int .i64 l1] 39)).heap.size ((w.alloc (.cells #[.int .i64 c, .int .i64 f, .int .i64 y, .int .i64 t] 23)).alloc (.cells #[.int .i64 l0, .int .i64 l1] 39)) w1 →
          w1.cell? ⟨w.heap.size + 1, 0, none⟩ = some (.int .i64 l0) ∧ w1.cell? ⟨w.heap.size + 1, 1, none⟩ = some (.int .i64 l1) := fun w1 b1 => by
        obtain ⟨k1, k2⟩ := bcell b1
        exact ⟨by rw [k1 _ _ (by simp)]; go_simp, by rw [k1 _ _ (by simp)]; go_simp⟩
      rcases d1 with d1 | d1
      · clear hbad' d2 d3 d4 d5
        go_enter Try.func4, Try.ntmps4
        go_wp2_with fail
        refine (right_lit _ _ _ _ _ _ ER.out).mono ?_
        rintro e w1 ⟨rfl, b1⟩
        obtain ⟨x0, x1⟩ := hx w1 b1
        go_wp2_with fail
        refine (bworks_any _).mono ?_
        rintro e w2 ⟨rfl, b2⟩
        go_wp2_with fail
        go_ret
        exact ⟨rfl, (below_on (below2 _ _ _) b1).trans (b2.mono (below_on (below2 _ _ _) b1).size)⟩
      rcases d2 with d2 | d2
      · clear hbad' d3 d4 d5
        go_enter Try.func4, Try.ntmps4
        go_wp2_with fail
        refine (right_lit _ _ _ _ _ _ ER.out).mono ?_
        rintro e w1 ⟨rfl, b1⟩
        obtain ⟨x0, x1⟩ := hx w1 b1
        go_wp2_with fail
        refine (bworks_any _).mono ?_
        rintro e w2 ⟨rfl, b2⟩
        go_wp2_with fail
        go_ret
        exact ⟨rfl, (below_on (below2 _ _ _) b1).trans (b2.mono (below_on (below2 _ _ _) b1).size)⟩
      rcases d3 with d3 | d3
      · clear hbad' d4 d5
        go_enter Try.func4, Try.ntmps4
        go_wp2_with fail
        refine (right_lit _ _ _ _ _ _ ER.out).mono ?_
        rintro e w1 ⟨rfl, b1⟩
        obtain ⟨x0, x1⟩ := hx w1 b1
        go_wp2_with fail
        refine (bworks_any _).mono ?_
        rintro e w2 ⟨rfl, b2⟩
        go_wp2_with fail
        go_ret
        exact ⟨rfl, (below_on (below2 _ _ _) b1).trans (b2.mono (below_on (below2 _ _ _) b1).size)⟩
      rcases d4 with d4 | d4
      · clear hbad' d5
        go_enter Try.func4, Try.ntmps4
        go_wp2_with fail
        refine (right_lit _ _ _ _ _ _ ER.out).mono ?_
        rintro e w1 ⟨rfl, b1⟩
        obtain ⟨x0, x1⟩ := hx w1 b1
        go_wp2_with fail
        refine (bworks_any _).mono ?_
        rintro e w2 ⟨rfl, b2⟩
        go_wp2_with fail
        go_ret
        exact ⟨rfl, (below_on (below2 _ _ _) b1).trans (b2.mono (below_on (below2 _ _ _) b1).size)⟩
      rcases d5 with d5 | d5
      · clear hbad'
        go_enter Try.func4, Try.ntmps4
        go_wp2_with fail
        refine (right_lit _ _ _ _ _ _ ER.out).mono ?_
        rintro e w1 ⟨rfl, b1⟩
        obtain ⟨x0, x1⟩ := hx w1 b1
        go_wp2_with fail
        refine (bworks_any _).mono ?_
        rintro e w2 ⟨rfl, b2⟩
        go_wp2_with fail
        go_ret
        exact ⟨rfl, (below_on (below2 _ _ _) b1).trans (b2.mono (below_on (below2 _ _ _) b1).size)⟩
      · simp [d1, d2, d3, d4, d5] at hbad'
  by_cases hr : rightB c f y t = true
  · exact key true hr fun _ h => hb ⟨hr, h⟩
  · exact key false (by simpa using hr) (fun h => by cases h)
end bucketWindowW
end Go.Proofs.Ytikpbhfjmlfooaa
