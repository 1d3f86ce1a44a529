/-
  '==' between two sets. No conditions.
-/
import Derived.Test.YtpknglbpbodnbaaDoorJCsFirst
import Derived.ChangeKeysEq
namespace Go.Proofs.YtpknglbpbodnbaaDoor
set_option linter.unusedVariables false
open Go.RowKit Go.Sort Cs

theorem run_eq_set (s t : Nat → Int) (r : Bool) (hr : r = true ↔ ∀ i, i < 4 → s i = t i) (w : World) :
    (Op.equalIn 10000 24 (.agg #[.int .u64 (s 0), .int .u64 (s 1), .int .u64 (s 2), .int .u64 (s 3)]) (.agg #[.int .u64 (t 0), .int .u64 (t 1), .int .u64 (t 2), .int .u64 (t 3)])).run Tryd.prog w = .ok r w := by
  obtain ⟨i, hi⟩ := info_of_underlying Tryd.underlying22
  have hce : Tryd.prog.cellsOf 22 = 1 := by kernel_rfl
  rw [show (10000 : Nat) = 9999 + 1 from rfl, run_equalIn_array w 9999 _ _ Tryd.underlying24 hi, hce]
  have r4 : List.range 4 = [0, 1, 2, 3] := rfl
  rw [r4]
  have p : ∀ (x : Nat → Int) (k : Nat), k < 4 → (part 22 #[.int .u64 (x 0), .int .u64 (x 1), .int .u64 (x 2), .int .u64 (x 3)] k).run Tryd.prog w = .ok (.int .u64 (x k)) w := by
    intro x k hk
    obtain rfl | rfl | rfl | rfl : k = 0 ∨ k = 1 ∨ k = 2 ∨ k = 3 := by omega
    · kernel_rfl
    · kernel_rfl
    · kernel_rfl
    · kernel_rfl
  have q : ∀ a b : Int, (Op.equalIn 9999 22 (.int .u64 a) (.int .u64 b)).run Tryd.prog w = .ok (a == b) w := fun a b => run_equalIn_int w 9998 _ _ _ a b Tryd.underlying22
  simp only [Op.eqItems, Nat.mul_one, Sem.run_bind, p s 0 (by omega), p s 1 (by omega), p s 2 (by omega), p s 3 (by omega), p t 0 (by omega), p t 1 (by omega), p t 2 (by omega), p t 3 (by omega), Result.andThen_ok, q, Sem.run_ite, Sem.run_pure]
  have e4 : (∀ i, i < 4 → s i = t i) ↔ s 0 = t 0 ∧ s 1 = t 1 ∧ s 2 = t 2 ∧ s 3 = t 3 :=
    ⟨fun h => ⟨h 0 (by omega), h 1 (by omega), h 2 (by omega), h 3 (by omega)⟩, fun h i hi => by
      obtain rfl | rfl | rfl | rfl : i = 0 ∨ i = 1 ∨ i = 2 ∨ i = 3 := by omega
      · exact h.1
      · exact h.2.1
      · exact h.2.2.1
      · exact h.2.2.2⟩
  rw [e4] at hr
  by_cases h0 : s 0 = t 0 <;> by_cases h1 : s 1 = t 1 <;> by_cases h2 : s 2 = t 2 <;> by_cases h3 : s 3 = t 3 <;> simp [h0, h1, h2, h3] at hr ⊢ <;> exact hr
theorem run_eq_none (s : Nat → Int) (r : Bool) (hr : r = true ↔ ∀ i, i < 4 → s i = noneS i) (w : World) :
    (Op.equalIn 10000 24 (.agg #[.int .u64 (s 0), .int .u64 (s 1), .int .u64 (s 2), .int .u64 (s 3)]) (.agg #[.int .u64 0, .int .u64 0, .int .u64 0, .int .u64 0])).run Tryd.prog w = .ok r w := run_eq_set s noneS r hr w
end Go.Proofs.YtpknglbpbodnbaaDoor
