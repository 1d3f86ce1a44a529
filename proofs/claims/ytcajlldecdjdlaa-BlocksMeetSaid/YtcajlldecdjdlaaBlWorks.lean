/-
  The example of layer 17: it returns true. No conditions.
-/
import Derived.Test.YtcajlldecdjdlaaBlRefMeet
namespace Go.Proofs.Ytcajlldecdjdlaa
set_option linter.unusedVariables false
open Go.RowKit Go.Maps Go.Sort

/-- the example's set -/
def exS (j i : Nat) : Int := if i = 1 then 25769803776 else 0
theorem exHas : ∀ b : Fin 256, hasS (exS 0) b.val = (b.val == 97 || b.val == 98) := by decide +kernel
theorem exF (b : Nat) (h : b < 256) : F exS 1 b = [b == 97 || b == 98] := by
  have := exHas ⟨b, h⟩
  simp [F, this]
theorem ex_one (n : Nat) (h1 : 1 ≤ n) (h2 : n ≤ 97) : Bl.many (F exS 1) n = 1 := by
  induction n with
  | zero => omega
  | succ n ih =>
    by_cases h0 : n = 0
    · subst h0; rfl
    · rw [Bl.many_old (F exS 1) n 0 (by omega) (by rw [exF _ (by omega), exF _ (by omega)]; simp; omega)]
      exact ih (by omega) (by omega)
theorem ex97 : Bl.num (F exS 1) 97 = 1 := by
  rw [Bl.num_new (F exS 1) 97 (fun k hk => by rw [exF _ (by omega), exF _ (by omega)]; simp; omega)]
  exact ex_one 97 (by omega) (by omega)
theorem ex98 : Bl.num (F exS 1) 98 = 1 := by
  rw [Bl.num_key (F exS 1) 98 97 (by rw [exF _ (by omega), exF _ (by omega)]; rfl)]
  exact ex97
theorem ex_low (b : Nat) (h : b < 256) (h1 : b ≠ 97) (h2 : b ≠ 98) : Bl.num (F exS 1) b = 0 := by
  rw [Bl.num_key (F exS 1) b 0 (by rw [exF _ h, exF _ (by omega)]; simp [h1, h2])]
  rfl
theorem ex_two (n : Nat) (h1 : 98 ≤ n) (h2 : n ≤ 256) : Bl.many (F exS 1) n = 2 := by
  induction n with
  | zero => omega
  | succ n ih =>
    by_cases h0 : n = 97
    · subst h0
      rw [Bl.many_new (F exS 1) 97 (fun k hk => by rw [exF _ (by omega), exF _ (by omega)]; simp; omega), ex_one 97 (by omega) (by omega)]
    · by_cases h3 : n = 98
      · subst h3
        rw [Bl.many_old (F exS 1) 98 97 (by omega) (by rw [exF _ (by omega), exF _ (by omega)]; rfl)]
        exact ih (by omega) (by omega)
      · rw [Bl.many_old (F exS 1) n 0 (by omega) (by rw [exF _ (by omega), exF _ (by omega)]; simp; omega)]
        exact ih (by omega) (by omega)

def exZ (b : Nat) : Int := (Bl.num (F exS 1) b : Int)
theorem ex_right : Bl.right exZ 256 = true := by
  have := (Bl.num_right (F exS 1) 256).1
  simp [Bl.right]
  exact this
theorem ex_count : countI exZ 256 = 2 := by
  have h := Bl.num_right (F exS 1) 256
  unfold countI
  rw [if_pos ex_right]
  have h3 := Bl.most_top exZ 256 h.1
  rw [h3]
  have := h.2
  unfold exZ
  rw [this, ex_two 256 (by omega) (by omega)]
  rfl
theorem ex_first : firstI exZ 256 1 = 97 := by
  have e1 : Bl.least exZ 1 256 = 97 := by
    have h1 := Bl.least_of exZ 1 256 97 (by omega) (by unfold exZ; rw [ex97]; rfl)
    rcases Nat.lt_or_ge (Bl.least exZ 1 256) 97 with h2 | h2
    · have h3 := Bl.least_hit exZ 1 256 (by omega)
      unfold exZ at h3
      rw [ex_low _ (by unfold exZ at h2; omega) (by unfold exZ at h2; omega) (by unfold exZ at h2; omega)] at h3
      cases h3
    · omega
  unfold firstI
  rw [e1, if_pos ⟨ex_right, by omega⟩]
  rfl

theorem count_lit (x : Option Addr) (len cap : Nat) (z : Nat → Int) (R : Int) (w : World) (h : IsInts w x len cap z) (hR : countI z len = R) :
    Calls Try.prog 12 #[.slice x len cap] w fun e w' => e = .returned (.int .i64 R) ∧ Below w.heap.size w w' := by
  subst hR; exact count_any x len cap z w h
theorem first_lit (x : Option Addr) (len cap : Nat) (z : Nat → Int) (k R : Int) (w : World) (h : IsInts w x len cap z) (hR : firstI z len k = R) :
    Calls Try.prog 14 #[.slice x len cap, .int .i64 k] w fun e w' => e = .returned (.int .i64 R) ∧ Below w.heap.size w w' := by
  subst hR; exact first_any x len cap z k w h

set_option maxHeartbeats 2000000 in
set_option maxRecDepth 100000 in
theorem blworks_any (w : World) : Calls Try.prog 6 #[] w fun e w' => e = .returned (.bool true) ∧ Below w.heap.size w w' := by
  go_enter Try.func6, Try.ntmps6
  go_wp2_with fail
  have hs : IsSets (w.alloc (.cells #[.int .u64 0, .int .u64 25769803776, .int .u64 0, .int .u64 0] 36)) (some ⟨w.heap.size, 0, none⟩) 1 1 exS := by
    refine ⟨.inr ⟨_, 0, rfl, by simp, fun j hj i hi => ?_⟩, fun j i => by unfold exS; split <;> omega, by decide⟩
    have e : j = 0 := by omega
    subst e
    rw [newB]
    match i, hi with
    | 0, _ => rfl
    | 1, _ => rfl
    | 2, _ => rfl
    | 3, _ => rfl
  refine (of_any _ _ _ exS _ hs).mono ?_
  rintro e w1 ⟨g, rfl, hrow, b1⟩
  have HI := Lib.hid (ints_num hrow)
  have hc : ∀ k, k < 256 → w1.cell? ⟨g, k, none⟩ = some (.int .i64 (Bl.num (F exS 1) k)) := fun k hk => (hrow.cellAt k (by omega)).trans (by simp [numCells, hk])
  have c0 := hc 0 (by omega)
  have c1 := hc 97 (by omega)
  have c2 := hc 98 (by omega)
  have c3 := hc 99 (by omega)
  rw [ex_low 0 (by omega) (by omega) (by omega)] at c0
  rw [ex97] at c1
  rw [ex98] at c2
  rw [ex_low 99 (by omega) (by omega) (by omega)] at c3
  have hB : Below w.heap.size w w1 := (Below.alloc (Below.refl _ _) (by omega) _).trans (b1.mono (by simp))
  clear hs hc hrow b1
  go_wp2_with fail
  refine (count_lit _ _ _ _ 2 _ HI.out ex_count).mono ?_
  rintro e w2 ⟨rfl, b2⟩
  have HI2 := Lib.hid (HI.out.keep b2)
  have hB2 : Below w.heap.size w w2 := hB.trans (b2.mono hB.size)
  clear b2
  go_wp2_with fail
  refine (first_lit _ _ _ _ 1 97 _ HI2.out ex_first).mono ?_
  rintro e w3 ⟨rfl, b3⟩
  have hB3 : Below w.heap.size w w3 := hB2.trans (b3.mono hB2.size)
  go_wp2_with fail
  go_ret
  exact ⟨rfl, hB3⟩
end Go.Proofs.Ytcajlldecdjdlaa
