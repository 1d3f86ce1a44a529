/-
  The walk of the law BlocksTell: it returns true. Conditions: none but what each says.
-/
import Derived.Test.YtcajlldecdjdlaaBlWorks
namespace Go.Proofs.Ytcajlldecdjdlaa
set_option linter.unusedVariables false
open Go.RowKit Go.Maps Go.Sort

namespace blocksTellW
/-- what the law has found from place j on -/
def Found (y : Nat → Int) (R : Bool) (la : Nat) (k : Int) (j : Nat) (p : Int) : Prop :=
  (p = -1 ∧ (R = true → ∀ i, j ≤ i → i < la → y i ≠ k)) ∨ (R = true ∧ ∃ i : Nat, p = i ∧ j ≤ i ∧ i < la ∧ y i = k ∧ ∀ i', j ≤ i' → i' < i → y i' ≠ k)
theorem found_first (y : Nat → Int) (R : Bool) (la : Nat) (k p : Int) (hR : Bl.right y la = R) (h : Found y R la k 0 p) : firstI y la k = p := by
  unfold firstI
  cases R with
  | false =>
    rw [hR, if_neg (by simp)]
    rcases h with ⟨h, _⟩ | ⟨h, _⟩
    · exact h.symm
    · cases h
  | true =>
    have hl : la = 256 := by simp [Bl.right] at hR; exact hR.1
    subst hl
    rcases h with ⟨rfl, h1⟩ | ⟨_, i, rfl, _, h2, h3, h4⟩
    · rw [if_neg]
      rintro ⟨_, h5⟩
      exact h1 rfl _ (by omega) h5 (Bl.least_hit y k 256 h5)
    · have e : Bl.least y k 256 = i := by
        have h5 := Bl.least_of y k 256 i h2 h3
        rcases Nat.lt_or_ge (Bl.least y k 256) i with h6 | h6
        · exact absurd (Bl.least_hit y k 256 (by omega)) (h4 _ (by omega) h6)
        · omega
      rw [e, hR, if_pos ⟨rfl, h2⟩]

set_option maxHeartbeats 4000000 in
set_option maxRecDepth 100000 in
theorem walk_ints (xa xb : Option Addr) (la ca lb cb : Nat) (y z : Nat → Int) (k : Int) (w : World) (ha : IsInts w xa la ca y) (hb : IsInts w xb lb cb z) :
    Calls Try.prog 4 #[.slice xa la ca, .slice xb lb cb, .int .i64 k] w fun e w' => e = .returned (.bool true) ∧ Below w.heap.size w w' := by
  have ba := ha.bound
  have bb := hb.bound
  by_cases h1 : 300 < la
  · have d1 : decide (300 < (la : Int)) = true := by simp; omega
    go_enter Try.func4, Try.ntmps4
    go_wp2_with fail
    refine (blworks_any _).mono ?_
    rintro e w1 ⟨rfl, b1⟩
    go_wp2_with fail
    go_ret
    exact ⟨rfl, b1⟩
  by_cases h2 : 300 < lb
  · have d1 : decide (300 < (la : Int)) = false := by simp; omega
    have d2 : decide (300 < (lb : Int)) = true := by simp; omega
    go_enter Try.func4, Try.ntmps4
    go_wp2_with fail
    refine (blworks_any _).mono ?_
    rintro e w1 ⟨rfl, b1⟩
    go_wp2_with fail
    go_ret
    exact ⟨rfl, b1⟩
  have d1 : decide (300 < (la : Int)) = false := by simp; omega
  have d2 : decide (300 < (lb : Int)) = false := by simp; omega
  go_enter Try.func4, Try.ntmps4
  go_wp2_with fail
  have HA := Lib.hid ha
  have HB := Lib.hid hb
  obtain ⟨R, hR⟩ : ∃ R, Bl.right y la = R := ⟨_, rfl⟩
  have HR := Lib.hid hR
  clear ha hb hR
  go_loopw [7, 8] (fun p c wr => ∃ (j : Nat) (q : Int), j ≤ la ∧ c = .int .i64 (j - 1) ∧ p = .int .i64 q ∧ Hid (Found y R la k j q) ∧ Below w.heap.size w wr) (fun _ c _ => (intOf c + 1).toNat)
  case atStart => exact ⟨la, -1, by omega, rfl, rfl, Lib.hid (.inl ⟨rfl, fun _ i h1 h2 => by omega⟩), Below.refl _ _⟩
  case round =>
    obtain ⟨j, q, hj, rfl, rfl, hF, hB⟩ := hrel
    by_cases hj0 : 0 < j
    · rcases HA.out.place with h0 | ⟨ga, oa, rfl, lga, hca⟩
      · omega
      obtain ⟨i, rfl⟩ : ∃ i, j = i + 1 := ⟨j - 1, by omega⟩
      have hc := (hB.cell (p := ⟨ga, oa + i, none⟩) lga).trans (hca i (by omega))
      obtain ⟨v, hv⟩ : ∃ v, y i = v := ⟨_, rfl⟩
      rw [hv] at hc
      have HV := Lib.hid hv
      clear hca hv
      have es : (((i + 1 : Nat) : Int) - 1) = (i : Int) := by push_cast; omega
      rw [es]
      clear es
      by_cases e1 : v = k
      · have d3 : (v == k) = true := by simp [e1]
        have E1 := Lib.hid e1
        clear e1
        go_wp2_with fail
        refine (refright_lit _ _ _ y R _ (HA.out.keep hB) HR.out).mono ?_
        rintro e w1 ⟨rfl, b1⟩
        have hB1 : Below w.heap.size w w1 := hB.trans (b1.mono hB.size)
        clear b1 hc
        have hyes : R = true → Found y R la k i i := fun e => .inr ⟨e, i, rfl, Nat.le_refl _, by omega, by rw [HV.out]; exact E1.out, fun i' h1 h2 => by omega⟩
        have hno : R = false → Found y R la k i q := fun e => by
          rcases hF.out with ⟨h1, h2⟩ | ⟨h1, _⟩
          · exact .inl ⟨h1, fun e' => by rw [e] at e'; cases e'⟩
          · rw [e] at h1; cases h1
        have HY := Lib.hid hyes
        have HN := Lib.hid hno
        clear hyes hno
        have RR : R = true ∨ R = false := by cases R <;> simp
        rcases RR with e2 | e2
        · subst e2
          go_wp2_with fail
          go_roundw
          case rel => exact ⟨i, _, by omega, rfl, rfl, Lib.hid (HY.out trivial), hB1⟩
          case measure => simp [intOf]
        · subst e2
          go_wp2_with fail
          go_roundw
          case rel => exact ⟨i, _, by omega, rfl, rfl, Lib.hid (HN.out trivial), hB1⟩
          case measure => simp [intOf]
      · have d3 : (v == k) = false := by simp [e1]
        have E1 := Lib.hid e1
        clear e1
        go_wp2_with fail
        go_roundw
        case rel =>
          refine ⟨i, _, by omega, rfl, rfl, Lib.hid ?_, hB⟩
          rcases hF.out with ⟨h1, h2⟩ | ⟨h1, i0, h2, h3, h4, h5, h6⟩
          · refine .inl ⟨h1, fun e i' h3 h4 => ?_⟩
            by_cases e' : i' = i
            · subst e'; rw [HV.out]; exact E1.out
            · exact h2 e i' (by omega) h4
          · refine .inr ⟨h1, i0, h2, by omega, h4, h5, fun i' h7 h8 => ?_⟩
            by_cases e' : i' = i
            · subst e'; rw [HV.out]; exact E1.out
            · exact h6 i' (by omega) h8
        case measure => simp [intOf]
    · have e : j = 0 := by omega
      subst e
      have HFI := Lib.hid (found_first y R la k q HR.out hF.out)
      go_wp2_with fail
      refine (right_lit _ _ _ y R _ (HA.out.keep hB) HR.out).mono ?_
      rintro e w1 ⟨rfl, b1⟩
      have hB1 : Below w.heap.size w w1 := hB.trans (b1.mono hB.size)
      clear b1 hB
      go_wp2_with fail
      refine (refright_lit _ _ _ y R _ (HA.out.keep hB1) HR.out).mono ?_
      rintro e w2 ⟨rfl, b1⟩
      have hB2 : Below w.heap.size w w2 := hB1.trans (b1.mono hB1.size)
      clear b1 hB1
      go_wp2_with fail
      refine (count_any _ _ _ y _ (HA.out.keep hB2)).mono ?_
      rintro e w3 ⟨rfl, b1⟩
      have hB3 : Below w.heap.size w w3 := hB2.trans (b1.mono hB2.size)
      clear b1 hB2
      go_wp2_with fail
      refine (refcount_any _ _ _ y _ (HA.out.keep hB3)).mono ?_
      rintro e w4 ⟨rfl, b1⟩
      have hB4 : Below w.heap.size w w4 := hB3.trans (b1.mono hB3.size)
      clear b1 hB3
      go_wp2_with fail
      refine (first_lit _ _ _ y k q _ (HA.out.keep hB4) HFI.out).mono ?_
      rintro e w5 ⟨rfl, b1⟩
      have hB5 : Below w.heap.size w w5 := hB4.trans (b1.mono hB4.size)
      clear b1 hB4
      go_wp2_with fail
      refine (meet_any _ _ _ _ _ _ y z _ (HA.out.keep hB5) (HB.out.keep hB5)).mono ?_
      rintro e w6 ⟨x1, n1, c1, rfl, hn1, hI1, b1⟩
      have HN1 := Lib.hid hn1
      clear hn1
      have hB6 : Below w.heap.size w w6 := hB5.trans (b1.mono hB5.size)
      clear b1 hB5
      go_wp2_with fail
      refine (refmeet_any _ _ _ _ _ _ y z _ (HA.out.keep hB6) (HB.out.keep hB6)).mono ?_
      rintro e w7 ⟨x2, n2, c2, rfl, hn2, hI2, b1⟩
      have hB7 : Below w.heap.size w w7 := hB6.trans (b1.mono hB6.size)
      have hI3 := hI1.keep b1
      clear b1 hB6 hI1
      obtain ⟨m, hm⟩ : ∃ m : Nat → Int, (fun b => (Bl.num (pairK y z) b : Int)) = m := ⟨_, rfl⟩
      rw [hm] at hI2 hI3
      have HI2 := Lib.hid hI2
      have HI3 := Lib.hid hI3
      have HEQ := Lib.hid (HN1.out.trans hn2.symm)
      clear hm hI2 hI3 hn2
      go_wp2_with fail
      refine (same_any x1 x2 n1 c1 n2 c2 m m _ HI3.out HI2.out true ⟨fun _ => ⟨HEQ.out, fun _ _ => rfl⟩, fun _ => rfl⟩).mono ?_
      rintro e w8 ⟨rfl, b1⟩
      have hB8 : Below w.heap.size w w8 := hB7.trans (b1.mono hB7.size)
      clear b1 hB7
      go_wp2_with fail
      refine (blworks_any _).mono ?_
      rintro e w9 ⟨rfl, b1⟩
      go_wp2_with fail
      go_ret
      exact ⟨rfl, hB8.trans (b1.mono hB8.size)⟩

theorem walk (a1 : Option Addr) (len1 cap1 : Nat) (z1 : List Int) (a2 : Option Addr) (len2 cap2 : Nat) (z2 : List Int) (k : Int) (w : World) (h1 : IsRow .i64 w a1 len1 cap1 z1) (h2 : IsRow .i64 w a2 len2 cap2 z2) (_h3 : (Lit.int .i64 k).wf = true) :
    Calls Try.prog 4 #[.slice a1 len1 cap1, .slice a2 len2 cap2, .int .i64 k] w fun e w' => e = .returned (.bool true) ∧ Below w.heap.size w w' :=
  walk_ints _ _ _ _ _ _ _ _ _ _ (ints_row h1) (ints_row h2)
end blocksTellW
end Go.Proofs.Ytcajlldecdjdlaa
