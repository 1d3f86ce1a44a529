/-
  The contracts of SameInts and of alike. Conditions: the numbers' cells.
-/
import Derived.Test.YtcajlldecdjdlaaBlMeet
import Derived.Lib.QuietBelow
import Derived.BigQuiet
import Derived.Deep.QuietTactic
namespace Go.Proofs.Ytcajlldecdjdlaa
set_option linter.unusedVariables false
open Go.RowKit Go.Maps Go.Sort

theorem below_regrownN (w : World) (n : Nat) : Below w.heap.size w (w.drewN n) := by
  induction n with
  | zero => exact Below.refl _ _
  | succ n ih => exact ih.trans ⟨rfl, rfl, rfl, Nat.le_refl _, fun _ _ => rfl⟩

set_option maxHeartbeats 2000000 in
set_option maxRecDepth 100000 in
theorem same_any (xa xb : Option Addr) (la ca lb cb : Nat) (y z : Nat → Int) (w : World) (ha : IsInts w xa la ca y) (hb : IsInts w xb lb cb z) (R : Bool) (hR : R = true ↔ la = lb ∧ ∀ j, j < la → y j = z j) :
    Calls Try.prog 8 #[.slice xa la ca, .slice xb lb cb] w fun e w' => e = .returned (.bool R) ∧ Below w.heap.size w w' := by
  have hba := ha.bound
  by_cases hl : la = lb
  · subst hl
    go_enter Try.func8, Try.ntmps8
    go_wp2_with fail
    have HA := Lib.hid ha
    have HB := Lib.hid hb
    have HR := Lib.hid hR
    clear ha hb hR
    go_loopw [5] (fun c wr => ∃ (j : Nat), j ≤ la ∧ c = .int .i64 j ∧ Hid (∀ i, i < j → y i = z i) ∧ Below w.heap.size w wr) (fun c _ => la - (intOf c).toNat)
    case atStart => exact ⟨0, by omega, rfl, Lib.hid (fun i hi => by omega), Below.refl _ _⟩
    case round =>
      obtain ⟨j, hj, rfl, hM, hB⟩ := hrel
      by_cases hlt : j < la
      · rcases HA.out.place with h0 | ⟨ga, oa, rfl, lga, hca⟩
        · omega
        rcases HB.out.place with h0 | ⟨gb, ob, rfl, lgb, hcb⟩
        · omega
        have c1 := (hB.cell (p := ⟨ga, oa + j, none⟩) lga).trans (hca j hlt)
        have c2 := (hB.cell (p := ⟨gb, ob + j, none⟩) lgb).trans (hcb j hlt)
        obtain ⟨p, hp⟩ : ∃ p, y j = p := ⟨_, rfl⟩
        obtain ⟨q, hq⟩ : ∃ p, z j = p := ⟨_, rfl⟩
        rw [hp] at c1
        rw [hq] at c2
        have HP := Lib.hid hp
        have HQ := Lib.hid hq
        clear hca hcb hp hq
        by_cases e : p = q
        · have e' : (p != q) = false := by simp [e]
          have E := Lib.hid e
          clear e
          go_wp2_with fail
          go_quiet (fail)
          have B2 : Below w.heap.size w (wr.drewN nq) := hB.trans ((below_regrownN wr nq).mono hB.size)
          generalize wr.drewN nq = w2 at *
          clear c1 c2
          go_wp2_with fail
          go_roundw
          case rel => exact ⟨j + 1, by omega, by simp, Lib.hid (fun i hi => by
            by_cases e : i = j
            · subst e; rw [HP.out, HQ.out]; exact E.out
            · exact hM.out i (by omega)), B2⟩
          case measure => simp [intOf]; omega
        · have e' : (p != q) = true := by simp [e]
          have E := Lib.hid e
          clear e
          go_wp2_with fail
          go_quiet (fail)
          have B2 : Below w.heap.size w (wr.drewN nq) := hB.trans ((below_regrownN wr nq).mono hB.size)
          generalize wr.drewN nq = w2 at *
          clear c1 c2
          go_wp2_with fail
          go_ret
          refine ⟨ret_bool ?_, B2⟩
          cases R with
          | false => rfl
          | true => exact absurd ((HR.out.1 rfl).2 j hlt) (by rw [HP.out, HQ.out]; exact E.out)
      · have e : j = la := by omega
        subst e
        go_wp2_with fail
        go_ret
        exact ⟨ret_bool (HR.out.2 ⟨by trivial, hM.out⟩).symm, hB⟩
  · have h7 : ((la : Int) != (lb : Int)) = true := by simp; omega
    have HL := Lib.hid hl
    clear hl
    go_enter Try.func8, Try.ntmps8
    go_wp2_with fail
    go_ret
    refine ⟨ret_bool ?_, Below.refl _ _⟩
    cases R with
    | false => rfl
    | true => exact absurd (hR.1 rfl).1 HL.out

theorem F_at (sf : Nat → Nat → Int) (n a b j : Nat) (hj : j < n) (h : F sf n a = F sf n b) : hasS (sf j) a = hasS (sf j) b := by
  have := congrArg (fun l => l[j]?) h
  simpa [F, hj] using this

set_option maxHeartbeats 2000000 in
set_option maxRecDepth 100000 in
theorem alike_any (x : Option Addr) (len cap : Nat) (sf : Nat → Nat → Int) (a b : Nat) (w : World) (hs : IsSets w x len cap sf) (ha : a < 256) (hb : b < 256) (R : Bool) (hR : R = true ↔ F sf len a = F sf len b) :
    Calls Try.prog 20 #[.slice x len cap, .int .i64 a, .int .i64 b] w fun e w' => e = .returned (.bool R) ∧ Below w.heap.size w w' := by
  have hbound := hs.bound
  go_enter Try.func20, Try.ntmps20
  go_wp2_with fail
  have HS := Lib.hid hs
  have HR := Lib.hid hR
  clear hs hR
  go_loopw [7] (fun c wr => ∃ (j : Nat), j ≤ len ∧ c = .int .i64 j ∧ Hid (F sf j a = F sf j b) ∧ Below w.heap.size w wr) (fun c _ => len - (intOf c).toNat)
  case atStart => exact ⟨0, by omega, rfl, Lib.hid rfl, Below.refl _ _⟩
  case round =>
    obtain ⟨j, hj, rfl, hM, hB⟩ := hrel
    by_cases hlt : j < len
    · rcases HS.out.place with h0 | ⟨bb, off, rfl, hbb, hcs⟩
      · omega
      · have hcs' : ∀ i, i < 4 → wr.cell? ⟨bb, off + j * 4 + i, none⟩ = some (.int .u64 (sf j i)) := fun i hi => (hB.cell (p := ⟨bb, off + j * 4 + i, none⟩) hbb).trans (hcs j hlt i hi)
        have m0 : wr.cell? ⟨bb, off + j * 4, none⟩ = some (.int .u64 (sf j 0)) := hcs' 0 (by omega)
        have m1 := hcs' 1 (by omega)
        have m2 := hcs' 2 (by omega)
        have m3 := hcs' 3 (by omega)
        clear hcs
        obtain ⟨p, hp⟩ : ∃ p, hasS (sf j) a = p := ⟨_, rfl⟩
        obtain ⟨q, hq⟩ : ∃ p, hasS (sf j) b = p := ⟨_, rfl⟩
        have HP := Lib.hid hp
        have HQ := Lib.hid hq
        have HC := Lib.hid hcs'
        clear hp hq hcs'
        go_wp2_with fail
        have n0 : ∀ d os, (Sort.grow (redrawn wr d) os).cell? ⟨bb, off + j * 4, none⟩ = some (.int .u64 (sf j 0)) := fun d os => ((below_regrown wr d os).cell (p := ⟨bb, off + j * 4, none⟩) (by show bb < _; have := hB.size; omega)).trans m0
        have n1 : ∀ d os, (Sort.grow (redrawn wr d) os).cell? ⟨bb, off + j * 4 + 1, none⟩ = some (.int .u64 (sf j 1)) := fun d os => ((below_regrown wr d os).cell (p := ⟨bb, off + j * 4 + 1, none⟩) (by show bb < _; have := hB.size; omega)).trans m1
        have n2 : ∀ d os, (Sort.grow (redrawn wr d) os).cell? ⟨bb, off + j * 4 + 2, none⟩ = some (.int .u64 (sf j 2)) := fun d os => ((below_regrown wr d os).cell (p := ⟨bb, off + j * 4 + 2, none⟩) (by show bb < _; have := hB.size; omega)).trans m2
        have n3 : ∀ d os, (Sort.grow (redrawn wr d) os).cell? ⟨bb, off + j * 4 + 3, none⟩ = some (.int .u64 (sf j 3)) := fun d os => ((below_regrown wr d os).cell (p := ⟨bb, off + j * 4 + 3, none⟩) (by show bb < _; have := hB.size; omega)).trans m3
        refine wp_region_quiet_below (by kernel_rfl) (by kernel_rfl) ?_
        repeat (go_big_quiet_step (fail))
        go_big_quiet_step ((go_at_call 22; exact Calls.regrown_of (refhas_nat (sf j) a p _ ha (HS.out.ins j) HP.out)))
        repeat (go_big_quiet_step (fail))
        go_big_quiet_step ((go_at_call 22; exact Calls.regrown_of (refhas_nat (sf j) b q _ hb (HS.out.ins j) HQ.out)))
        repeat (go_big_quiet_step (fail))
        refine wpQuiet_nil ?_
        intro _ hw'
        obtain ⟨⟨dq, osq⟩, hw''⟩ := hw'
        subst hw''
        have B2 : Below w.heap.size w (Sort.grow (redrawn wr dq) osq) := hB.trans ((below_regrown wr dq osq).mono hB.size)
        generalize Sort.grow (redrawn wr dq) osq = w2 at *
        clear n0 n1 n2 n3 m0 m1 m2 m3
        have Enext : p = q → F sf (j + 1) a = F sf (j + 1) b := fun e => by rw [F_succ, F_succ, hM.out, HP.out, HQ.out, e]
        have Estop : p ≠ q → R = false := fun e => by
          cases R with
          | false => rfl
          | true =>
            refine absurd (F_at sf len a b j hlt (HR.out.1 rfl)) ?_
            rw [HP.out, HQ.out]; exact e
        have EN := Lib.hid Enext
        have ES := Lib.hid Estop
        clear Enext Estop
        cases p <;> cases q
        · go_wp2_with fail
          go_roundw
          case rel => exact ⟨j + 1, by omega, by simp, Lib.hid (EN.out rfl), B2⟩
          case measure => simp [intOf]; omega
        · go_wp2_with fail
          go_ret
          exact ⟨ret_bool (ES.out (by simp)).symm, B2⟩
        · go_wp2_with fail
          go_ret
          exact ⟨ret_bool (ES.out (by simp)).symm, B2⟩
        · go_wp2_with fail
          go_roundw
          case rel => exact ⟨j + 1, by omega, by simp, Lib.hid (EN.out rfl), B2⟩
          case measure => simp [intOf]; omega
    · have e : j = len := by omega
      subst e
      go_wp2_with fail
      go_ret
      exact ⟨ret_bool (HR.out.2 hM.out).symm, hB⟩
end Go.Proofs.Ytcajlldecdjdlaa
