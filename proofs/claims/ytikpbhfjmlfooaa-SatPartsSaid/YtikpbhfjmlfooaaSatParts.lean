/-
  The walk of the law SatParts: it returns true. Conditions: the arguments are ints and a list of ints.
-/
import Derived.Test.YtikpbhfjmlfooaaSatSum
namespace Go.Proofs.Ytikpbhfjmlfooaa
set_option linter.unusedVariables false
open Go.RowKit

namespace satPartsW
set_option maxHeartbeats 1000000 in
theorem walk (a b : Int) (x : Option Addr) (len cap : Nat) (zs : List Int) (w : World) (wa : (Lit.int .i64 a).wf = true) (wb : (Lit.int .i64 b).wf = true) (hr : IsRow .i64 w x len cap zs) :
    Calls Try.prog 5 #[.int .i64 a, .int .i64 b, .slice x len cap] w fun e w' => e = .returned (.bool true) ∧ Below w.heap.size w w' := by
  have Ha := Lib.hid (wf_in wa)
  have Hb := Lib.hid (wf_in wb)
  clear wa wb
  by_cases h100 : 100 < len
  · go_enter Try.func5, Try.ntmps5
    go_wp2_with fail
    refine (satworks_any _).mono ?_
    rintro e w' ⟨rfl, hb1⟩
    go_wp2_with fail
    go_ret
    exact ⟨rfl, hb1⟩
  · go_enter Try.func5, Try.ntmps5
    go_wp2_with fail
    go_loop [7, 8] (fun s i => ∃ k : Nat, k ≤ len ∧ i = .int .i64 k ∧ s = .int .i64 (sumTo (zs.take k))) (fun _ i => len - (intOf i).toNat)
    case atStart => exact ⟨0, Nat.zero_le _, rfl, rfl⟩
    case round =>
      obtain ⟨k, hk, rfl, rfl⟩ := hrel
      have hsi := Lib.hid (sumTo_in (zs.take k))
      by_cases hlt : k < len
      · rcases hr.view with h0 | ⟨bb, off, rfl, hbb, h0, hl, hm, hz, hcell', hwz'⟩
        · omega
        · have hc := hcell' k (by omega)
          have hi := Lib.hid (wf_in (hwz' k (by omega)))
          have hs := Lib.hid (sumTo_succ zs k (by omega))
          clear hcell' hwz' hr
          go_wp2_with (go_at_call 21; refine (refadd_any _ _ _ hsi.out hi.out).mono ?_; rintro e w' ⟨rfl, rfl⟩)
          go_round
          case rel => exact ⟨k + 1, by omega, by go_num, by rw [hs.out]⟩
          case measure => simp [intOf]; omega
      · have e : k = len := by omega
        have HR := Lib.hid hr
        clear hr
        subst e
        obtain ⟨s, hs⟩ : ∃ s, s = sumTo (zs.take k) := ⟨_, rfl⟩
        rw [← hs]
        rw [← hs] at hsi
        have HS := Lib.hid hs
        clear hs
        by_cases c1 : a < b
        · have E : Hid (clampTo a b s = b) := by unfold clampTo; rw [if_pos c1]; exact rfl
          go_wp2_with fail
          refine (clamp_any _ _ _ _).mono ?_
          rintro e w' ⟨rfl, rfl⟩
          rw [E.out]
          go_wp2_with fail
          refine (div_any _ _ _ Ha.out Hb.out).mono ?_
          rintro e w' ⟨rfl, rfl⟩
          go_wp2_with fail
          refine (refdiv_any _ _ _ Ha.out Hb.out).mono ?_
          rintro e w' ⟨rfl, rfl⟩
          go_wp2_with fail
          refine (sum_any _ _ _ _ _ HR.out).mono ?_
          rintro e w' ⟨rfl, rfl⟩
          rw [← HS.out]
          go_wp2_with fail
          refine (satworks_any _).mono ?_
          rintro e w' ⟨rfl, hb1⟩
          go_wp2_with fail
          go_ret
          exact ⟨rfl, hb1⟩
        · by_cases c2 : s < a
          · have E : Hid (clampTo a b s = s) := by unfold clampTo; rw [if_neg c1, if_pos c2]; exact rfl
            go_wp2_with fail
            refine (clamp_any _ _ _ _).mono ?_
            rintro e w' ⟨rfl, rfl⟩
            rw [E.out]
            go_wp2_with fail
            refine (div_any _ _ _ Ha.out Hb.out).mono ?_
            rintro e w' ⟨rfl, rfl⟩
            go_wp2_with fail
            refine (refdiv_any _ _ _ Ha.out Hb.out).mono ?_
            rintro e w' ⟨rfl, rfl⟩
            go_wp2_with fail
            refine (sum_any _ _ _ _ _ HR.out).mono ?_
            rintro e w' ⟨rfl, rfl⟩
            rw [← HS.out]
            go_wp2_with fail
            refine (satworks_any _).mono ?_
            rintro e w' ⟨rfl, hb1⟩
            go_wp2_with fail
            go_ret
            exact ⟨rfl, hb1⟩
          · have E : Hid (clampTo a b s = a) := by unfold clampTo; rw [if_neg c1, if_neg c2]; exact rfl
            go_wp2_with fail
            refine (clamp_any _ _ _ _).mono ?_
            rintro e w' ⟨rfl, rfl⟩
            rw [E.out]
            go_wp2_with fail
            refine (div_any _ _ _ Ha.out Hb.out).mono ?_
            rintro e w' ⟨rfl, rfl⟩
            go_wp2_with fail
            refine (refdiv_any _ _ _ Ha.out Hb.out).mono ?_
            rintro e w' ⟨rfl, rfl⟩
            go_wp2_with fail
            refine (sum_any _ _ _ _ _ HR.out).mono ?_
            rintro e w' ⟨rfl, rfl⟩
            rw [← HS.out]
            go_wp2_with fail
            refine (satworks_any _).mono ?_
            rintro e w' ⟨rfl, hb1⟩
            go_wp2_with fail
            go_ret
            exact ⟨rfl, hb1⟩
end satPartsW
end Go.Proofs.Ytikpbhfjmlfooaa
