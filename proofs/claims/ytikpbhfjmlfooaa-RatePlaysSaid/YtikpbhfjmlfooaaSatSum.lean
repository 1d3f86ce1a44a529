/-
  The sum of a list, and the chapter's examples. Conditions: the list's numbers are ints.
-/
import Derived.Test.YtikpbhfjmlfooaaSatRef
namespace Go.Proofs.Ytikpbhfjmlfooaa
set_option linter.unusedVariables false
open Go.RowKit

def sumTo (zs : List Int) : Int := zs.foldl (fun s n => clip (s + n)) 0
theorem sumTo_in (zs : List Int) : In (sumTo zs) := by
  unfold sumTo
  rcases List.eq_nil_or_concat zs with rfl | ⟨l, x, rfl⟩
  · exact ⟨by decide, by decide⟩
  · rw [List.concat_eq_append, List.foldl_append]; exact clip_in _
theorem sumTo_succ (zs : List Int) (k : Nat) (hk : k < zs.length) : sumTo (zs.take (k + 1)) = clip (sumTo (zs.take k) + zs[k]?.getD 0) := by
  unfold sumTo
  rw [List.take_add_one, List.foldl_append, List.getElem?_eq_getElem hk]; rfl

set_option maxHeartbeats 400000 in
theorem sum_any (a : Option Addr) (len cap : Nat) (zs : List Int) (w : World) (h : IsRow .i64 w a len cap zs) :
    Calls Try.prog 25 #[.slice a len cap] w fun e w' => e = .returned (.int .i64 (sumTo (zs.take len))) ∧ w = w' := by
  rcases h.view with rfl | ⟨b, off, rfl, hb, h0, hl, hm, hz, hcell', hwz'⟩
  · go_enter Try.func25, Try.ntmps25
    go_wp2
    refine wp_loop_rounds 1 ?_
    rw [rounds_succ]
    go_wp2
    go_ret
    exact ⟨rfl, rfl⟩
  · clear h
    go_enter Try.func25, Try.ntmps25
    go_wp2
    go_loop [3, 8] (fun s i => ∃ k : Nat, k ≤ len ∧ i = .int .i64 k ∧ s = .int .i64 (sumTo (zs.take k))) (fun _ i => len - (intOf i).toNat)
    case atStart => exact ⟨0, Nat.zero_le _, rfl, rfl⟩
    case round =>
      obtain ⟨k, hk, rfl, rfl⟩ := hrel
      by_cases hlt : k < len
      · have hc := hcell' k (by omega)
        have hi := Lib.hid (wf_in (hwz' k (by omega)))
        have hs := Lib.hid (sumTo_succ zs k (by omega))
        have hsi := Lib.hid (sumTo_in (zs.take k))
        clear hcell' hwz'
        go_wp2_with (go_at_call 26; refine (add_any _ _ _ hsi.out hi.out).mono ?_; rintro e w' ⟨rfl, rfl⟩)
        go_round
        case rel => exact ⟨k + 1, by omega, by go_num, by rw [hs.out]⟩
        case measure => simp [intOf]; omega
      · have e : k = len := by omega
        clear hcell' hwz'
        go_wp2
        go_ret
        exact ⟨rfl, rfl⟩

theorem clip_lit : clip (9223372036854775807 + 1) = 9223372036854775807 ∧ clip (3 * -4) = -12 ∧ divTo (-7) 2 = -4 ∧ clampTo 9 1 5 = 5 ∧ sumTo ([1, 2, 3].take 3) = 6 := by decide

theorem satworks_any (w : World) : Calls Try.prog 20 #[] w fun e w' => e = .returned (.bool true) ∧ Below w.heap.size w w' := by
  obtain ⟨l1, l2, l3, l4, l5⟩ := clip_lit
  have L1 := Lib.hid l1
  have L2 := Lib.hid l2
  have L3 := Lib.hid l3
  have L4 := Lib.hid l4
  have L5 := Lib.hid l5
  clear l1 l2 l3 l4 l5
  go_enter Try.func20, Try.ntmps20
  go_wp2_with fail
  refine (add_any _ _ _ ⟨by omega, by omega⟩ ⟨by omega, by omega⟩).mono ?_
  rintro e w' ⟨rfl, rfl⟩
  rw [L1.out]
  go_wp2_with fail
  refine (div_any _ _ _ ⟨by omega, by omega⟩ ⟨by omega, by omega⟩).mono ?_
  rintro e w' ⟨rfl, rfl⟩
  rw [L3.out]
  go_wp2_with fail
  refine (clamp_any _ _ _ _).mono ?_
  rintro e w' ⟨rfl, rfl⟩
  rw [L4.out]
  go_wp2_with fail
  refine (mul_any _ _ _ ⟨by omega, by omega⟩ ⟨by omega, by omega⟩).mono ?_
  rintro e w' ⟨rfl, rfl⟩
  rw [L2.out]
  go_wp2_with fail
  refine (sum_any _ _ _ [1, 2, 3] _ ?_).mono ?_
  · exact IsRow.made w _ [1, 2, 3] 3 rfl (by decide) (by decide)
  rintro e w' ⟨rfl, rfl⟩
  rw [L5.out]
  go_wp2_with fail
  go_ret
  exact ⟨rfl, (Below.refl _ _).alloc (Nat.le_refl _) _⟩
end Go.Proofs.Ytikpbhfjmlfooaa
