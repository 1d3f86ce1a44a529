/-
  The contracts of blocks.Right and Count, and of their references (the blocks seat's, with these names). Conditions: the numbers' cells.
-/
import Derived.Test.YtgkpgjbgcimijaaDoorAuAhead
import Derived.Test.YtgkpgjbgcimijaaDoorBlMath
namespace Go.Proofs.YtgkpgjbgcimijaaDoor
set_option linter.unusedVariables false
open Go.RowKit Go.Maps Go.Sort

def In64 (a : Int) : Prop := -9223372036854775808 ≤ a ∧ a ≤ 9223372036854775807
theorem wf_in64 {a : Int} (h : (Lit.int .i64 a).wf = true) : In64 a := by unfold In64; simpa [Lit.wf, IntKind.min, IntKind.max, IntKind.signed, IntKind.bits] using h

/-- a slice of ints, as the walks read it -/
structure IsInts (w : World) (x : Option Addr) (len cap : Nat) (z : Nat → Int) : Prop where
  place : len = 0 ∨ ∃ bb off, x = some ⟨bb, off, none⟩ ∧ bb < w.heap.size ∧ ∀ j, j < len → w.cell? ⟨bb, off + j, none⟩ = some (.int .i64 (z j))
  ins : ∀ j, j < len → In64 (z j)
  bound : len ≤ 9223372036854775807

theorem ints_row {w : World} {x : Option Addr} {len cap : Nat} {zs : List Int} (h : IsRow .i64 w x len cap zs) : IsInts w x len cap (fun j => zs[j]?.getD 0) := by
  rcases h.view with h0 | ⟨bb, off, rfl, hbb, h0, hl, hm, hz, hc, hw⟩
  · exact ⟨.inl h0, fun j hj => by omega, by omega⟩
  · exact ⟨.inr ⟨bb, off, rfl, hbb, fun j hj => hc j (by omega)⟩, fun j hj => wf_in64 (hw j (by omega)), by omega⟩
theorem IsInts.keep {w w' : World} {x : Option Addr} {len cap : Nat} {z : Nat → Int} (h : IsInts w x len cap z) (hb : Below w.heap.size w w') : IsInts w' x len cap z := by
  refine ⟨?_, h.ins, h.bound⟩
  rcases h.place with h0 | ⟨bb, off, rfl, hbb, hc⟩
  · exact .inl h0
  · exact .inr ⟨bb, off, rfl, by have := hb.size; omega, fun j hj => (hb.cell (p := ⟨bb, off + j, none⟩) hbb).trans (hc j hj)⟩

set_option maxHeartbeats 1000000 in
set_option maxRecDepth 100000 in
theorem right_any (x : Option Addr) (len cap : Nat) (z : Nat → Int) (w : World) (h : IsInts w x len cap z) :
    Calls Tryd.prog 53 #[.slice x len cap] w fun e w' => e = .returned (.bool (Bl.right z len)) ∧ Below w.heap.size w w' := by
  have hbound := h.bound
  go_enter Tryd.func53, Tryd.ntmps53
  go_wp2_with fail
  have HI := Lib.hid h
  clear h
  go_loop [3, 8] (fun m c => ∃ (j : Nat) (T : Int), j ≤ len ∧ c = .int .i64 j ∧ m = .int .i64 T ∧ Hid (Bl.top z j = T) ∧ Hid (Bl.okTo z j = true) ∧ 0 ≤ T ∧ T ≤ j) (fun _ c => len - (intOf c).toNat)
  case atStart => exact ⟨0, 0, by omega, rfl, rfl, Lib.hid rfl, Lib.hid rfl, by omega, by omega⟩
  case round =>
    obtain ⟨j, T, hj, rfl, rfl, hT, hok, hT0, hTj⟩ := hrel
    by_cases hlt : j < len
    · rcases HI.out.place with h0 | ⟨bb, off, rfl, hbb, hcs⟩
      · omega
      · have hc := hcs j hlt
        obtain ⟨hy1, hy2⟩ := HI.out.ins j hlt
        obtain ⟨y, hy⟩ : ∃ y, z j = y := ⟨_, rfl⟩
        rw [hy] at hc hy1 hy2
        have HY := Lib.hid hy
        clear hcs hy
        have hstep : Bl.okTo z (j + 1) = (decide (0 ≤ y) && decide (y ≤ T)) := by rw [Bl.okTo_succ, hok.out, hT.out, HY.out]; simp
        have hstop : Bl.top z (j + 1) = if y = T then T + 1 else T := by rw [Bl.top_succ, hT.out, HY.out]
        have HS := Lib.hid hstep
        have HT := Lib.hid hstop
        clear hstep hstop
        by_cases c1 : y < 0
        · go_wp2_with fail
          go_ret
          refine ⟨ret_bool ?_, Below.refl _ _⟩
          have : Bl.okTo z len = false := Bl.okTo_false z (show j + 1 ≤ len by omega) (by rw [HS.out]; simp; omega)
          simp [Bl.right, this]
        · by_cases c2 : T < y
          · go_wp2_with fail
            go_ret
            refine ⟨ret_bool ?_, Below.refl _ _⟩
            have : Bl.okTo z len = false := Bl.okTo_false z (show j + 1 ≤ len by omega) (by rw [HS.out]; simp; omega)
            simp [Bl.right, this]
          · by_cases c3 : y = T
            · have C3 := Lib.hid c3
              have c3' : (y == T) = true := by simp [c3]
              clear c3
              go_wp2_with fail
              go_round
              case rel => exact ⟨j + 1, T + 1, by omega, by simp, rfl, Lib.hid (by rw [HT.out, if_pos C3.out]), Lib.hid (by rw [HS.out]; simp; omega), by omega, by push_cast; omega⟩
              case measure => simp [intOf]; omega
            · have c3' : (y == T) = false := by simp [c3]
              have C3 := Lib.hid c3
              clear c3
              go_wp2_with fail
              go_round
              case rel => exact ⟨j + 1, T, by omega, by simp, rfl, Lib.hid (by rw [HT.out, if_neg C3.out]), Lib.hid (by rw [HS.out]; simp; omega), by omega, by push_cast; omega⟩
              case measure => simp [intOf]; omega
    · go_wp2_with fail
      go_ret
      have e : j = len := by omega
      refine ⟨ret_bool ?_, Below.refl _ _⟩
      subst e
      by_cases h6 : j = 256
      · have := hok.out
        rw [h6] at this
        simp [Bl.right, this, h6]
      · have : ¬ (j : Int) = 256 := by omega
        simp [Bl.right, h6, this]
set_option maxHeartbeats 1000000 in
set_option maxRecDepth 100000 in
theorem refright_any (x : Option Addr) (len cap : Nat) (z : Nat → Int) (w : World) (h : IsInts w x len cap z) :
    Calls Tryd.prog 50 #[.slice x len cap] w fun e w' => e = .returned (.bool (Bl.right z len)) ∧ Below w.heap.size w w' := by
  have hbound := h.bound
  go_enter Tryd.func50, Tryd.ntmps50
  by_cases h6 : len = 256
  · subst h6
    go_wp2_with fail
    have HI := Lib.hid h
    clear h hbound
    go_loop [3, 4] (fun m c => ∃ (j : Nat) (T : Int), j ≤ 256 ∧ c = .int .i64 j ∧ m = .int .i64 (T - 1) ∧ Hid (Bl.top z j = T) ∧ Hid (Bl.okTo z j = true) ∧ 0 ≤ T ∧ T ≤ j) (fun _ c => 256 - (intOf c).toNat)
    case atStart => exact ⟨0, 0, by omega, rfl, rfl, Lib.hid rfl, Lib.hid rfl, by omega, by omega⟩
    case round =>
      obtain ⟨j, T, hj, rfl, rfl, hT, hok, hT0, hTj⟩ := hrel
      by_cases hlt : j < 256
      · rcases HI.out.place with h0 | ⟨bb, off, rfl, hbb, hcs⟩
        · omega
        · have hc := hcs j hlt
          obtain ⟨hy1, hy2⟩ := HI.out.ins j hlt
          obtain ⟨y, hy⟩ : ∃ y, z j = y := ⟨_, rfl⟩
          rw [hy] at hc hy1 hy2
          have HY := Lib.hid hy
          clear hcs hy
          have hstep : Bl.okTo z (j + 1) = (decide (0 ≤ y) && decide (y ≤ T)) := by rw [Bl.okTo_succ, hok.out, hT.out, HY.out]; simp
          have hstop : Bl.top z (j + 1) = if y = T then T + 1 else T := by rw [Bl.top_succ, hT.out, HY.out]
          have HS := Lib.hid hstep
          have HT := Lib.hid hstop
          clear hstep hstop
          by_cases c1 : y < 0
          · go_wp2_with fail
            go_ret
            refine ⟨ret_bool ?_, Below.refl _ _⟩
            have : Bl.okTo z 256 = false := Bl.okTo_false z (show j + 1 ≤ 256 by omega) (by rw [HS.out]; simp; omega)
            simp [Bl.right, this]
          · by_cases c2 : T < y
            · have c2' : T - 1 + 1 < y := by omega
              go_wp2_with fail
              go_ret
              refine ⟨ret_bool ?_, Below.refl _ _⟩
              have : Bl.okTo z 256 = false := Bl.okTo_false z (show j + 1 ≤ 256 by omega) (by rw [HS.out]; simp; omega)
              simp [Bl.right, this]
            · have c2' : ¬ T - 1 + 1 < y := by omega
              by_cases c3 : y = T
              · have C3 := Lib.hid c3
                have c3' : T - 1 < y := by omega
                clear c3
                go_wp2_with fail
                go_round
                case rel => exact ⟨j + 1, T + 1, by omega, by simp, by have := C3.out; simp; omega, Lib.hid (by rw [HT.out, if_pos C3.out]), Lib.hid (by rw [HS.out]; simp; omega), by omega, by push_cast; omega⟩
                case measure => simp [intOf]; omega
              · have c3' : ¬ T - 1 < y := by omega
                have C3 := Lib.hid c3
                clear c3
                go_wp2_with fail
                go_round
                case rel => exact ⟨j + 1, T, by omega, by simp, rfl, Lib.hid (by rw [HT.out, if_neg C3.out]), Lib.hid (by rw [HS.out]; simp; omega), by omega, by push_cast; omega⟩
                case measure => simp [intOf]; omega
      · have e : j = 256 := by omega
        subst e
        go_wp2_with fail
        go_ret
        exact ⟨ret_bool (by simp [Bl.right, hok.out]), Below.refl _ _⟩
  · have h7 : ((len : Int) != 256) = true := by simp; omega
    go_wp2_with fail
    go_ret
    exact ⟨ret_bool (by simp [Bl.right, h6]), Below.refl _ _⟩

theorem right_lit (x : Option Addr) (len cap : Nat) (z : Nat → Int) (R : Bool) (w : World) (h : IsInts w x len cap z) (hR : Bl.right z len = R) :
    Calls Tryd.prog 53 #[.slice x len cap] w fun e w' => e = .returned (.bool R) ∧ Below w.heap.size w w' := by
  subst hR; exact right_any x len cap z w h
theorem refright_lit (x : Option Addr) (len cap : Nat) (z : Nat → Int) (R : Bool) (w : World) (h : IsInts w x len cap z) (hR : Bl.right z len = R) :
    Calls Tryd.prog 50 #[.slice x len cap] w fun e w' => e = .returned (.bool R) ∧ Below w.heap.size w w' := by
  subst hR; exact refright_any x len cap z w h

theorem ok_in (z : Nat → Int) (n j : Nat) (h : Bl.okTo z n = true) (hj : j < n) : 0 ≤ z j ∧ z j ≤ j := by
  have h1 := Bl.okTo_of_le z (show j + 1 ≤ n by omega) h
  rw [Bl.okTo_succ] at h1
  simp at h1
  have := Bl.top_nonneg z j
  omega
def countI (z : Nat → Int) (len : Nat) : Int := if Bl.right z len = true then Bl.most z 256 else 0

set_option maxHeartbeats 1000000 in
set_option maxRecDepth 100000 in
theorem count_any (x : Option Addr) (len cap : Nat) (z : Nat → Int) (w : World) (h : IsInts w x len cap z) :
    Calls Tryd.prog 45 #[.slice x len cap] w fun e w' => e = .returned (.int .i64 (countI z len)) ∧ Below w.heap.size w w' := by
  go_enter Tryd.func45, Tryd.ntmps45
  go_wp2_with fail
  refine (right_any x len cap z _ h).mono ?_
  rintro e w1 ⟨rfl, b1⟩
  have HI := Lib.hid (h.keep b1)
  clear h
  by_cases hR : Bl.right z len = true
  · have hl : len = 256 := by simp [Bl.right] at hR; exact hR.1
    have hok : Bl.okTo z 256 = true := by simp [Bl.right] at hR; rw [← hl]; exact hR.2
    have HR := Lib.hid hR
    rw [HR.out]
    subst hl
    go_wp2_with fail
    go_loop [3, 11] (fun m c => ∃ (j : Nat) (M : Int), j ≤ 256 ∧ c = .int .i64 j ∧ m = .int .i64 M ∧ Hid (Bl.most z j = M) ∧ 0 ≤ M ∧ M ≤ 256) (fun _ c => 256 - (intOf c).toNat)
    case atStart => exact ⟨0, 0, by omega, rfl, rfl, Lib.hid rfl, by omega, by omega⟩
    case round =>
      obtain ⟨j, M, hj, rfl, rfl, hM, hM0, hM1⟩ := hrel
      by_cases hlt : j < 256
      · rcases HI.out.place with h0 | ⟨bb, off, rfl, hbb, hcs⟩
        · omega
        · have hc := hcs j hlt
          obtain ⟨hy1, hy2⟩ := ok_in z 256 j hok hlt
          obtain ⟨y, hy⟩ : ∃ y, z j = y := ⟨_, rfl⟩
          rw [hy] at hc hy1 hy2
          have HY := Lib.hid hy
          have hy3 : y ≤ 255 := by omega
          clear hcs hy
          by_cases c1 : M ≤ y + 1
          · go_wp2_with fail
            all_goals go_round
            all_goals first
              | (case rel => exact ⟨j + 1, y + 1, by omega, by simp, by simp; try omega, Lib.hid (by rw [Bl.most_succ, hM.out, HY.out]; omega), by omega, by omega⟩)
              | skip
            all_goals first
              | (case measure => simp [intOf]; omega)
              | skip
          · go_wp2_with fail
            all_goals go_round
            all_goals first
              | (case rel => exact ⟨j + 1, M, by omega, by simp, by simp; try omega, Lib.hid (by rw [Bl.most_succ, hM.out, HY.out]; omega), by omega, by omega⟩)
              | skip
            all_goals first
              | (case measure => simp [intOf]; omega)
              | skip
      · have e : j = 256 := by omega
        subst e
        go_wp2_with fail
        go_ret
        exact ⟨ret_int (by simp [countI, HR.out, hM.out]), b1⟩
  · have hR' : Bl.right z len = false := by simpa using hR
    have HR := Lib.hid hR'
    rw [HR.out]
    clear hR hR'
    go_wp2_with fail
    go_ret
    exact ⟨by simp [countI, HR.out], b1⟩
set_option maxHeartbeats 1000000 in
set_option maxRecDepth 100000 in
theorem refcount_any (x : Option Addr) (len cap : Nat) (z : Nat → Int) (w : World) (h : IsInts w x len cap z) :
    Calls Tryd.prog 34 #[.slice x len cap] w fun e w' => e = .returned (.int .i64 (countI z len)) ∧ Below w.heap.size w w' := by
  go_enter Tryd.func34, Tryd.ntmps34
  have hbound := h.bound
  go_wp2_with fail
  have HI := Lib.hid h
  by_cases hR : Bl.right z len = true
  · have hl : len = 256 := by simp [Bl.right] at hR; exact hR.1
    have hok : Bl.okTo z 256 = true := by simp [Bl.right] at hR; rw [← hl]; exact hR.2
    have HR := Lib.hid hR
    subst hl
    clear hR h hbound
    go_loopw [3, 4] (fun m c wr => ∃ (j : Nat) (M : Int), j ≤ 256 ∧ c = .int .i64 j ∧ m = .int .i64 (M - 1) ∧ Hid (Bl.most z j = M) ∧ 0 ≤ M ∧ M ≤ 256 ∧ Below w.heap.size w wr) (fun _ c _ => 256 - (intOf c).toNat)
    case atStart => exact ⟨0, 0, by omega, rfl, rfl, Lib.hid rfl, by omega, by omega, Below.refl _ _⟩
    case round =>
      obtain ⟨j, M, hj, rfl, rfl, hM, hM0, hM1, hB⟩ := hrel
      have HI2 := Lib.hid (HI.out.keep hB)
      by_cases hlt : j < 256
      · rcases HI.out.place with h0 | ⟨bb, off, rfl, hbb, hcs⟩
        · omega
        · go_wp2_with fail
          refine (refright_lit _ _ _ z true _ HI2.out HR.out).mono ?_
          rintro e w1 ⟨rfl, b1⟩
          have hB1 : Below w.heap.size w w1 := hB.trans (b1.mono hB.size)
          have hc := (hB1.cell (p := ⟨bb, off + j, none⟩) hbb).trans (hcs j hlt)
          obtain ⟨hy1, hy2⟩ := ok_in z 256 j hok hlt
          obtain ⟨y, hy⟩ : ∃ y, z j = y := ⟨_, rfl⟩
          rw [hy] at hc hy1 hy2
          have HY := Lib.hid hy
          have hy3 : y ≤ 255 := by omega
          clear hcs hy b1
          by_cases c1 : M - 1 < y
          · go_wp2_with fail
            go_roundw
            case rel => exact ⟨j + 1, y + 1, by omega, by simp, by simp, Lib.hid (by rw [Bl.most_succ, hM.out, HY.out]; omega), by omega, by omega, hB1⟩
            case measure => simp [intOf]; omega
          · go_wp2_with fail
            go_roundw
            case rel => exact ⟨j + 1, M, by omega, by simp, rfl, Lib.hid (by rw [Bl.most_succ, hM.out, HY.out]; omega), by omega, by omega, hB1⟩
            case measure => simp [intOf]; omega
      · have e : j = 256 := by omega
        subst e
        go_wp2_with fail
        go_ret
        exact ⟨ret_int (by simp [countI, HR.out, hM.out]), hB⟩
  · have hR' : Bl.right z len = false := by simpa using hR
    have HR := Lib.hid hR'
    clear hR hR' h
    refine wp_loop_rounds 1 ?_
    rw [rounds_succ]
    by_cases h0 : 0 < len
    · go_wp2_with fail
      refine (refright_lit _ _ _ z false _ HI.out HR.out).mono ?_
      rintro e w1 ⟨rfl, b1⟩
      go_wp2_with fail
      go_ret
      exact ⟨ret_int (by simp [countI, HR.out]), b1⟩
    · have e : len = 0 := by omega
      subst e
      go_wp2_with fail
      go_ret
      exact ⟨ret_int (by simp [countI, HR.out]), Below.refl _ _⟩
end Go.Proofs.YtgkpgjbgcimijaaDoor
