/-
  The walk of the law BlocksOf: it returns true. Conditions: none but what each says.
-/
import Derived.Test.YtcajlldecdjdlaaBlSets
namespace Go.Proofs.Ytcajlldecdjdlaa
set_option linter.unusedVariables false
open Go.RowKit Go.Maps Go.Sort
open Go.ChangeShapes Go.WideShapes

namespace blocksOfW
set_option maxHeartbeats 4000000 in
set_option maxRecDepth 100000 in
theorem walk_sets (x : Option Addr) (len cap : Nat) (sf : Nat → Nat → Int) (w : World) (hs : len ≤ 4611686018427387904 → IsSets w x len cap sf) :
    Calls Try.prog 3 #[.slice x len cap] w fun e w' => e = .returned (.bool true) ∧ Below w.heap.size w w' := by
  by_cases h1 : 8 < len
  · have d1 : decide (8 < (len : Int)) = true := by simp; omega
    go_enter Try.func3, Try.ntmps3
    go_wp2_with fail
    refine (blworks_any _).mono ?_
    rintro e w1 ⟨rfl, b1⟩
    go_wp2_with fail
    go_ret
    exact ⟨rfl, b1⟩
  have d1 : decide (8 < (len : Int)) = false := by simp; omega
  have HS := Lib.hid (hs (by omega))
  clear hs
  go_enter Try.func3, Try.ntmps3
  go_wp2_with fail
  refine (of_any _ _ _ sf _ HS.out).mono ?_
  rintro e w1 ⟨g, rfl, hrow, b1⟩
  have hI := ints_num hrow
  obtain ⟨m, hm⟩ : ∃ m : Nat → Int, (fun b => (Bl.num (F sf len) b : Int)) = m := ⟨_, rfl⟩
  have hR : Bl.right m 256 = true := by
    have := (Bl.num_right (F sf len) 256).1
    rw [hm] at this
    simp [Bl.right, this]
  rw [hm] at hI
  have HI := Lib.hid hI
  have HM := Lib.hid hm
  have HR := Lib.hid hR
  clear hI hm hR hrow
  go_wp2_with fail
  refine (refof_any _ _ _ sf _ (HS.out.keep b1)).mono ?_
  rintro e w2 ⟨g2, c2, rfl, hI2, b2⟩
  rw [HM.out] at hI2
  have HI2 := Lib.hid hI2
  have HI1 := Lib.hid (HI.out.keep b2)
  have B2 : Below w.heap.size w w2 := b1.trans (b2.mono b1.size)
  clear hI2 b1 b2
  go_wp2_with fail
  refine (same_any _ _ 256 256 256 c2 m m _ HI1.out HI2.out true ⟨fun _ => ⟨rfl, fun _ _ => rfl⟩, fun _ => rfl⟩).mono ?_
  rintro e w3 ⟨rfl, b1⟩
  have B3 : Below w.heap.size w w3 := B2.trans (b1.mono B2.size)
  have HI3 := Lib.hid (HI1.out.keep b1)
  clear b1 B2
  go_wp2_with fail
  refine (right_lit _ _ _ m true _ HI3.out HR.out).mono ?_
  rintro e w4 ⟨rfl, b1⟩
  have B4 : Below w.heap.size w w4 := B3.trans (b1.mono B3.size)
  clear b1 B3
  go_wp2_with fail
  refine (blworks_any _).mono ?_
  rintro e w9 ⟨rfl, b1⟩
  go_wp2_with fail
  go_ret
  exact ⟨rfl, B4.trans (b1.mono B4.size)⟩

theorem walkRaw {H : Type} (enc : TypeId × Value → H) (v0 : Value) (W : World) {base : Nat} {d0 : DataW H} {p0 : List MemPlace}
    (wv0 : Value.okWide Try.prog W .any base 22 v0) (h0 : DataW.Trod enc Try.prog W 0 (fun _ => true) true 22 v0 d0 p0) (_lt0 : ∀ x ∈ p0, x.block < W.heap.size) :
    Calls Try.prog 3 #[v0] W fun e w' => e = .returned (.bool true) ∧ Below W.heap.size W w' := by
  obtain ⟨x, len, cap, sf, rfl, hs⟩ := open_sets wv0 h0
  exact walk_sets x len cap sf W hs
end blocksOfW
end Go.Proofs.Ytcajlldecdjdlaa
