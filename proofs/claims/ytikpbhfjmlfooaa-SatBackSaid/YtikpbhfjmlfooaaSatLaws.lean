/-
  The walks of the four laws of layer 1: each returns true. Conditions: the arguments are ints.
-/
import Derived.Test.YtikpbhfjmlfooaaSatSum
namespace Go.Proofs.Ytikpbhfjmlfooaa
set_option linter.unusedVariables false
open Go.RowKit

namespace satSumsW
theorem walk (a b : Int) (w : World) (wa : (Lit.int .i64 a).wf = true) (wb : (Lit.int .i64 b).wf = true) :
    Calls Try.prog 6 #[.int .i64 a, .int .i64 b] w fun e w' => e = .returned (.bool true) ∧ Below w.heap.size w w' := by
  have ha := wf_in wa
  have hb := wf_in wb
  have Ha := Lib.hid ha
  have Hb := Lib.hid hb
  clear ha hb wa wb
  go_enter Try.func6, Try.ntmps6
  go_wp2_with fail
  refine (add_any _ _ _ Ha.out Hb.out).mono ?_
  rintro e w' ⟨rfl, rfl⟩
  go_wp2_with fail
  refine (refadd_any _ _ _ Ha.out Hb.out).mono ?_
  rintro e w' ⟨rfl, rfl⟩
  go_wp2_with fail
  refine (sub_any _ _ _ Ha.out Hb.out).mono ?_
  rintro e w' ⟨rfl, rfl⟩
  go_wp2_with fail
  refine (refsub_any _ _ _ Ha.out Hb.out).mono ?_
  rintro e w' ⟨rfl, rfl⟩
  go_wp2_with fail
  refine (mul_any _ _ _ Ha.out Hb.out).mono ?_
  rintro e w' ⟨rfl, rfl⟩
  go_wp2_with fail
  refine (refmul_any _ _ _ Ha.out Hb.out).mono ?_
  rintro e w' ⟨rfl, rfl⟩
  go_wp2_with fail
  refine (satworks_any _).mono ?_
  rintro e w' ⟨rfl, hb1⟩
  go_wp2_with fail
  go_ret
  exact ⟨rfl, hb1⟩
end satSumsW

theorem clip_back {a b : Int} (ha : In a) (hb : In b) (h1 : clip (a + b) ≠ 9223372036854775807) (h2 : clip (a + b) ≠ -9223372036854775808) : clip (a + b) = a + b := by
  by_cases h : 9223372036854775807 < a + b
  · exact absurd (clip_hi h) h1
  · by_cases h' : a + b < -9223372036854775808
    · exact absurd (clip_lo h') h2
    · exact clip_id ⟨by omega, by omega⟩

namespace satOrderW
set_option maxHeartbeats 400000 in
theorem walk (a b c : Int) (w : World) (wa : (Lit.int .i64 a).wf = true) (wb : (Lit.int .i64 b).wf = true) (wc : (Lit.int .i64 c).wf = true) :
    Calls Try.prog 7 #[.int .i64 a, .int .i64 b, .int .i64 c] w fun e w' => e = .returned (.bool true) ∧ Below w.heap.size w w' := by
  have Ha := Lib.hid (wf_in wa)
  have Hb := Lib.hid (wf_in wb)
  have Hc := Lib.hid (wf_in wc)
  clear wa wb wc
  by_cases h : b < a
  · go_enter Try.func7, Try.ntmps7
    go_wp2_with fail
    refine (satworks_any _).mono ?_
    rintro e w' ⟨rfl, hb1⟩
    go_wp2_with fail
    go_ret
    exact ⟨rfl, hb1⟩
  · have m1 : clip (a + c) ≤ clip (b + c) := clip_mono (by omega)
    have m2 : clip (a - c) ≤ clip (b - c) := clip_mono (by omega)
    have m3 : clip (c - b) ≤ clip (c - a) := clip_mono (by omega)
    have m4 := Lib.hid (show c + a = a + c by omega)
    go_enter Try.func7, Try.ntmps7
    go_wp2_with fail
    refine (add_any _ _ _ Ha.out Hc.out).mono ?_
    rintro e w' ⟨rfl, rfl⟩
    go_wp2_with fail
    refine (add_any _ _ _ Hb.out Hc.out).mono ?_
    rintro e w' ⟨rfl, rfl⟩
    go_wp2_with fail
    refine (sub_any _ _ _ Ha.out Hc.out).mono ?_
    rintro e w' ⟨rfl, rfl⟩
    go_wp2_with fail
    refine (sub_any _ _ _ Hb.out Hc.out).mono ?_
    rintro e w' ⟨rfl, rfl⟩
    go_wp2_with fail
    refine (sub_any _ _ _ Hc.out Ha.out).mono ?_
    rintro e w' ⟨rfl, rfl⟩
    go_wp2_with fail
    refine (sub_any _ _ _ Hc.out Hb.out).mono ?_
    rintro e w' ⟨rfl, rfl⟩
    go_wp2_with fail
    refine (add_any _ _ _ Ha.out Hc.out).mono ?_
    rintro e w' ⟨rfl, rfl⟩
    go_wp2_with fail
    refine (add_any _ _ _ Hc.out Ha.out).mono ?_
    rintro e w' ⟨rfl, rfl⟩
    rw [m4.out]
    go_wp2_with fail
    refine (satworks_any _).mono ?_
    rintro e w' ⟨rfl, hb1⟩
    go_wp2_with fail
    go_ret
    exact ⟨rfl, hb1⟩
end satOrderW

namespace satBackW
set_option maxHeartbeats 400000 in
theorem walk (a b : Int) (w : World) (wa : (Lit.int .i64 a).wf = true) (wb : (Lit.int .i64 b).wf = true) :
    Calls Try.prog 8 #[.int .i64 a, .int .i64 b] w fun e w' => e = .returned (.bool true) ∧ Below w.heap.size w w' := by
  have ha := wf_in wa
  have hb := wf_in wb
  have Ha := Lib.hid ha
  have Hb := Lib.hid hb
  have Hi := Lib.hid (clip_in (a + b))
  by_cases h1 : clip (a + b) = 9223372036854775807
  · have t : (clip (a + b) == 9223372036854775807) = true := by simp [h1]
    clear ha hb wa wb h1
    go_enter Try.func8, Try.ntmps8
    go_wp2_with fail
    refine (add_any _ _ _ Ha.out Hb.out).mono ?_
    rintro e w' ⟨rfl, rfl⟩
    go_wp2_with fail
    refine (satworks_any _).mono ?_
    rintro e w' ⟨rfl, hb1⟩
    go_wp2_with fail
    go_ret
    exact ⟨rfl, hb1⟩
  · have t : (clip (a + b) == 9223372036854775807) = false := by simp [h1]
    by_cases h2 : clip (a + b) = -9223372036854775808
    · have t' : (clip (a + b) == -9223372036854775808) = true := by simp [h2]
      clear ha hb wa wb h1 h2
      go_enter Try.func8, Try.ntmps8
      go_wp2_with fail
      refine (add_any _ _ _ Ha.out Hb.out).mono ?_
      rintro e w' ⟨rfl, rfl⟩
      go_wp2_with fail
      refine (satworks_any _).mono ?_
      rintro e w' ⟨rfl, hb1⟩
      go_wp2_with fail
      go_ret
      exact ⟨rfl, hb1⟩
    · have t' : (clip (a + b) == -9223372036854775808) = false := by simp [h2]
      have s0 := clip_back ha hb h1 h2
      have s1 := Lib.hid (show clip (clip (a + b) - b) = a by rw [s0, show a + b - b = a by omega]; exact clip_id ha)
      have s2 := Lib.hid (show clip (clip (a + b) - a) = b by rw [s0, show a + b - a = b by omega]; exact clip_id hb)
      clear ha hb wa wb h1 h2 s0
      go_enter Try.func8, Try.ntmps8
      go_wp2_with fail
      refine (add_any _ _ _ Ha.out Hb.out).mono ?_
      rintro e w' ⟨rfl, rfl⟩
      go_wp2_with fail
      refine (sub_any _ _ _ Hi.out Hb.out).mono ?_
      rintro e w' ⟨rfl, rfl⟩
      rw [s1.out]
      go_wp2_with fail
      refine (sub_any _ _ _ Hi.out Ha.out).mono ?_
      rintro e w' ⟨rfl, rfl⟩
      rw [s2.out]
      go_wp2_with fail
      refine (satworks_any _).mono ?_
      rintro e w' ⟨rfl, hb1⟩
      go_wp2_with fail
      go_ret
      exact ⟨rfl, hb1⟩
end satBackW

end Go.Proofs.Ytikpbhfjmlfooaa
