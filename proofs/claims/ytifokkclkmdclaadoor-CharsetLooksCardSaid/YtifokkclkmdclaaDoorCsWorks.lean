/-
  The example of layer 12: it returns true. Conditions: the library's table lies as laid.
-/
import Derived.Test.YtifokkclkmdclaaDoorCsText
namespace Go.Proofs.YtifokkclkmdclaaDoor
set_option linter.unusedVariables false
open Go.RowKit Go.Sort Cs

theorem text_lit (s : Nat → Int) (l : List UInt8) (w : World) (hs : SetIn s) (hT : TabIn w) (hl : bytesTo s 256 = l) :
    Calls Tryd.prog 14 #[setV s] w fun e w' => e = .returned (.string (txt l)) ∧ Below w.heap.size w w' := by subst hl; exact text_any s w hs hT
theorem count_lit (s : Nat → Int) (n : Nat) (w : World) (hs : SetIn s) (hl : cnt s 256 = n) :
    Calls Tryd.prog 15 #[setV s] w fun e w' => e = .returned (.int .i64 n) ∧ Below w.heap.size w w' := by subst hl; exact count_any s w hs
theorem has_lit (s : Nat → Int) (k : Nat) (B : Bool) (w : World) (hk : k < 256) (hs : SetIn s) (hB : hasS s k = B) :
    Calls Tryd.prog 12 #[setV s, .int .u8 k] w fun e w' => e = .returned (.bool B) ∧ Below w.heap.size w w' := by
  subst hB; exact has_any s k w (by omega) (by omega) hs
theorem refhas_lit (s : Nat → Int) (k : Nat) (B : Bool) (w : World) (hk : k < 256) (hs : SetIn s) (hB : hasS s k = B) :
    Calls Tryd.prog 11 #[setV s, .int .i64 k] w fun e w' => e = .returned (.bool B) ∧ Below w.heap.size w w' := by
  subst hB; exact refhas_any s k w (by omega) (by omega) hs

theorem ex_text : bytesTo (ofS 97 99) 256 = [97, 98, 99] := by decide +kernel
theorem ex_count : cnt (notS (ofS 97 99)) 256 = 253 := by decide +kernel
theorem ex_texts : ∀ i, i < 4 → textS [99, 97, 98] i = ofS 97 99 i := by decide +kernel
theorem ex_low : ∀ b, b < 97 → hasS (ofS 97 99) b = false := by decide +kernel
theorem ex_hit : hasS (ofS 97 99) 97 = true := by decide +kernel
theorem ex_98 : hasS (ofS 97 99) 98 = true := by decide +kernel

theorem text_abc (w : World) (hT : TabIn w) :
    Calls Tryd.prog 14 #[setV (ofS 97 99)] w fun e w' => e = .returned (.string { data := #[97, 98, 99] }) ∧ Below w.heap.size w w' := text_lit (ofS 97 99) [97, 98, 99] w (ofIn _ _) hT ex_text

theorem texts_cab (w : World) :
    Calls Tryd.prog 17 #[.string { data := #[99, 97, 98] }] w fun e w' => e = .returned (setV (textS [99, 97, 98])) ∧ Below w.heap.size w w' := texts_any { data := #[99, 97, 98] } w (by decide)

set_option maxHeartbeats 4000000 in
set_option maxRecDepth 100000 in
theorem csworks_any (w : World) (hT : TabIn w) : Calls Tryd.prog 13 #[] w fun e w' => e = .returned (.bool true) ∧ Below w.heap.size w w' := by
  have HT := Lib.hid hT
  clear hT
  go_enter Tryd.func13, Tryd.ntmps13
  go_wp2_with fail
  refine (of_any 97 99 _ (by decide) (by decide)).mono ?_
  rintro e w1 ⟨rfl, b1⟩
  go_wp2_with fail
  have F1 := Four.new w1 (ofS 97 99) 24
  have B2 : Below w.heap.size w (w1.alloc (.cells #[.int .u64 (ofS 97 99 0), .int .u64 (ofS 97 99 1), .int .u64 (ofS 97 99 2), .int .u64 (ofS 97 99 3)] 24)) := b1.alloc b1.size _
  have T2 := HT.out.below B2
  have hz : w1.heap.size < (w1.alloc (.cells #[.int .u64 (ofS 97 99 0), .int .u64 (ofS 97 99 1), .int .u64 (ofS 97 99 2), .int .u64 (ofS 97 99 3)] 24)).heap.size := by simp
  generalize hw2 : w1.alloc (.cells #[.int .u64 (ofS 97 99 0), .int .u64 (ofS 97 99 1), .int .u64 (ofS 97 99 2), .int .u64 (ofS 97 99 3)] 24) = w2 at *
  clear hw2
  have T3 : ∀ d os, TabIn (Sort.grow (redrawn w2 d) os) := fun d os => T2.below (below_regrown w2 d os)
  have HT3 := Lib.hid T3
  have c0 := reg1 F1 0 (by omega) hz
  have c1 := reg1 F1 1 (by omega) hz
  have c2 := reg1 F1 2 (by omega) hz
  have c3 := reg1 F1 3 (by omega) hz
  have heq := run_eq_set (textS [99, 97, 98]) (ofS 97 99) true ⟨fun _ => ex_texts, fun _ => rfl⟩
  clear T3 T2 F1 b1
  refine wp_region_quiet_below (by kernel_rfl) (by kernel_rfl) ?_
  repeat (go_big_quiet_step (fail))
  go_big_quiet_step ((go_at_call 14; exact Calls.regrown_of (text_abc _ (HT3.out _ _))))
  repeat (go_big_quiet_step (fail))
  go_big_quiet_step ((go_at_call 9; exact Calls.regrown_of (not_any (ofS 97 99) _ (ofIn _ _))))
  repeat (go_big_quiet_step (fail))
  go_big_quiet_step ((go_at_call 15; exact Calls.regrown_of (count_lit (notS (ofS 97 99)) 253 _ (notIn (ofIn _ _)) ex_count)))
  repeat (go_big_quiet_step (fail))
  go_big_quiet_step ((go_at_call 16; exact Calls.regrown_of (first_yes (ofS 97 99) 97 _ (ofIn _ _) (by decide) ex_hit ex_low (HT3.out _ _))))
  repeat (go_big_quiet_step (fail))
  go_big_quiet_step ((go_at_call 12; exact Calls.regrown_of (has_lit (ofS 97 99) 98 true _ (by decide) (ofIn _ _) ex_98)))
  repeat (go_big_quiet_step (fail))
  go_big_quiet_step ((go_at_call 17; exact Calls.regrown_of (texts_cab _)))
  repeat (go_big_quiet_step (fail))
  go_big_quiet_step ((go_at_call 16; exact Calls.regrown_of (first_no noneS _ noneIn (fun b _ => has_none b))))
  repeat (go_big_quiet_step (fail))
  refine wpQuiet_nil ?_
  intro _ hw'
  obtain ⟨⟨dq, osq⟩, hw''⟩ := hw'
  subst hw''
  have bb : Below w2.heap.size w2 (Sort.grow (redrawn w2 dq) osq) := below_regrown w2 dq osq
  have hB4 : Below w.heap.size w (Sort.grow (redrawn w2 dq) osq) := B2.trans (bb.mono B2.size)
  generalize Sort.grow (redrawn w2 dq) osq = w4 at *
  clear c0 c1 c2 c3 heq
  go_wp2_with fail
  go_ret
  exact ⟨rfl, hB4⟩
end Go.Proofs.YtifokkclkmdclaaDoor
