/-
  The examples of the chapter: they hold. Conditions: the tables of unicode/utf8 lie as laid.
-/
import Derived.Test.YtgdfklgbdfpinaaDoorLbParse
import Derived.Test.YtgdfklgbdfpinaaDoorLbRefOf2
import Derived.Test.YtgdfklgbdfpinaaDoorLbText2
namespace Go.Proofs.YtgdfklgbdfpinaaDoor
set_option linter.unusedVariables false
set_option linter.unusedSimpArgs false
open Go.RowKit Go.Sort

abbrev exL : List Lab := [(⟨#[97]⟩, ⟨#[49]⟩), (⟨#[98]⟩, ⟨#[]⟩)]
abbrev exT : ByteArray := ⟨#[123, 97, 61, 34, 49, 34, 44, 32, 98, 61, 34, 34, 125]⟩
theorem work_parse : parseR exT = (exL, 0, 0) := by kernel_rfl
theorem work_text : txt (ltext exL) = exT := by kernel_rfl
theorem work_of : ofErr exL = 0 := by kernel_rfl
theorem work_right : rightE exL = 2 := by kernel_rfl
theorem work_get : getL exL ⟨#[97]⟩ = ⟨#[49]⟩ := by kernel_rfl
theorem work_isOf : IsOf exL [(⟨#[97]⟩, ⟨#[49]⟩)] := ⟨List.pairwise_singleton _ _, fun x => by
  constructor
  · intro h
    obtain rfl := List.mem_singleton.1 h
    exact ⟨by simp, by decide⟩
  · rintro ⟨h, h2⟩
    rcases List.mem_cons.1 h with rfl | h
    · simp
    · obtain rfl := List.mem_singleton.1 h
      exact absurd rfl h2⟩
theorem exL_small : Small exL := ⟨by decide, fun x hx => by
  rcases List.mem_cons.1 hx with rfl | h
  · decide
  · obtain rfl := List.mem_singleton.1 h
    decide⟩
theorem Small.max {l : List Lab} (h : Small l) : ∀ x ∈ l, x.1.size ≤ maxLen ∧ x.2.size ≤ maxLen := fun x hx => by
  have := h.2 x hx
  unfold maxLen
  omega
theorem exL_lies (w : World) : IsLab (w.alloc (.cells #[.string ⟨#[97]⟩, .string ⟨#[49]⟩, .string ⟨#[98]⟩, .string ⟨#[]⟩] 42)) (w.heap.size + 1) (some ⟨w.heap.size, 0, none⟩) exL := by
  have hB := Blk.new w 42 #[.string ⟨#[97]⟩, .string ⟨#[49]⟩, .string ⟨#[98]⟩, .string ⟨#[]⟩]
  refine .inr ⟨_, 0, rfl, by omega, fun j x hj => ?_⟩
  match j, hj with
  | 0, hj => obtain rfl := Option.some.inj hj; exact ⟨hB.cell 0, hB.cell 1⟩
  | 1, hj => obtain rfl := Option.some.inj hj; exact ⟨hB.cell 2, hB.cell 3⟩
  | j + 2, hj => simp at hj

set_option maxHeartbeats 4000000 in
set_option maxRecDepth 1000000 in
theorem works_any (w : World) (hT : Lib.Utf8Tabs 0 1 w) :
    Calls Tryd.prog 8 #[] w fun e w' => e = .returned (.bool true) ∧ Below w.heap.size w w' := by
  have HT := Lib.hid hT
  have hL := exL_lies w
  have hb := (Below.refl w.heap.size w).alloc (Nat.le_refl _) (.cells #[.string ⟨#[97]⟩, .string ⟨#[49]⟩, .string ⟨#[98]⟩, .string ⟨#[]⟩] 42)
  have hz : (w.alloc (.cells #[.string ⟨#[97]⟩, .string ⟨#[49]⟩, .string ⟨#[98]⟩, .string ⟨#[]⟩] 42)).heap.size = w.heap.size + 1 := by simp
  have H := Lib.hid (And.intro hL (And.intro hb hz))
  clear hT hL hb hz
  go_enter Tryd.func8, Tryd.ntmps8
  go_wp2_with fail
  generalize w.alloc (.cells #[.string ⟨#[97]⟩, .string ⟨#[49]⟩, .string ⟨#[98]⟩, .string ⟨#[]⟩] 42) = w1 at *
  obtain ⟨hL1, b1, hz1⟩ := H.out
  rw [← hz1] at hL1
  refine (of_any (some ⟨w.heap.size, 0, none⟩) 2 exL w1 hL1 (by decide) exL_small.max).mono ?_
  rintro r w2 ⟨A2, c2, out, rfl, -, hof, -, b2⟩
  obtain rfl := (hof work_of).unique work_isOf
  rw [work_of]
  have hL2 := hL1.below b2 b2.size
  have B2 := b1.trans (b2.mono b1.size)
  have H2 := Lib.hid (And.intro hL2 B2)
  clear H hL1 b1 hz1 b2 hof hL2 B2
  go_wp2_with fail
  have hp := parse_any exT w2 (by decide) (Utf8Tabs_below HT.out H2.out.2)
  refine hp.mono ?_
  rintro r w3 ⟨A3, c3, rfl, hl3, b3⟩
  rw [work_parse] at hl3 ⊢
  simp only [fltV]
  have hL3 := H2.out.1.below b3 b3.size
  have B3 := H2.out.2.trans (b3.mono H2.out.2.size)
  have hB3 := Blk.new w3 33 #[.int .i64 0, .int .i64 0]
  have hal := (Below.refl w3.heap.size w3).alloc (Nat.le_refl _) (.cells #[.int .i64 0, .int .i64 0] 33)
  have H3 := Lib.hid (And.intro (hL3.below hal hal.size) (And.intro (hl3.below hal hal.size) (And.intro (B3.trans (hal.mono B3.size)) hB3)))
  clear hp b3 H2 hl3 hL3 B3 hB3 hal
  go_wp2_with fail
  generalize w3.alloc (.cells #[.int .i64 0, .int .i64 0] 33) = w4 at *
  refine (ltext_any (some ⟨w.heap.size, 0, none⟩) 2 exL w4 H3.out.1 exL_small (Utf8Tabs_below HT.out H3.out.2.2.1)).mono ?_
  rintro r w5 ⟨rfl, b5⟩
  rw [work_text]
  have H5 := Lib.hid (And.intro (H3.out.1.below b5 b5.size) (And.intro (H3.out.2.1.below b5 b5.size) (And.intro (H3.out.2.2.1.trans (b5.mono H3.out.2.2.1.size)) (H3.out.2.2.2.below b5 H3.out.2.2.2.lt))))
  clear H3 b5
  go_wp2_with fail
  refine (same_any A3 (some ⟨w.heap.size, 0, none⟩) c3 2 exL exL w5 H5.out.2.1 H5.out.1 (by decide) (by decide)).mono ?_
  rintro r w6 ⟨rfl, b6⟩
  rw [decide_eq_true rfl]
  have H6 := Lib.hid (And.intro (H5.out.1.below b6 b6.size) (And.intro (H5.out.2.2.1.trans (b6.mono H5.out.2.2.1.size)) (H5.out.2.2.2.below b6 H5.out.2.2.2.lt)))
  clear H5 b6
  obtain ⟨⟨y0, y1⟩, -⟩ := H6.out.2.2.c2
  go_wp2_with fail
  refine (right_any (some ⟨w.heap.size, 0, none⟩) 2 exL w6 H6.out.1 (by decide) exL_small.max).mono ?_
  rintro r w7 ⟨rfl, b7⟩
  rw [work_right]
  have H7 := Lib.hid (And.intro (H6.out.1.below b7 b7.size) (H6.out.2.1.trans (b7.mono H6.out.2.1.size)))
  clear H6 b7 y0 y1
  go_wp2_with fail
  refine (get_any (some ⟨w.heap.size, 0, none⟩) 2 exL ⟨#[97]⟩ w7 H7.out.1 (by decide)).mono ?_
  rintro r w8 ⟨rfl, b8⟩
  rw [work_get]
  have B8 := H7.out.2.trans (b8.mono H7.out.2.size)
  clear H7 b8
  go_wp2_with fail
  go_ret
  exact ⟨rfl, B8⟩
end Go.Proofs.YtgdfklgbdfpinaaDoor
