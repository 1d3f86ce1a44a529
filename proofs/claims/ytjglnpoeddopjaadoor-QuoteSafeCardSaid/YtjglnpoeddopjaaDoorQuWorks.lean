/-
  The examples of the chapter: they hold. Conditions: the tables of unicode/utf8 lie as laid.
-/
import Derived.Test.YtjglnpoeddopjaaDoorQuRead2
namespace Go.Proofs.YtjglnpoeddopjaaDoor
set_option linter.unusedVariables false
open Go.RowKit Go.Sort

theorem work_read : readAt ⟨#[34, 92, 120, 52, 49, 34]⟩ 0 = ([65], 6, 0, 0) := by decide
theorem work_text : qtext ⟨#[34, 255]⟩ = [34, 92, 34, 92, 120, 102, 102, 34] := by decide
theorem work_unit : unitI ⟨#[195, 169]⟩ 0 = 2 := by decide

set_option maxHeartbeats 4000000 in
set_option maxRecDepth 1000000 in
theorem works_any (w : World) (hT : Lib.Utf8Tabs 0 1 w) :
    Calls Tryd.prog 7 #[] w fun e w' => e = .returned (.bool true) ∧ Below w.heap.size w w' := by
  have HT := Lib.hid hT
  have W1 := Lib.hid work_read
  have W2 := Lib.hid work_text
  have W3 := Lib.hid work_unit
  clear hT
  go_enter Tryd.func7, Tryd.ntmps7
  go_wp2_with (go_at_call 12; refine (read_any ⟨#[34, 92, 120, 52, 49, 34]⟩ 0 _ (by decide) HT.out).mono ?_)
  first | (rintro e w1 rfl b1) | (rintro e w1 ⟨rfl, b1⟩)
  rw [W1.out]
  simp only [rdV]
  go_wp2_with fail
  have hbw : Below w.heap.size w (w1.alloc (.cells #[.int .i64 0, .int .i64 0] 28)) := b1.alloc b1.size _
  have hB : Blk (w1.alloc (.cells #[.int .i64 0, .int .i64 0] 28)) w1.heap.size 28 #[.int .i64 0, .int .i64 0] := Blk.new w1 28 _
  generalize w1.alloc (.cells #[.int .i64 0, .int .i64 0] 28) = w2 at *
  refine (text_any ⟨#[34, 255]⟩ _ (by decide) (Utf8Tabs_below HT.out hbw)).mono ?_
  first | (rintro e w3 rfl b3) | (rintro e w3 ⟨rfl, b3⟩)
  rw [W2.out]
  have hB3 := hB.below b3 hB.lt
  have hbw3 := hbw.trans (b3.mono hbw.size)
  have c0 := hB3.cell 0
  have c1 := hB3.cell 1
  have s1 := txt_toList [34, 92, 34, 92, 120, 102, 102, 34]
  have s2 := txt_toList [65]
  go_wp2_with (go_at_call 10; refine (unit_any ⟨#[195, 169]⟩ 0 _ (by decide) (Utf8Tabs_below HT.out hbw3)).mono ?_)
  first | (rintro e w4 rfl b4) | (rintro e w4 ⟨rfl, b4⟩)
  rw [W3.out]
  go_wp2_with fail
  go_ret
  exact ⟨rfl, hbw3.trans (b4.mono hbw3.size)⟩

set_option maxHeartbeats 4000000 in
set_option maxRecDepth 1000000 in
theorem law_texts (s : ByteArray) (q : Int) (w : World) (hs : s.size ≤ maxLen) (hT : Lib.Utf8Tabs 0 1 w) :
    Calls Tryd.prog 3 #[.string s, .int .i64 q] w fun e w' => e = .returned (.bool true) ∧ Below w.heap.size w w' := by
  have HT := Lib.hid hT
  clear hT
  go_enter Tryd.func3, Tryd.ntmps3
  by_cases h : 300 < s.size
  · have h' : 300 < (s.size : Int) := by omega
    go_wp2_with (go_at_call 7; refine (works_any _ HT.out).mono ?_)
    first | (rintro e w1 rfl b1) | (rintro e w1 ⟨rfl, b1⟩)
    go_wp2_with fail
    go_ret
    exact ⟨rfl, b1⟩
  · have h' : ¬ 300 < (s.size : Int) := by omega
    have hs1 : s.size ≤ 1000000 := by omega
    go_wp2_with (go_at_call 8; refine (text_any s _ hs1 HT.out).mono ?_)
    first | (rintro _ w1 rfl b1) | (rintro _ w1 ⟨rfl, b1⟩)
    have B1 := Lib.hid b1
    clear b1
    go_wp2_with fail
    refine (reftext_any s _ hs1).mono ?_
    first | (rintro _ w2 rfl b2) | (rintro _ w2 ⟨rfl, b2⟩)
    have hb2 := B1.out.trans (b2.mono B1.out.size)
    have s1 := txt_toList (qtext s)
    go_wp2_with (go_at_call 10; refine (unit_any s q _ hs (Utf8Tabs_below HT.out hb2)).mono ?_)
    first | (rintro e w3 rfl b3) | (rintro e w3 ⟨rfl, b3⟩)
    have hb3 := hb2.trans (b3.mono hb2.size)
    go_wp2_with (go_at_call 11; refine (refunit_any s q _ hs).mono ?_)
    first | (rintro e w' rfl e3) | (rintro e w' ⟨rfl, e3⟩)
    subst e3
    go_wp2_with (go_at_call 7; refine (works_any _ (Utf8Tabs_below HT.out hb3)).mono ?_)
    first | (rintro e w4 rfl b4) | (rintro e w4 ⟨rfl, b4⟩)
    go_wp2_with fail
    go_ret
    exact ⟨rfl, hb3.trans (b4.mono hb3.size)⟩

set_option maxHeartbeats 4000000 in
set_option maxRecDepth 1000000 in
theorem law_reads (s : ByteArray) (q : Int) (w : World) (hs : s.size ≤ maxLen) (hT : Lib.Utf8Tabs 0 1 w) :
    Calls Tryd.prog 4 #[.string s, .int .i64 q] w fun e w' => e = .returned (.bool true) ∧ Below w.heap.size w w' := by
  have HT := Lib.hid hT
  clear hT
  go_enter Tryd.func4, Tryd.ntmps4
  by_cases h : 300 < s.size
  · have h' : 300 < (s.size : Int) := by omega
    go_wp2_with (go_at_call 7; refine (works_any _ HT.out).mono ?_)
    first | (rintro e w1 rfl b1) | (rintro e w1 ⟨rfl, b1⟩)
    go_wp2_with fail
    go_ret
    exact ⟨rfl, b1⟩
  · have h' : ¬ 300 < (s.size : Int) := by omega
    have hs1 : s.size ≤ 1000000 := by omega
    obtain ⟨r, hr⟩ : ∃ r, readAt s q = r := ⟨_, rfl⟩
    obtain ⟨l, n, e, a⟩ := r
    have HR := Lib.hid hr
    clear hr
    go_wp2_with (go_at_call 12; refine (read_any s q _ hs1 HT.out).mono ?_)
    first | (rintro _ w1 rfl b1) | (rintro _ w1 ⟨rfl, b1⟩)
    rw [HR.out]
    simp only [rdV]
    have B1 := Lib.hid b1
    clear b1
    go_wp2_with fail
    have hbw : Below w.heap.size w (w1.alloc (.cells #[.int .i64 e, .int .i64 a] 28)) := B1.out.alloc B1.out.size _
    have hB : Blk (w1.alloc (.cells #[.int .i64 e, .int .i64 a] 28)) w1.heap.size 28 #[.int .i64 e, .int .i64 a] := Blk.new w1 28 _
    generalize w1.alloc (.cells #[.int .i64 e, .int .i64 a] 28) = w2 at *
    have HW := Lib.hid hbw
    have HBB := Lib.hid hB
    clear hbw hB
    refine (refread_any s q _ hs1).mono ?_
    first | (rintro _ w3 rfl b3) | (rintro _ w3 ⟨rfl, b3⟩)
    rw [HR.out]
    simp only [rdV]
    have hbw3 := HW.out.trans (b3.mono HW.out.size)
    have hB3 := HBB.out.below b3 HBB.out.lt
    have hB4 := hB3.alloc (.cells #[.int .i64 e, .int .i64 a] 28)
    have hx0 : (w3.alloc (.cells #[.int .i64 e, .int .i64 a] 28)).cell? ⟨w1.heap.size, 0, none⟩ = some (.int .i64 e) := hB4.cell 0
    have hx1 : (w3.alloc (.cells #[.int .i64 e, .int .i64 a] 28)).cell? ⟨w1.heap.size, 1, none⟩ = some (.int .i64 a) := hB4.cell 1
    have B3 := Lib.hid hbw3
    have s1 := txt_toList l
    clear b3 hbw3 hB3 hB4
    go_wp2_with fail
    have hbw4 := B3.out.alloc B3.out.size (.cells #[.int .i64 e, .int .i64 a] 28)
    refine (works_any _ (Utf8Tabs_below HT.out hbw4)).mono ?_
    first | (rintro _ w5 rfl b5) | (rintro _ w5 ⟨rfl, b5⟩)
    have B5 := Lib.hid (hbw4.trans (b5.mono hbw4.size))
    clear hbw4 b5
    go_wp2_with fail
    go_ret
    exact ⟨rfl, B5.out⟩
end Go.Proofs.YtjglnpoeddopjaaDoor
