/-
  The tables of unicode/utf8, from the row's condition; the laws at their rows. Conditions: none but what each says.
-/
import Derived.Test.YtjglnpoeddopjaaDoorQuWorks
import Derived.Test.YtjglnpoeddopjaaDoorRows
import Derived.Lib.LaidU8
namespace Go.Proofs.YtjglnpoeddopjaaDoor
set_option linter.unusedVariables false
open Go.RowKit Go.Sort

theorem u8extra : U8Extra Tryd.prog lays260_ren := {
  n3 := by kernel_rfl
  n4 := by kernel_rfl
  y3 := by kernel_rfl
  y4 := by kernel_rfl
  c5 := by kernel_rfl
  c119 := by kernel_rfl
  c138 := by kernel_rfl }
theorem first_same : Rows.laid_unicode_utf8_first = Lib.firstData := by kernel_rfl
theorem accept_same : (Rows.laid_unicode_utf8_acceptRanges : DataW Unit) = Lib.acceptData := by kernel_rfl
theorem tabs_in {W : World} {l : List (String × DataW Unit)} (h : laidMet Tryd.prog l W) (hl : l = [("unicode/utf8.acceptRanges", Rows.laid_unicode_utf8_acceptRanges), ("unicode/utf8.first", Rows.laid_unicode_utf8_first)]) : Lib.Utf8Tabs 0 1 W := by
  subst hl
  have h3 := Lib.laidMet.reads h (n := "unicode/utf8.first") (d := Rows.laid_unicode_utf8_first) (by simp)
  have h4 := Lib.laidMet.reads h (n := "unicode/utf8.acceptRanges") (d := Rows.laid_unicode_utf8_acceptRanges) (by simp)
  rw [first_same] at h3
  rw [accept_same] at h4
  exact utf8Tabs_of_reads lays260 u8extra h3 h4

theorem quoteTextsW.walk (s : ByteArray) (q : Int) (W : World) (hs : s.size ≤ maxLen) (_w : (Lit.int .i64 q).wf = true) (hL : laidMet Tryd.prog Rows.quoteTextsRow.laid W) :
    Calls Tryd.prog 3 #[.string s, .int .i64 q] W fun e w' => e = .returned (.bool true) ∧ Below W.heap.size W w' :=
  law_texts s q W hs (tabs_in hL rfl)
theorem quoteReadsW.walk (s : ByteArray) (q : Int) (W : World) (hs : s.size ≤ maxLen) (_w : (Lit.int .i64 q).wf = true) (hL : laidMet Tryd.prog Rows.quoteReadsRow.laid W) :
    Calls Tryd.prog 4 #[.string s, .int .i64 q] W fun e w' => e = .returned (.bool true) ∧ Below W.heap.size W w' :=
  law_reads s q W hs (tabs_in hL rfl)
end Go.Proofs.YtjglnpoeddopjaaDoor
