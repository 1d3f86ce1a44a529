/-
  The walk of the law QuoteBack: it returns true. Conditions: the tables of unicode/utf8 lie as laid.
-/
import Derived.Test.YtjglnpoeddopjaaDoorQuOpen
import Derived.Test.YtjglnpoeddopjaaDoorQuBack
namespace Go.Proofs.YtjglnpoeddopjaaDoor
set_option linter.unusedVariables false
open Go.RowKit Go.Sort

set_option maxHeartbeats 4000000 in
set_option maxRecDepth 1000000 in
theorem law_back (a s b : ByteArray) (w : World) (hT : Lib.Utf8Tabs 0 1 w) :
    Calls Tryd.prog 5 #[.string a, .string s, .string b] w fun e w' => e = .returned (.bool true) ∧ Below w.heap.size w w' := by
  have HT := Lib.hid hT
  clear hT
  go_enter Tryd.func5, Tryd.ntmps5
  by_cases hbig : 100 < a.size ∨ 500 < s.size ∨ 100 < b.size
  · by_cases h1 : 100 < (a.size : Int)
    · go_wp2_with (go_at_call 7; refine (works_any _ HT.out).mono ?_)
      first | (rintro _ w1 rfl b1) | (rintro _ w1 ⟨rfl, b1⟩)
      have B1 := Lib.hid b1
      clear b1
      go_wp2_with fail
      go_ret
      exact ⟨rfl, B1.out⟩
    · by_cases h2 : 500 < (s.size : Int)
      · go_wp2_with (go_at_call 7; refine (works_any _ HT.out).mono ?_)
        first | (rintro _ w1 rfl b1) | (rintro _ w1 ⟨rfl, b1⟩)
        have B1 := Lib.hid b1
        clear b1
        go_wp2_with fail
        go_ret
        exact ⟨rfl, B1.out⟩
      · have h3 : 100 < (b.size : Int) := by omega
        go_wp2_with (go_at_call 7; refine (works_any _ HT.out).mono ?_)
        first | (rintro _ w1 rfl b1) | (rintro _ w1 ⟨rfl, b1⟩)
        have B1 := Lib.hid b1
        clear b1
        go_wp2_with fail
        go_ret
        exact ⟨rfl, B1.out⟩
  · have h1 : ¬ 100 < (a.size : Int) := by omega
    have h2 : ¬ 500 < (s.size : Int) := by omega
    have h3 : ¬ 100 < (b.size : Int) := by omega
    have hs1 : s.size ≤ 1000000 := by omega
    have hql := qtext_len s
    have hqs : (txt (qtext s)).size = (qtext s).length := txt_size _
    have HR := Lib.hid (read_back a s b)
    have hS : (a ++ txt (qtext s) ++ b).size ≤ 1000000 := by rw [ByteArray.size_append, ByteArray.size_append, hqs]; omega
    have hq3 : (txt (qtext s)).size ≤ 2002 := by omega
    clear hbig
    go_wp2_with (go_at_call 8; refine (text_any s _ hs1 HT.out).mono ?_)
    first | (rintro _ w1 rfl b1) | (rintro _ w1 ⟨rfl, b1⟩)
    have B1 := Lib.hid b1
    clear b1
    go_wp2_with (go_at_call 12; refine (read_any (a ++ txt (qtext s) ++ b) (a.size : Int) _ hS (Utf8Tabs_below HT.out B1.out)).mono ?_)
    first | (rintro _ w2 rfl b2) | (rintro _ w2 ⟨rfl, b2⟩)
    rw [HR.out]
    simp only [rdV]
    have B2 := Lib.hid (B1.out.trans (b2.mono B1.out.size))
    have hB : Blk (w2.alloc (.cells #[.int .i64 (0 : Nat), .int .i64 (0 : Nat)] 28)) w2.heap.size 28 #[.int .i64 (0 : Nat), .int .i64 (0 : Nat)] := Blk.new w2 28 _
    clear b2
    have s1 := txt_data s
    go_wp2_with (go_at_call 7; refine (works_any _ (Utf8Tabs_below HT.out (B2.out.alloc B2.out.size _))).mono ?_)
    first | (rintro _ w5 rfl b5) | (rintro _ w5 ⟨rfl, b5⟩)
    have B5 := Lib.hid ((B2.out.alloc B2.out.size _).trans (b5.mono (B2.out.alloc B2.out.size _).size))
    clear b5
    go_wp2_with fail
    go_ret
    exact ⟨rfl, B5.out⟩
theorem quoteBackW.walk (a s b : ByteArray) (W : World) (_ha : a.size ≤ maxLen) (_hs : s.size ≤ maxLen) (_hb : b.size ≤ maxLen) (hL : laidMet Tryd.prog Rows.quoteBackRow.laid W) :
    Calls Tryd.prog 5 #[.string a, .string s, .string b] W fun e w' => e = .returned (.bool true) ∧ Below W.heap.size W w' :=
  law_back a s b W (tabs_in hL rfl)
end Go.Proofs.YtjglnpoeddopjaaDoor
