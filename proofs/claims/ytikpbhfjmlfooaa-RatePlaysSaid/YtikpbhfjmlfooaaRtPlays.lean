/-
  The walk of RatePlays. Conditions: the inputs are Go's.
-/
import Derived.Test.YtikpbhfjmlfooaaRtPlay
import Derived.Test.YtikpbhfjmlfooaaRtWinEnd
namespace Go.Proofs.Ytikpbhfjmlfooaa
set_option linter.unusedVariables false
set_option linter.unusedSimpArgs false
open Go.RowKit Go.Maps Go.Sort Go.ChangeShapes Go.WideShapes

theorem rplays_great (A LA : Option Addr) (len cap ll lcap : Nat) (now : Int) (w : World) (h : 12 < len ∨ 40 < ll) :
    Calls Try.prog 9 #[.slice A len cap, .int .i64 now, .slice LA ll lcap] w fun e w' => e = .returned (.bool true) ∧ Below w.heap.size w w' := by
  have q : decide (12 < (len : Int)) = true ∨ (decide (12 < (len : Int)) = false ∧ decide (40 < (ll : Int)) = true) := by
    by_cases h1 : 12 < len
    · exact .inl (decide_eq_true (by omega))
    · exact .inr ⟨decide_eq_false (by omega), decide_eq_true (by omega)⟩
  clear h
  rcases q with q | ⟨q, q'⟩
  all_goals
    go_enter Try.func9, Try.ntmps9
    go_wp2_with fail
    refine (rworks_any w).mono ?_
    rintro e w1 ⟨rfl, b1⟩
    go_wp2_with fail
    go_ret
    exact ⟨rfl, b1⟩
set_option maxRecDepth 100000 in
set_option maxHeartbeats 2000000 in
theorem rplays_bad (A LA : Option Addr) (cap ll lcap : Nat) (l : List Cls) (now E : Int) (w : World) (h : IsCls w w.heap.size A l) (h1 : l.length ≤ 12) (h2 : ll ≤ 40) (hE : checkE l = E) (h0 : E ≠ 0) :
    Calls Try.prog 9 #[.slice A l.length cap, .int .i64 now, .slice LA ll lcap] w fun e w' => e = .returned (.bool true) ∧ Below w.heap.size w w' := by
  have q1 : decide (12 < (l.length : Int)) = false := decide_eq_false (by omega)
  have q2 : decide (40 < (ll : Int)) = false := decide_eq_false (by omega)
  have q3 : (E == 0) = false := by simpa using h0
  have q5 : (E != 0) = true := by simp [bne, q3]
  have H := Lib.hid (And.intro h (And.intro hE h0))
  clear h hE
  go_enter Try.func9, Try.ntmps9
  go_wp2_with fail
  refine (rnew_bad A cap l now w E H.out.1 (by omega) H.out.2.1 H.out.2.2).mono ?_
  rintro e w1 ⟨rfl, b1⟩
  have B1 := Lib.hid b1
  have s1 := b1.size
  clear b1
  go_wp2_with fail
  refine (check_lit A cap l w1 E (H.out.1.below B1.out s1) (by omega) H.out.2.1).mono ?_
  rintro e w2 ⟨rfl, b2⟩
  have B2 := Lib.hid (B1.out.trans (b2.mono s1))
  have s2 : w.heap.size ≤ w2.heap.size := by have := b2.size; omega
  clear b2
  go_wp2_with fail
  refine (refcheck_lit A cap l w2 E (H.out.1.below B2.out s2) (by omega) H.out.2.1).mono ?_
  rintro e w3 ⟨rfl, b3⟩
  have B3 := Lib.hid (B2.out.trans (b3.mono s2))
  have s3 : w.heap.size ≤ w3.heap.size := by have := b3.size; omega
  clear b3
  go_wp2_with fail
  refine (refcheck_lit A cap l w3 E (H.out.1.below B3.out s3) (by omega) H.out.2.1).mono ?_
  rintro e w4 ⟨rfl, b4⟩
  have B4 := Lib.hid (B3.out.trans (b4.mono s3))
  have s4 : w.heap.size ≤ w4.heap.size := by have := b4.size; omega
  clear b4
  go_wp2_with fail
  refine (refcheck_lit A cap l w4 E (H.out.1.below B4.out s4) (by omega) H.out.2.1).mono ?_
  rintro e w5 ⟨rfl, b5⟩
  have B5 := Lib.hid (B4.out.trans (b5.mono s4))
  have s5 : w.heap.size ≤ w5.heap.size := by have := b5.size; omega
  clear b5
  go_wp2_with fail
  refine (rworks_any _).mono ?_
  rintro e w6 ⟨rfl, b6⟩
  go_wp2_with fail
  go_ret
  exact ⟨rfl, B5.out.trans (b6.mono s5)⟩
set_option maxRecDepth 100000 in
set_option maxHeartbeats 2000000 in
theorem rplays_late (A LA : Option Addr) (cap ll lcap : Nat) (l : List Cls) (now : Int) (w : World) (h : IsCls w w.heap.size A l) (h1 : l.length ≤ 12) (h2 : ll ≤ 40) (hE : checkE l = 0) (h0 : timeB now = false) :
    Calls Try.prog 9 #[.slice A l.length cap, .int .i64 now, .slice LA ll lcap] w fun e w' => e = .returned (.bool true) ∧ Below w.heap.size w w' := by
  have q1 : decide (12 < (l.length : Int)) = false := decide_eq_false (by omega)
  have q2 : decide (40 < (ll : Int)) = false := decide_eq_false (by omega)
  have q : decide (now < 0) = true ∨ (decide (now < 0) = false ∧ decide (1099511627776 < now) = true) := by
    rcases timeB_false h0 with h | h
    · exact .inl (decide_eq_true h)
    · exact .inr ⟨decide_eq_false (by omega), decide_eq_true h⟩
  have H := Lib.hid (And.intro h (And.intro hE h0))
  clear h hE h0
  rcases q with q | ⟨q, q'⟩
  all_goals
    go_enter Try.func9, Try.ntmps9
    go_wp2_with fail
    refine (rnew_late A cap l now w H.out.1 (by omega) H.out.2.1 H.out.2.2).mono ?_
    rintro e w1 ⟨rfl, b1⟩
    have B1 := Lib.hid b1
    have s1 := b1.size
    clear b1
    go_wp2_with fail
    refine (check_lit A cap l w1 0 (H.out.1.below B1.out s1) (by omega) H.out.2.1).mono ?_
    rintro e w2 ⟨rfl, b2⟩
    have B2 := Lib.hid (B1.out.trans (b2.mono s1))
    have s2 : w.heap.size ≤ w2.heap.size := by have := b2.size; omega
    clear b2
    go_wp2_with fail
    refine (refcheck_lit A cap l w2 0 (H.out.1.below B2.out s2) (by omega) H.out.2.1).mono ?_
    rintro e w3 ⟨rfl, b3⟩
    have B3 := Lib.hid (B2.out.trans (b3.mono s2))
    have s3 : w.heap.size ≤ w3.heap.size := by have := b3.size; omega
    clear b3
    go_wp2_with fail
    refine (refcheck_lit A cap l w3 0 (H.out.1.below B3.out s3) (by omega) H.out.2.1).mono ?_
    rintro e w4 ⟨rfl, b4⟩
    have B4 := Lib.hid (B3.out.trans (b4.mono s3))
    have s4 : w.heap.size ≤ w4.heap.size := by have := b4.size; omega
    clear b4
    go_wp2_with fail
    refine (refcheck_lit A cap l w4 0 (H.out.1.below B4.out s4) (by omega) H.out.2.1).mono ?_
    rintro e w5 ⟨rfl, b5⟩
    have B5 := Lib.hid (B4.out.trans (b5.mono s4))
    have s5 : w.heap.size ≤ w5.heap.size := by have := b5.size; omega
    clear b5
    go_wp2_with fail
    refine (refcheck_lit A cap l w5 0 (H.out.1.below B5.out s5) (by omega) H.out.2.1).mono ?_
    rintro e w6 ⟨rfl, b6⟩
    have B6 := Lib.hid (B5.out.trans (b6.mono s5))
    have s6 : w.heap.size ≤ w6.heap.size := by have := b6.size; omega
    clear b6
    go_wp2_with fail
    refine (rworks_any _).mono ?_
    rintro e w7 ⟨rfl, b7⟩
    go_wp2_with fail
    go_ret
    exact ⟨rfl, B6.out.trans (b7.mono s6)⟩
end Go.Proofs.Ytikpbhfjmlfooaa
