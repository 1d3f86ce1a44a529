/-
  The walk of works (46), and RateNone. Conditions: none but that texts are no longer than they can be.
-/
import Derived.Test.YtikpbhfjmlfooaaRtNew
namespace Go.Proofs.Ytikpbhfjmlfooaa
set_option linter.unusedVariables false
set_option linter.unusedSimpArgs false
open Go.RowKit Go.Maps Go.Sort

theorem rtake_lit (rp mc mb n k : Nat) (g : ByteArray → Option (Int × Int)) (f f' : ByteArray → ByteArray → Option Bkt) (bg : Int) (t c : ByteArray) (now E : Int) (w : World) (h : RatesAt rp mc mb n k g f bg w) (ht : t.size ≤ maxLen) (hc : c.size ≤ maxLen) (hk : k < 1000000)
    (hE : takeE g (bktOf g f bg t c) c now = E) (hF : takeF g f bg t c now = f') :
    Calls Try.prog 38 #[.pointer (some ⟨rp, 0, none⟩), .string t, .string c, .int .i64 now] w fun e w' => e = .returned (.int .i64 E) ∧ RatesAt rp mc mb n (k + 1) g f' bg w' ∧ Only [mb] w w' := by
  rw [← hE, ← hF]; exact rtake_any rp mc mb n k g f bg t c now w h ht hc hk
theorem rleft_lit (rp mc mb n k : Nat) (g : ByteArray → Option (Int × Int)) (f : ByteArray → ByteArray → Option Bkt) (bg : Int) (t c : ByteArray) (now E : Int) (w : World) (h : RatesAt rp mc mb n k g f bg w) (ht : t.size ≤ maxLen) (hc : c.size ≤ maxLen)
    (hE : leftOf (bktOf g f bg t c) now = E) :
    Calls Try.prog 37 #[.pointer (some ⟨rp, 0, none⟩), .string t, .string c, .int .i64 now] w fun e w' => e = .returned (.int .i64 E) ∧ Below w.heap.size w w' := by
  rw [← hE]; exact rleft_any rp mc mb n k g f bg t c now w h ht hc

def gold : ByteArray := ⟨#[103, 111, 108, 100]⟩
def tA : ByteArray := ⟨#[97]⟩
def tB : ByteArray := ⟨#[98]⟩
def cX : ByteArray := ⟨#[120]⟩
def one : List Cls := [(gold, 1, 1)]
theorem gold_x : cX ≠ gold := fun h => by have := congrArg ByteArray.size h; revert this; decide
theorem tb_ta : tB ≠ tA := fun h => by
  have : tB.data.toList = tA.data.toList := by rw [h]
  revert this; decide
theorem one_gold : clsG one gold = some (1, 1) := by simp [clsG, one]
theorem one_x : clsG one cX = none := by
  have h : ¬ gold = cX := fun e => gold_x e.symm
  simp [clsG, one, h]
theorem one_check : checkE one = 0 := by
  have hw : wordB gold = true := by decide
  have ht : timeB 1 = true := by decide
  simp [checkE, one, checkFrom, stepE, hw, ht, anyName]
def f1 : ByteArray → ByteArray → Option Bkt := fset (fun _ _ => none) tA gold (1, 1, 0, 0)
def f2 : ByteArray → ByteArray → Option Bkt := fset f1 tA gold (1, 1, 0, 1)
def f3 : ByteArray → ByteArray → Option Bkt := fset f2 tA gold (1, 1, 0, 1)
theorem fset_same (f : ByteArray → ByteArray → Option Bkt) (t c : ByteArray) (b : Bkt) : fset f t c b t c = some b := by simp [fset]
theorem wb0 : bktOf (clsG one) (fun _ _ => none) 0 tA gold = (1, 1, 0, 0) := by simp [bktOf, one_gold]
theorem wb1 : bktOf (clsG one) f1 0 tA gold = (1, 1, 0, 0) := by simp [bktOf, one_gold, f1, fset_same]
theorem wb2 : bktOf (clsG one) f2 0 tA gold = (1, 1, 0, 1) := by simp [bktOf, one_gold, f2, fset_same]
theorem wb3 : bktOf (clsG one) f3 0 tB gold = (1, 1, 0, 0) := by simp [bktOf, one_gold, f3, f2, f1, fset, tb_ta]
theorem we0 : takeE (clsG one) (bktOf (clsG one) (fun _ _ => none) 0 tA gold) gold 0 = 17 ∧ takeF (clsG one) (fun _ _ => none) 0 tA gold 0 = f1 := by
  have h1 : takenOf (1, 1, 0, 0) 0 = false := by decide
  have h2 : takeOf (1, 1, 0, 0) 0 = (1, 1, 0, 0) := by decide
  rw [takeF, wb0, h2]
  exact ⟨by simp [takeE, one_gold, h1], by simp [one_gold, f1]⟩
theorem we1 : takeE (clsG one) (bktOf (clsG one) f1 0 tA gold) gold 1 = 0 ∧ takeF (clsG one) f1 0 tA gold 1 = f2 := by
  have h1 : takenOf (1, 1, 0, 0) 1 = true := by decide
  have h2 : takeOf (1, 1, 0, 0) 1 = (1, 1, 0, 1) := by decide
  rw [takeF, wb1, h2]
  exact ⟨by simp [takeE, one_gold, h1], by simp [one_gold, f2]⟩
theorem we2 : takeE (clsG one) (bktOf (clsG one) f2 0 tA gold) gold 1 = 17 ∧ takeF (clsG one) f2 0 tA gold 1 = f3 := by
  have h1 : takenOf (1, 1, 0, 1) 1 = false := by decide
  have h2 : takeOf (1, 1, 0, 1) 1 = (1, 1, 0, 1) := by decide
  rw [takeF, wb2, h2]
  exact ⟨by simp [takeE, one_gold, h1], by simp [one_gold, f3]⟩
theorem we3 : takeE (clsG one) (bktOf (clsG one) f3 0 tA cX) cX 1 = 6 ∧ takeF (clsG one) f3 0 tA cX 1 = f3 := by
  exact ⟨by simp [takeE, one_x], by simp [takeF, one_x]⟩
theorem we4 : leftOf (bktOf (clsG one) f3 0 tB gold) 5 = 1 := by rw [wb3]; decide

theorem isCls_one (w : World) : IsCls (w.alloc (.cells #[.string gold, .int .i64 1, .int .i64 1] 31)) (w.alloc (.cells #[.string gold, .int .i64 1, .int .i64 1] 31)).heap.size (some ⟨w.heap.size, 0, none⟩) one := by
  refine ⟨.inr ⟨w.heap.size, 0, rfl, by simp, fun j x hj => ?_⟩, fun x hx => ?_⟩
  · rcases j with _ | j
    · simp [one] at hj
      subst hj
      exact ⟨newB w _ _ 0, newB w _ _ 1, newB w _ _ 2⟩
    · simp [one] at hj
  · simp [one] at hx
    subst hx
    exact ⟨by decide, rfl, rfl⟩
theorem short (s : ByteArray) (h : s.size ≤ 100) : s.size ≤ maxLen := by unfold maxLen; omega

set_option maxRecDepth 100000 in
set_option maxHeartbeats 2000000 in
theorem rworks_any (w : World) : Calls Try.prog 31 #[] w fun e w' => e = .returned (.bool true) ∧ Below w.heap.size w w' := by
  go_enter Try.func31, Try.ntmps31
  go_wp2_with fail
  refine (rnew_any (some ⟨w.heap.size, 0, none⟩) 1 one 0 _ (isCls_one w) one_check (by decide)).mono ?_
  rintro e w1 ⟨rp, mc, mb, rfl, l1, l2, l3, hr, hb⟩
  simp at l1 l2 l3
  have b1 : Below w.heap.size w w1 := ((Below.refl _ _).alloc (Nat.le_refl _) _).trans (hb.mono (by simp))
  have H1 := Lib.hid (And.intro hr b1)
  clear hr b1 hb
  go_wp2_with fail
  refine (rtake_lit rp mc mb 1 0 (clsG one) (fun _ _ => none) f1 0 tA gold 0 17 w1 H1.out.1 (short _ (by decide)) (short _ (by decide)) (by omega) we0.1 we0.2).mono ?_
  rintro e w2 ⟨rfl, hr, ho⟩
  have H2 := Lib.hid (And.intro hr (H1.out.2.trans (ho.below H1.out.2.size (by simp; omega))))
  clear H1 hr ho
  go_wp2_with fail
  refine (rtake_lit rp mc mb 1 1 (clsG one) f1 f2 0 tA gold 1 0 w2 H2.out.1 (short _ (by decide)) (short _ (by decide)) (by omega) we1.1 we1.2).mono ?_
  rintro e w3 ⟨rfl, hr, ho⟩
  have H3 := Lib.hid (And.intro hr (H2.out.2.trans (ho.below H2.out.2.size (by simp; omega))))
  clear H2 hr ho
  go_wp2_with fail
  refine (rtake_lit rp mc mb 1 2 (clsG one) f2 f3 0 tA gold 1 17 w3 H3.out.1 (short _ (by decide)) (short _ (by decide)) (by omega) we2.1 we2.2).mono ?_
  rintro e w4 ⟨rfl, hr, ho⟩
  have H4 := Lib.hid (And.intro hr (H3.out.2.trans (ho.below H3.out.2.size (by simp; omega))))
  clear H3 hr ho
  go_wp2_with fail
  refine (rtake_lit rp mc mb 1 3 (clsG one) f3 f3 0 tA cX 1 6 w4 H4.out.1 (short _ (by decide)) (short _ (by decide)) (by omega) we3.1 we3.2).mono ?_
  rintro e w5 ⟨rfl, hr, ho⟩
  have H5 := Lib.hid (And.intro hr (H4.out.2.trans (ho.below H4.out.2.size (by simp; omega))))
  clear H4 hr ho
  go_wp2_with fail
  refine (rleft_lit rp mc mb 1 4 (clsG one) f3 0 tB gold 5 1 w5 H5.out.1 (short _ (by decide)) (short _ (by decide)) we4).mono ?_
  rintro e w6 ⟨rfl, hb⟩
  go_wp2_with fail
  go_ret
  exact ⟨rfl, H5.out.2.trans (hb.mono H5.out.2.size)⟩
end Go.Proofs.Ytikpbhfjmlfooaa
