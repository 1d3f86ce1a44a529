/-
  The contracts of First, Texts and Text of package charset. Conditions: the words fit; the library's table lies as laid.
-/
import Derived.Test.YtpknglbpbodnbaaDoorJCsCount
import Derived.Test.YtpknglbpbodnbaaDoorJKit
namespace Go.Proofs.YtpknglbpbodnbaaDoor
set_option linter.unusedVariables false
open Go.RowKit Go.Sort Cs

theorem word_zero (s : Nat → Int) (hs : SetIn s) (i : Nat) (h : ∀ j, j < 64 → hasS s (i * 64 + j) = false) : s i = 0 := by
  have e : (s i).toNat = 0 := by
    apply Nat.eq_of_testBit_eq
    intro k
    rw [Nat.zero_testBit]
    by_cases hk : k < 64
    · have := h k hk
      rw [has_bit s _ hs] at this
      have e1 : (i * 64 + k) / 64 = i := by omega
      have e2 : (i * 64 + k) % 64 = k := by omega
      rw [e1, e2] at this
      exact this
    · exact Nat.testBit_lt_two_pow (Nat.lt_of_lt_of_le (by have := hs i; omega) (Nat.pow_le_pow_right (by omega) (show 64 ≤ k by omega)))
  have := hs i
  omega

set_option maxHeartbeats 1000000 in
set_option maxRecDepth 100000 in
theorem first_no (s : Nat → Int) (w : World) (hs : SetIn s) (h : ∀ b, b < 256 → hasS s b = false) :
    Calls Tryd.prog 30 #[setV s] w fun e w' => e = .returned (.int .i64 (-1)) ∧ Below w.heap.size w w' := by
  unfold setV
  go_enter Tryd.func30, Tryd.ntmps30
  go_wp2_with fail
  go_loop [6] (fun c => ∃ k : Nat, k ≤ 4 ∧ c = .int .i64 k) (fun c => 4 - (intOf c).toNat)
  case atStart => exact ⟨0, by omega, rfl⟩
  case round =>
    obtain ⟨k, hk, rfl⟩ := hrel
    by_cases hlt : k < 4
    · have hidx := word_at s k hlt
      rw [word_zero s hs k (fun j hj => h _ (by omega))] at hidx
      go_wp2_with fail
      go_round
      case rel => exact ⟨k + 1, by omega, by simp⟩
      case measure => simp [intOf]; omega
    · have e : k = 4 := by omega
      subst e
      go_wp2_with fail
      go_ret
      exact ⟨rfl, (Below.refl _ _).alloc (Nat.le_refl _) _⟩

set_option maxHeartbeats 1000000 in
set_option maxRecDepth 100000 in
theorem first_yes (s : Nat → Int) (k : Nat) (w : World) (hs : SetIn s) (hk : k < 256) (hhit : hasS s k = true) (h : ∀ b, b < k → hasS s b = false) (hT : TabIn w) :
    Calls Tryd.prog 30 #[setV s] w fun e w' => e = .returned (.int .i64 k) ∧ Below w.heap.size w w' := by
  unfold setV
  have HH := Lib.hid h
  have HT := Lib.hid hT
  have HI := Lib.hid hhit
  clear h hT hhit
  go_enter Tryd.func30, Tryd.ntmps30
  go_wp2_with fail
  go_loop [6] (fun c => ∃ i : Nat, i * 64 ≤ k ∧ i < 4 ∧ c = .int .i64 i) (fun c => 4 - (intOf c).toNat)
  case atStart => exact ⟨0, by omega, by omega, rfl⟩
  case round =>
    obtain ⟨i, hi, hlt, rfl⟩ := hrel
    have hidx := word_at s i hlt
    by_cases hin : k < (i + 1) * 64
    · obtain ⟨x, hx⟩ := Int.eq_ofNat_of_zero_le (hs i).1
      have hx1 : x < 18446744073709551616 := by have := (hs i).2; omega
      obtain ⟨r, hr⟩ : ∃ r, k = i * 64 + r := ⟨k - i * 64, by omega⟩
      have hr64 : r < 64 := by omega
      have hb : ∀ j, j < 64 → hasS s (i * 64 + j) = x.testBit j := by
        intro j hj
        rw [has_bit s _ hs]
        have e1 : (i * 64 + j) / 64 = i := by omega
        have e2 : (i * 64 + j) % 64 = j := by omega
        rw [e1, e2, hx, Int.toNat_natCast]
      have hbit : x.testBit r = true := by rw [← hb r hr64, ← hr]; exact HI.out
      have hlow : ∀ j, j < r → x.testBit j = false := fun j hj => by rw [← hb j (by omega)]; exact HH.out _ (by omega)
      have hx0 : ((x : Int) != 0) = true := by
        have : x ≠ 0 := by rintro rfl; simp at hbit
        simp; omega
      rw [hx] at hidx
      have HB := Lib.hid hbit
      have HL := Lib.hid hlow
      have HR := Lib.hid (show (64 * (i : Int) + r) = k by omega)
      have hr5 : 64 * (i : Int) + r ≤ 255 := by omega
      clear hx hr hb hbit hlow
      go_wp2_with fail
      refine (tz_any x r _ hx1 HB.out HL.out (HT.out.below ((Below.refl _ _).alloc (Nat.le_refl _) _))).mono ?_
      rintro e w1 ⟨rfl, rfl⟩
      go_wp2_with fail
      go_ret
      exact ⟨ret_int HR.out, (Below.refl _ _).alloc (Nat.le_refl _) _⟩
    · rw [word_zero s hs i (fun j hj => HH.out _ (by omega))] at hidx
      go_wp2_with fail
      go_round
      case rel => exact ⟨i + 1, by omega, by omega, by simp⟩
      case measure => simp [intOf]; omega

/-- the bytes of n bytes of a text -/
def textS (l : List UInt8) : Nat → Int := l.foldl (fun t b => orS t (ofS b.toNat b.toNat)) noneS
theorem ofIn (lo hi : Nat) : SetIn (ofS lo hi) := spanIn _ _
theorem textS_snoc (l : List UInt8) (b : UInt8) : textS (l ++ [b]) = orS (textS l) (ofS b.toNat b.toNat) := by simp [textS]
theorem text_ind (P : List UInt8 → Prop) (h0 : P []) (h1 : ∀ l b, P l → P (l ++ [b])) (l : List UInt8) : P l := by
  have : ∀ n (l : List UInt8), l.length = n → P l := by
    intro n
    induction n with
    | zero => intro l hl; rw [List.eq_nil_of_length_eq_zero hl]; exact h0
    | succ n ih =>
      intro l hl
      have hne : l ≠ [] := fun e => by subst e; simp at hl
      rw [← List.dropLast_concat_getLast hne]
      exact h1 _ _ (ih _ (by simp [hl]))
  exact this _ l rfl
theorem textIn (l : List UInt8) : SetIn (textS l) := text_ind (fun l => SetIn (textS l)) noneIn (fun l b h => by rw [textS_snoc]; exact orIn h (ofIn _ _)) l
theorem has_text (l : List UInt8) (b : Nat) : hasS (textS l) b = l.any fun c => decide (c.toNat = b) := by
  refine text_ind (fun l => hasS (textS l) b = l.any fun c => decide (c.toNat = b)) ?_ (fun l c h => ?_) l
  · exact has_none b
  · rw [textS_snoc, has_or _ _ _ (textIn l) (ofIn _ _), h, has_of]
    simp
    have e : decide (c.toNat ≤ b ∧ b ≤ c.toNat) = decide (c.toNat = b) := by rw [decide_eq_decide]; omega
    rw [← e]
    simp
theorem take_snoc (s : ByteArray) (k : Nat) (h : k < s.size) : s.data.toList.take (k + 1) = s.data.toList.take k ++ [s[k]] := by
  rw [List.take_succ_eq_append_getElem (by simpa using h)]; rfl

end Go.Proofs.YtpknglbpbodnbaaDoor
