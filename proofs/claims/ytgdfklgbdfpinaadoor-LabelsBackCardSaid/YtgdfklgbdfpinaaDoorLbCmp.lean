/-
  The walks of cmp.Compare and of the reference's Compare on texts: both tell cmpS; what it says of the texts' order. Conditions: texts no longer than texts can be.
-/
import Derived.Test.YtgdfklgbdfpinaaDoorLbList
namespace Go.Proofs.YtgdfklgbdfpinaaDoor
set_option linter.unusedVariables false
set_option linter.unusedSimpArgs false
open Go.RowKit Go.Sort

theorem bytes_lt : ∀ (x y : List UInt8), Op.bytesLess x y = decide (x < y)
  | [], [] => by simp [Op.bytesLess]
  | _ :: _, [] => by simp [Op.bytesLess]
  | [], _ :: _ => by simp [Op.bytesLess]
  | a :: x, b :: y => by
    rw [Op.bytesLess, bytes_lt x y]
    simp only [List.cons_lt_cons_iff]
    by_cases h1 : a < b <;> by_cases h2 : a = b <;> by_cases h3 : x < y <;> simp [h1, h2, h3]
def cmpL : List UInt8 → List UInt8 → Int
  | [], [] => 0
  | [], _ :: _ => -1
  | _ :: _, [] => 1
  | x :: xs, y :: ys => if x.toNat < y.toNat then -1 else if y.toNat < x.toNat then 1 else cmpL xs ys
/-- how two texts are ordered -/
def cmpS (a b : ByteArray) : Int := cmpL a.toList b.toList
theorem cmpL_is : ∀ x y : List UInt8, (cmpL x y = -1 ∧ x < y) ∨ (cmpL x y = 0 ∧ x = y) ∨ (cmpL x y = 1 ∧ y < x)
  | [], [] => .inr (.inl ⟨rfl, rfl⟩)
  | [], y :: ys => .inl ⟨rfl, List.nil_lt_cons _ _⟩
  | x :: xs, [] => .inr (.inr ⟨rfl, List.nil_lt_cons _ _⟩)
  | x :: xs, y :: ys => by
    rw [cmpL]
    by_cases h1 : x.toNat < y.toNat
    · rw [if_pos h1]
      exact .inl ⟨rfl, List.cons_lt_cons_iff.2 (.inl (UInt8.lt_iff_toNat_lt.2 h1))⟩
    · rw [if_neg h1]
      by_cases h2 : y.toNat < x.toNat
      · rw [if_pos h2]
        exact .inr (.inr ⟨rfl, List.cons_lt_cons_iff.2 (.inl (UInt8.lt_iff_toNat_lt.2 h2))⟩)
      · rw [if_neg h2]
        have hxy : x = y := UInt8.toNat_inj.1 (by omega)
        subst hxy
        rcases cmpL_is xs ys with ⟨e, h⟩ | ⟨e, h⟩ | ⟨e, h⟩
        · exact .inl ⟨e, List.cons_lt_cons_iff.2 (.inr ⟨rfl, h⟩)⟩
        · exact .inr (.inl ⟨e, by rw [h]⟩)
        · exact .inr (.inr ⟨e, List.cons_lt_cons_iff.2 (.inr ⟨rfl, h⟩)⟩)
theorem cmpS_is (a b : ByteArray) : (cmpS a b = -1 ∧ a.toList < b.toList) ∨ (cmpS a b = 0 ∧ a = b) ∨ (cmpS a b = 1 ∧ b.toList < a.toList) := by
  rcases cmpL_is a.toList b.toList with ⟨e, h⟩ | ⟨e, h⟩ | ⟨e, h⟩
  · exact .inl ⟨e, h⟩
  · refine .inr (.inl ⟨e, ?_⟩)
    have := str_eq a b
    rw [h] at this
    exact of_decide_eq_true (this.symm.trans (by simp))
  · exact .inr (.inr ⟨e, h⟩)

theorem isnan_any (a : ByteArray) (w : World) : Calls Tryd.prog 46 #[.string a] w fun e w' => e = .returned (.bool false) ∧ w' = w := by
  go_enter Tryd.func46, Tryd.ntmps46
  go_wp2_with fail
  go_ret
  exact ⟨by simp, rfl⟩

set_option maxRecDepth 100000 in
set_option maxHeartbeats 2000000 in
theorem cmp_any (a b : ByteArray) (w : World) : Calls Tryd.prog 27 #[.string a, .string b] w fun e w' => e = .returned (.int .i64 (cmpS a b)) ∧ w' = w := by
  have hlt1 := bytes_lt a.toList b.toList
  have heq := str_eq a b
  rcases cmpS_is a b with ⟨e, h⟩ | ⟨e, h⟩ | ⟨e, h⟩
  · have q1 : Op.bytesLess a.toList b.toList = true := by rw [hlt1]; exact decide_eq_true h
    have HE := Lib.hid e
    clear e h hlt1 heq
    go_enter Tryd.func27, Tryd.ntmps27
    go_wp2_with (go_at_call 46; refine (isnan_any _ _).mono ?_; rintro e w' ⟨rfl, rfl⟩)
    go_ret
    exact ⟨ret_int HE.out.symm, rfl⟩
  · subst h
    have q1 : Op.bytesLess a.toList a.toList = false := by rw [hlt1]; exact decide_eq_false (List.lt_irrefl _)
    have HE := Lib.hid e
    clear e hlt1 heq
    go_enter Tryd.func27, Tryd.ntmps27
    go_wp2_with (go_at_call 46; refine (isnan_any _ _).mono ?_; rintro e w' ⟨rfl, rfl⟩)
    go_ret
    exact ⟨ret_int HE.out.symm, rfl⟩
  · have q1 : Op.bytesLess a.toList b.toList = false := by rw [hlt1]; exact decide_eq_false (fun h2 => List.lt_irrefl _ (List.lt_trans h h2))
    have q2 : (a.toList == b.toList) = false := by rw [heq]; exact decide_eq_false (fun e => by subst e; exact List.lt_irrefl _ h)
    have HE := Lib.hid e
    clear e h hlt1 heq
    go_enter Tryd.func27, Tryd.ntmps27
    go_wp2_with (go_at_call 46; refine (isnan_any _ _).mono ?_; rintro e w' ⟨rfl, rfl⟩)
    go_ret
    exact ⟨ret_int HE.out.symm, rfl⟩
theorem cmp_lit (a b : ByteArray) (c : Int) (w : World) (h : cmpS a b = c) : Calls Tryd.prog 27 #[.string a, .string b] w fun e w' => e = .returned (.int .i64 c) ∧ w' = w := by
  rw [← h]; exact cmp_any a b w

theorem drop_byt (s : ByteArray) (i : Nat) (h : i < s.size) : ∃ d, s.toList.drop i = d :: s.toList.drop (i + 1) ∧ d = s[i]'h := by
  have hl : i < s.toList.length := by rw [toList_data]; exact h
  refine ⟨s.toList[i]'hl, List.drop_eq_getElem_cons hl, ?_⟩
  simp only [toList_data]
  rfl

/-- a world in which only orders were drawn -/
def Drew (w w' : World) : Prop := ∃ n, w' = w.drewN n
theorem Drew.refl (w : World) : Drew w w := ⟨0, rfl⟩
theorem Drew.more {w w' : World} (h : Drew w w') (m : Nat) : Drew w (w'.drewN m) := by
  obtain ⟨n, rfl⟩ := h
  exact ⟨n + m, World.drewN_drewN _ _ _⟩
theorem Drew.trans {w w' w2 : World} (h : Drew w w') (h2 : Drew w' w2) : Drew w w2 := by
  obtain ⟨m, rfl⟩ := h2
  exact h.more m
theorem Drew.below {w w' : World} (h : Drew w w') : Below w.heap.size w w' := by
  obtain ⟨n, rfl⟩ := h
  exact below_regrownN w n

set_option maxRecDepth 100000 in
set_option maxHeartbeats 2000000 in
theorem refcmp_any (a b : ByteArray) (w : World) (ha : a.size ≤ maxLen) (hb : b.size ≤ maxLen) : Calls Tryd.prog 26 #[.string a, .string b] w fun e w' => e = .returned (.int .i64 (cmpS a b)) ∧ Drew w w' := by
  unfold maxLen at ha hb
  go_enter Tryd.func26, Tryd.ntmps26
  go_wp2_with fail
  go_loopw [5] (fun c wr => ∃ i : Nat, i ≤ a.size ∧ i ≤ b.size ∧ c = .int .i64 i ∧ Hid (cmpS a b = cmpL (a.toList.drop i) (b.toList.drop i)) ∧ Drew w wr) (fun c _ => a.size - (intOf c).toNat)
  case atStart => exact ⟨0, by omega, by omega, rfl, Lib.hid rfl, Drew.refl _⟩
  case round =>
    obtain ⟨i, hi, hi2, rfl, HS, hB⟩ := hrel
    by_cases hp : i < a.size
    · by_cases hp2 : i < b.size
      · obtain ⟨x, hx, ex⟩ := drop_byt a i hp
        obtain ⟨y, hy, ey⟩ := drop_byt b i hp2
        have hst : cmpS a b = if x.toNat < y.toNat then -1 else if y.toNat < x.toNat then 1 else cmpL (a.toList.drop (i + 1)) (b.toList.drop (i + 1)) := by
          rw [HS.out, hx, hy, cmpL]
        have HST := Lib.hid hst
        clear hst hx hy
        have ex' := ex.symm
        have ey' := ey.symm
        clear ex ey
        have hr : x.toNat < y.toNat ∨ y.toNat < x.toNat ∨ x.toNat = y.toNat := by omega
        obtain ⟨p, hp0⟩ : ∃ p : Int, (x.toNat : Int) = p := ⟨_, rfl⟩
        obtain ⟨q, hq0⟩ : ∃ p : Int, (y.toNat : Int) = p := ⟨_, rfl⟩
        rcases hr with k | k | k
        · have q1 : decide (p < q) = true := decide_eq_true (by omega)
          have KK := Lib.hid k
          clear k
          go_wp2_with fail
          go_quiet (fail)
          have B2 : Drew w (wr.drewN nq) := hB.more nq
          generalize wr.drewN nq = w2 at *
          go_wp2_with fail
          go_ret
          exact ⟨ret_int (by rw [HST.out, if_pos KK.out]), B2⟩
        · have q1 : decide (p < q) = false := decide_eq_false (by omega)
          have q2 : decide (q < p) = true := decide_eq_true (by omega)
          have KK := Lib.hid k
          clear k
          go_wp2_with fail
          go_quiet (fail)
          have B2 : Drew w (wr.drewN nq) := hB.more nq
          generalize wr.drewN nq = w2 at *
          go_wp2_with fail
          go_quiet (fail)
          have B3 : Drew w (w2.drewN nq) := B2.more nq
          generalize w2.drewN nq = w3 at *
          go_wp2_with fail
          go_ret
          exact ⟨ret_int (by rw [HST.out, if_neg (by have := KK.out; omega), if_pos KK.out]), B3⟩
        · have q1 : decide (p < q) = false := decide_eq_false (by omega)
          have q2 : decide (q < p) = false := decide_eq_false (by omega)
          have KK := Lib.hid k
          clear k
          go_wp2_with fail
          go_quiet (fail)
          have B2 : Drew w (wr.drewN nq) := hB.more nq
          generalize wr.drewN nq = w2 at *
          go_wp2_with fail
          go_quiet (fail)
          have B3 : Drew w (w2.drewN nq) := B2.more nq
          generalize w2.drewN nq = w3 at *
          go_wp2_with fail
          go_roundw
          case rel => exact ⟨i + 1, by omega, by omega, by go_num, Lib.hid (by rw [HST.out, if_neg (by have := KK.out; omega), if_neg (by have := KK.out; omega)]), B3⟩
          case measure => simp [intOf]; omega
      · obtain rfl : i = b.size := by omega
        have hst : cmpS a b = 1 := by
          obtain ⟨x, hx, -⟩ := drop_byt a b.size hp
          rw [HS.out, hx, List.drop_of_length_le (l := b.toList) (by rw [toList_data]; exact Nat.le_refl _)]
          rfl
        have HST := Lib.hid hst
        clear hst
        have k1 : decide ((a.size : Int) < (b.size : Int)) = false := decide_eq_false (by omega)
        have k2 : decide ((b.size : Int) < (a.size : Int)) = true := decide_eq_true (by omega)
        go_wp2_with fail
        go_ret
        exact ⟨ret_int (by rw [HST.out]), hB⟩
    · obtain rfl : i = a.size := by omega
      by_cases hp2 : a.size < b.size
      · have hst : cmpS a b = -1 := by
          obtain ⟨x, hx, -⟩ := drop_byt b a.size hp2
          rw [HS.out, hx, List.drop_of_length_le (l := a.toList) (by rw [toList_data]; exact Nat.le_refl _)]
          rfl
        have HST := Lib.hid hst
        clear hst
        have k1 : decide ((a.size : Int) < (b.size : Int)) = true := decide_eq_true (by omega)
        go_wp2_with fail
        go_ret
        exact ⟨ret_int (by rw [HST.out]), hB⟩
      · have hst : cmpS a b = 0 := by
          rw [HS.out, List.drop_of_length_le (l := a.toList) (by rw [toList_data]; exact Nat.le_refl _), List.drop_of_length_le (l := b.toList) (by rw [toList_data]; show b.size ≤ _; omega)]
          rfl
        have HST := Lib.hid hst
        clear hst
        have k1 : decide ((a.size : Int) < (b.size : Int)) = false := decide_eq_false (by omega)
        have k2 : decide ((b.size : Int) < (a.size : Int)) = false := decide_eq_false (by omega)
        go_wp2_with fail
        go_ret
        exact ⟨ret_int (by rw [HST.out]), hB⟩
theorem refcmp_lit (a b : ByteArray) (c : Int) (w : World) (ha : a.size ≤ maxLen) (hb : b.size ≤ maxLen) (h : cmpS a b = c) : Calls Tryd.prog 26 #[.string a, .string b] w fun e w' => e = .returned (.int .i64 c) ∧ Drew w w' := by
  rw [← h]; exact refcmp_any a b w ha hb
end Go.Proofs.YtgdfklgbdfpinaaDoor
