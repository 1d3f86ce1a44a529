/-
  The contracts of First, Texts and Text of package charset. Conditions: the words fit; the library's table lies as laid.
-/
import Derived.Test.YtifokkclkmdclaaDoorCsCount
import Derived.Test.YtifokkclkmdclaaDoorReads
namespace Go.Proofs.YtifokkclkmdclaaDoor
set_option linter.unusedVariables false
open Go.RowKit Go.Sort Cs

theorem word_zero (s : Nat → Int) (hs : SetIn s) (i : Nat) (h : ∀ j, j < 64 → hasS s (i * 64 + j) = false) : s i = 0 := by
  have e : (s i).toNat = 0 := by
    apply Nat.eq_of_testBit_eq
    intro k
    rw [Nat.zero_testBit]
    by_cases hk : k < 64
    · have := h k hk
      rw [has_bit s _ hs] at this
      have e1 : (i * 64 + k) / 64 = i := by omega
      have e2 : (i * 64 + k) % 64 = k := by omega
      rw [e1, e2] at this
      exact this
    · exact Nat.testBit_lt_two_pow (Nat.lt_of_lt_of_le (by have := hs i; omega) (Nat.pow_le_pow_right (by omega) (show 64 ≤ k by omega)))
  have := hs i
  omega

set_option maxHeartbeats 1000000 in
set_option maxRecDepth 100000 in
theorem first_no (s : Nat → Int) (w : World) (hs : SetIn s) (h : ∀ b, b < 256 → hasS s b = false) :
    Calls Tryd.prog 16 #[setV s] w fun e w' => e = .returned (.int .i64 (-1)) ∧ Below w.heap.size w w' := by
  unfold setV
  go_enter Tryd.func16, Tryd.ntmps16
  go_wp2_with fail
  go_loop [6] (fun c => ∃ k : Nat, k ≤ 4 ∧ c = .int .i64 k) (fun c => 4 - (intOf c).toNat)
  case atStart => exact ⟨0, by omega, rfl⟩
  case round =>
    obtain ⟨k, hk, rfl⟩ := hrel
    by_cases hlt : k < 4
    · have hidx := word_at s k hlt
      rw [word_zero s hs k (fun j hj => h _ (by omega))] at hidx
      go_wp2_with fail
      go_round
      case rel => exact ⟨k + 1, by omega, by simp⟩
      case measure => simp [intOf]; omega
    · have e : k = 4 := by omega
      subst e
      go_wp2_with fail
      go_ret
      exact ⟨rfl, (Below.refl _ _).alloc (Nat.le_refl _) _⟩

set_option maxHeartbeats 1000000 in
set_option maxRecDepth 100000 in
theorem first_yes (s : Nat → Int) (k : Nat) (w : World) (hs : SetIn s) (hk : k < 256) (hhit : hasS s k = true) (h : ∀ b, b < k → hasS s b = false) (hT : TabIn w) :
    Calls Tryd.prog 16 #[setV s] w fun e w' => e = .returned (.int .i64 k) ∧ Below w.heap.size w w' := by
  unfold setV
  have HH := Lib.hid h
  have HT := Lib.hid hT
  have HI := Lib.hid hhit
  clear h hT hhit
  go_enter Tryd.func16, Tryd.ntmps16
  go_wp2_with fail
  go_loop [6] (fun c => ∃ i : Nat, i * 64 ≤ k ∧ i < 4 ∧ c = .int .i64 i) (fun c => 4 - (intOf c).toNat)
  case atStart => exact ⟨0, by omega, by omega, rfl⟩
  case round =>
    obtain ⟨i, hi, hlt, rfl⟩ := hrel
    have hidx := word_at s i hlt
    by_cases hin : k < (i + 1) * 64
    · obtain ⟨x, hx⟩ := Int.eq_ofNat_of_zero_le (hs i).1
      have hx1 : x < 18446744073709551616 := by have := (hs i).2; omega
      obtain ⟨r, hr⟩ : ∃ r, k = i * 64 + r := ⟨k - i * 64, by omega⟩
      have hr64 : r < 64 := by omega
      have hb : ∀ j, j < 64 → hasS s (i * 64 + j) = x.testBit j := by
        intro j hj
        rw [has_bit s _ hs]
        have e1 : (i * 64 + j) / 64 = i := by omega
        have e2 : (i * 64 + j) % 64 = j := by omega
        rw [e1, e2, hx, Int.toNat_natCast]
      have hbit : x.testBit r = true := by rw [← hb r hr64, ← hr]; exact HI.out
      have hlow : ∀ j, j < r → x.testBit j = false := fun j hj => by rw [← hb j (by omega)]; exact HH.out _ (by omega)
      have hx0 : ((x : Int) != 0) = true := by
        have : x ≠ 0 := by rintro rfl; simp at hbit
        simp; omega
      rw [hx] at hidx
      have HB := Lib.hid hbit
      have HL := Lib.hid hlow
      have HR := Lib.hid (show (64 * (i : Int) + r) = k by omega)
      have hr5 : 64 * (i : Int) + r ≤ 255 := by omega
      clear hx hr hb hbit hlow
      go_wp2_with fail
      refine (tz_any x r _ hx1 HB.out HL.out (HT.out.below ((Below.refl _ _).alloc (Nat.le_refl _) _))).mono ?_
      rintro e w1 ⟨rfl, rfl⟩
      go_wp2_with fail
      go_ret
      exact ⟨ret_int HR.out, (Below.refl _ _).alloc (Nat.le_refl _) _⟩
    · rw [word_zero s hs i (fun j hj => HH.out _ (by omega))] at hidx
      go_wp2_with fail
      go_round
      case rel => exact ⟨i + 1, by omega, by omega, by simp⟩
      case measure => simp [intOf]; omega

/-- the bytes of n bytes of a text -/
def textS (l : List UInt8) : Nat → Int := l.foldl (fun t b => orS t (ofS b.toNat b.toNat)) noneS
theorem ofIn (lo hi : Nat) : SetIn (ofS lo hi) := spanIn _ _
theorem textS_snoc (l : List UInt8) (b : UInt8) : textS (l ++ [b]) = orS (textS l) (ofS b.toNat b.toNat) := by simp [textS]
theorem text_ind (P : List UInt8 → Prop) (h0 : P []) (h1 : ∀ l b, P l → P (l ++ [b])) (l : List UInt8) : P l := by
  have : ∀ n (l : List UInt8), l.length = n → P l := by
    intro n
    induction n with
    | zero => intro l hl; rw [List.eq_nil_of_length_eq_zero hl]; exact h0
    | succ n ih =>
      intro l hl
      have hne : l ≠ [] := fun e => by subst e; simp at hl
      rw [← List.dropLast_concat_getLast hne]
      exact h1 _ _ (ih _ (by simp [hl]))
  exact this _ l rfl
theorem textIn (l : List UInt8) : SetIn (textS l) := text_ind (fun l => SetIn (textS l)) noneIn (fun l b h => by rw [textS_snoc]; exact orIn h (ofIn _ _)) l
theorem has_text (l : List UInt8) (b : Nat) : hasS (textS l) b = l.any fun c => decide (c.toNat = b) := by
  refine text_ind (fun l => hasS (textS l) b = l.any fun c => decide (c.toNat = b)) ?_ (fun l c h => ?_) l
  · exact has_none b
  · rw [textS_snoc, has_or _ _ _ (textIn l) (ofIn _ _), h, has_of]
    simp
    have e : decide (c.toNat ≤ b ∧ b ≤ c.toNat) = decide (c.toNat = b) := by rw [decide_eq_decide]; omega
    rw [← e]
    simp
theorem take_snoc (s : ByteArray) (k : Nat) (h : k < s.size) : s.data.toList.take (k + 1) = s.data.toList.take k ++ [s[k]] := by
  rw [List.take_succ_eq_append_getElem (by simpa using h)]; rfl

set_option maxHeartbeats 2000000 in
set_option maxRecDepth 100000 in
theorem texts_any (t : ByteArray) (w : World) (ht : t.size ≤ maxLen) :
    Calls Tryd.prog 17 #[.string t] w fun e w' => e = .returned (setV (textS t.data.toList)) ∧ Below w.heap.size w w' := by
  unfold maxLen at ht
  go_enter Tryd.func17, Tryd.ntmps17
  go_wp2_with fail
  have f1 := Four.zero (w.alloc (.cells #[.int .u64 0, .int .u64 0, .int .u64 0, .int .u64 0] 24)) 24
  have f3 := (Four.zero w 24).old (.cells #[.int .u64 0, .int .u64 0, .int .u64 0, .int .u64 0] 24) (by simp)
  have b1 : Below w.heap.size w ((w.alloc (.cells #[.int .u64 0, .int .u64 0, .int .u64 0, .int .u64 0] 24)).alloc (.cells #[.int .u64 0, .int .u64 0, .int .u64 0, .int .u64 0] 24)) :=
    ((Below.refl _ _).alloc (Nat.le_refl _) _).alloc (by simp) _
  have hz : w.heap.size + 2 ≤ ((w.alloc (.cells #[.int .u64 0, .int .u64 0, .int .u64 0, .int .u64 0] 24)).alloc (.cells #[.int .u64 0, .int .u64 0, .int .u64 0, .int .u64 0] 24)).heap.size := by simp
  simp only [World.size_alloc] at f1
  have F1 := Lib.hid f1
  have F3 := Lib.hid f3
  generalize (w.alloc (.cells #[.int .u64 0, .int .u64 0, .int .u64 0, .int .u64 0] 24)).alloc (.cells #[.int .u64 0, .int .u64 0, .int .u64 0, .int .u64 0] 24) = w1 at *
  clear f1 f3
  go_loopw [7] (fun c wr => ∃ n : Nat, n ≤ t.size ∧ c = .int .i64 n ∧ Hid (Four wr (w.heap.size + 1) (textS (t.data.toList.take n))) ∧ Hid (Four wr w.heap.size noneS) ∧ Below w.heap.size w wr ∧ w.heap.size + 2 ≤ wr.heap.size) (fun c _ => t.size - (intOf c).toNat)
  case atStart => exact ⟨0, by omega, rfl, F1, F3, b1, hz⟩
  case round =>
    clear F1 F3 b1 hz
    obtain ⟨n, hn, rfl, G1, G3, hB, hz⟩ := hrel
    by_cases hlt : n < t.size
    · have hts := take_snoc t n hlt
      have hc256 := UInt8.toNat_lt t[n]
      have HTS := Lib.hid hts
      clear hts
      have c0 := reg1 G1.out 0 (by omega) (by omega)
      have c1 := reg1 G1.out 1 (by omega) (by omega)
      have c2 := reg1 G1.out 2 (by omega) (by omega)
      have c3 := reg1 G1.out 3 (by omega) (by omega)
      go_wp2_with fail
      refine wp_region_below_tail 9 (by kernel_rfl) (by kernel_rfl) ?_
      simp only [List.take_succ_cons, List.take_zero, List.drop_succ_cons, List.drop_zero]
      repeat (go_big_quiet_step (fail))
      go_big_quiet_step ((go_at_call 10; exact Calls.regrown_of (of_any _ _ _ hc256 hc256)))
      repeat (go_big_quiet_step (fail))
      go_big_quiet_step ((go_at_call 6; exact Calls.regrown_of (or_any (textS (t.data.toList.take n)) (ofS t[n].toNat t[n].toNat) _ (textIn _) (ofIn _ _))))
      refine wpQuiet_nil ?_
      intro _ hw'
      obtain ⟨⟨dq, osq⟩, hw''⟩ := hw'
      subst hw''
      have bb : Below wr.heap.size wr (Sort.grow (redrawn wr dq) osq) := below_regrown wr dq osq
      have g1 := G1.out.below bb (by omega)
      have g3 := G3.out.below bb (by omega)
      have hB2 : Below w.heap.size w (Sort.grow (redrawn wr dq) osq) := hB.trans (bb.mono (by omega))
      have hz2 : w.heap.size + 2 ≤ (Sort.grow (redrawn wr dq) osq).heap.size := by have := bb.size; omega
      generalize Sort.grow (redrawn wr dq) osq = w2 at *
      have r0 := g1.cell 0 (by omega)
      have r1 := g1.cell 1 (by omega)
      have r2 := g1.cell 2 (by omega)
      have r3 := g1.cell 3 (by omega)
      have z := g1.free
      clear c0 c1 c2 c3
      go_wp2_with fail
      have k1 := g1.set4 (orS (textS (t.data.toList.take n)) (ofS t[n].toNat t[n].toNat))
      have k3 := g3.far4 (g' := w.heap.size + 1) (.int .u64 (orS (textS (t.data.toList.take n)) (ofS t[n].toNat t[n].toNat) 0)) (.int .u64 (orS (textS (t.data.toList.take n)) (ofS t[n].toNat t[n].toNat) 1)) (.int .u64 (orS (textS (t.data.toList.take n)) (ofS t[n].toNat t[n].toNat) 2)) (.int .u64 (orS (textS (t.data.toList.take n)) (ofS t[n].toNat t[n].toNat) 3)) (by omega)
      have k4 := below_set4 (g := w.heap.size + 1) hB2 (.int .u64 (orS (textS (t.data.toList.take n)) (ofS t[n].toNat t[n].toNat) 0)) (.int .u64 (orS (textS (t.data.toList.take n)) (ofS t[n].toNat t[n].toNat) 1)) (.int .u64 (orS (textS (t.data.toList.take n)) (ofS t[n].toNat t[n].toNat) 2)) (.int .u64 (orS (textS (t.data.toList.take n)) (ofS t[n].toNat t[n].toNat) 3)) (by omega)
      go_roundw
      case rel => exact ⟨n + 1, by omega, by simp, Lib.hid (by rw [HTS.out, textS_snoc]; exact k1), Lib.hid k3, k4, by simpa using hz2⟩
      case measure => simp [intOf]; omega
    · have e : n = t.size := by omega
      subst e
      have g := G1.out
      rw [List.take_of_length_le (by simp)] at g
      have c0 := g.cell 0 (by omega)
      have c1 := g.cell 1 (by omega)
      have c2 := g.cell 2 (by omega)
      have c3 := g.cell 3 (by omega)
      have r0 := G3.out.cell 0 (by omega)
      have r1 := G3.out.cell 1 (by omega)
      have r2 := G3.out.cell 2 (by omega)
      have r3 := G3.out.cell 3 (by omega)
      have z := G3.out.free
      clear g
      go_wp2_with fail
      refine bodyPost_ret (v := setV (textS t.data.toList)) (by simp [results, Tryd.results17, go_sem, setV, r0, r1, r2, r3]) rfl ⟨rfl, ?_⟩
      exact below_set4 hB _ _ _ _ (Nat.le_refl _)
end Go.Proofs.YtifokkclkmdclaaDoor
