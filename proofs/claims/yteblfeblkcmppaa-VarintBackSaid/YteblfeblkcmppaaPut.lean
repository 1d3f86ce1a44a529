/-
  The contracts of varint.Put, varint.Size and of the reference's Put and Byte: the bytes of a number. Conditions: the number is one of 64 bits.
-/
import Derived.Test.YteblfeblkcmppaaRows
import Derived.Test.YteblfeblkcmppaaKit2
import Derived.Test.YteblfeblkcmppaaMath
import Derived.Lib.EndianBits
namespace Go.Proofs.Yteblfeblkcmppaa
set_option linter.unusedVariables false
open Go.RowKit

theorem Try.info5 : (Try.prog.info? 5).map (fun i => (i.zero, i.size, i.bytes)) = some (some (.int .u8 0), 1, 1) := by kernel_rfl

theorem or128 (m : Nat) : bits .or .u8 (IntKind.u8.wrap m) 128 = (((UInt8.ofNat (m % 128 + 128)).toNat : Nat) : Int) := by
  rw [toNat_lo (by omega), IntKind.wrap_u8]
  by_cases h : m % 256 < 128
  · have := bits_join_low .u8 8 (by decide) wraps_u8 7 ((m : Int) % 256) 128 (by omega) (by omega) (by omega) (by omega) (by decide) (by decide)
    rw [this]; omega
  · have e : ((m : Int) % 256) = (((m % 256 : Nat)) : Int) := by omega
    have h2 := (bits_nat .u8 8 (by decide) wraps_u8 (m % 256) 128 (by omega) (by decide)).2
    rw [e]
    have h3 : (128 : Int) = ((128 : Nat) : Int) := rfl
    rw [h3, h2]
    have h4 : (m % 256) ||| 128 = m % 256 := by
      have : m % 256 = 2 ^ 7 * 1 + m % 128 := by omega
      rw [this, Nat.two_pow_add_eq_or_of_lt (by omega)]
      rw [Nat.or_comm, ← Nat.or_assoc]
      simp
    rw [h4]
    omega

/-- what is left behind k bytes -/
def Left (k m : Nat) : Prop := m * 128 ^ k < 18446744073709551616
theorem left_nine {k m : Nat} (h : Left k m) (hk : k ≤ 9) (hm : ¬ m < 128) : k < 9 := by
  unfold Left at h
  rcases Nat.lt_or_ge k 9 with h9 | h9
  · exact h9
  · have : k = 9 := by omega
    subst this
    omega
theorem left_next {k m : Nat} (h : Left k m) : Left (k + 1) (m / 128) := by
  unfold Left at h ⊢
  rw [Nat.pow_succ]
  have : m / 128 * (128 ^ k * 128) = (m / 128 * 128) * 128 ^ k := by rw [Nat.mul_assoc, Nat.mul_comm 128]
  rw [this]
  exact Nat.lt_of_le_of_lt (Nat.mul_le_mul_right _ (by omega)) h
theorem left_le {k m : Nat} (h : Left k m) : (m : Int) ≤ 18446744073709551615 := by
  unfold Left at h
  have := Nat.le_mul_of_pos_right m (show 0 < 128 ^ k from Nat.pow_pos (by omega))
  omega

theorem left_le' {k : Nat} {X : Int} (h : Left k X.toNat) : X ≤ 18446744073709551615 := by
  have := left_le h; omega

set_option maxHeartbeats 800000 in
theorem put_any (n : Int) (w : World) (h0 : 0 ≤ n) (hn : n ≤ 18446744073709551615) :
    Calls Try.prog 6 #[.int .u64 n] w fun e w' => e = .returned (.string (txt (put n.toNat))) ∧ Below w.heap.size w w' := by
  have L0 : Left 0 n.toNat := by unfold Left; omega
  obtain ⟨i0, hi, hz0, hz1, hz2⟩ := info_parts Try.info5
  go_enter Try.func6, Try.ntmps6
  go_wp2
  go_loopw [0, 3] (fun x v wr => ∃ (k : Nat) (X : Int) (pre : List UInt8), k ≤ 9 ∧ 0 ≤ X ∧ Left k X.toNat ∧ x = .int .u64 X ∧ pre.length = k ∧ put n.toNat = pre ++ putF (9 - k) X.toNat ∧
      wr.ownsRow w.heap.size 5 1 v k (byteCells pre) ∧ Below w.heap.size w wr) (fun x _ _ => (intOf x).toNat)
  case atStart => exact ⟨0, n, [], by omega, h0, L0, rfl, rfl, rfl, World.ownsRow_nil _ _ _ _, Below.refl _ _⟩
  case round =>
    obtain ⟨k, X, pre, hk, hX, hm, rfl, hpre, hput, hown, hbel⟩ := hrel
    have hm64 := left_le' hm
    have HP := Lib.hid hpre
    have HQ := Lib.hid hput
    have hsz := hbel.size
    clear hpre hput
    have h63 : k + 1 ≤ maxLen := by unfold maxLen; omega
    have h47 : (k + 1) * 1 ≤ 140737488355328 := by omega
    by_cases h : X < 128
    · have HB := Lib.hid (show Value.int .u8 X = Value.int .u8 (((UInt8.ofNat X.toNat).toNat : Nat) : Int) by rw [toNat_lo (by omega)]; congr 1; omega)
      have HE := Lib.hid (show put n.toNat = pre ++ [UInt8.ofNat X.toNat] by rw [HQ.out, putF_small (by omega)])
      go_wp2_with (at_builtin; refine wpList_append_own _ rfl _ _ 32 rfl w.heap.size 5 i0 (.int .u8 0) 1 1 Try.underlying32 hi hz0 hz1 hz2 rfl (by decide) _ _ _ rfl (hown.alloc _) ⟨wr.heap.size, 0, none⟩ 1 1 [.int .u8 X] rfl rfl one_new ?c2 h63 h47 ?c5 ?_)
      case c2 => first | rfl | (intro u hu; simp at hu; subst hu; rfl)
      case c5 => first | omega | (simp; omega)
      intro v' w1 hown' hgrow _
      rw [HB.out, byteCells_snoc] at hown'
      have hconv := run_convert_own (P := Try.prog) 32 9 Try.underlying32 Try.underlying5 Try.underlying9 hown'
      have hb1 := (hbel.alloc hsz _).grown hgrow (by simp; omega) (fun j hj => (hown.lt j hj).1)
      have HO := Lib.hid hown'
      clear hown' hgrow hown hbel
      go_wp2_with fail
      go_ret
      exact ⟨ret_str (by rw [HE.out]), hb1⟩
    · have hk9 := left_nine hm hk (by omega)
      have HB := Lib.hid (show bits .or .u8 (X % 256) 128 = (((UInt8.ofNat (X.toNat % 128 + 128)).toNat : Nat) : Int) by
        have := or128 X.toNat
        rw [IntKind.wrap_u8, show ((X.toNat : Nat) : Int) = X from by omega] at this; exact this)
      have HE := Lib.hid (show put n.toNat = (pre ++ [UInt8.ofNat (X.toNat % 128 + 128)]) ++ putF (9 - (k + 1)) (X / 128).toNat by
        rw [HQ.out, show 9 - k = (9 - (k + 1)) + 1 from by omega, putF_big (by omega), List.append_assoc, show (X / 128).toNat = X.toNat / 128 from by omega]; rfl)
      have HL := Lib.hid (show Left (k + 1) (X / 128).toNat by rw [show (X / 128).toNat = X.toNat / 128 from by omega]; exact left_next hm)
      go_wp2_with (at_builtin; refine wpList_append_own _ rfl _ _ 32 rfl w.heap.size 5 i0 (.int .u8 0) 1 1 Try.underlying32 hi hz0 hz1 hz2 rfl (by decide) _ _ _ rfl (hown.alloc _) ⟨wr.heap.size, 0, none⟩ 1 1 [.int .u8 (bits .or .u8 (X % 256) 128)] rfl rfl one_new ?d2 h63 h47 ?d5 ?_)
      case d2 => first | rfl | (intro u hu; simp at hu; subst hu; rfl)
      case d5 => first | omega | (simp; omega)
      intro v' w1 hown' hgrow _
      rw [HB.out, byteCells_snoc] at hown'
      have hb1 := (hbel.alloc hsz _).grown hgrow (by simp; omega) (fun j hj => (hown.lt j hj).1)
      have HO := Lib.hid hown'
      have HB1 := Lib.hid hb1
      clear hown' hgrow hown hbel hb1
      go_wp2_with fail
      go_roundw
      case rel => exact ⟨k + 1, X / 128, _, by omega, by omega, HL.out, rfl, by simp [HP.out], HE.out, HO.out, HB1.out⟩
      case measure => simp [intOf]; omega

theorem size_any (n : Int) (w : World) (h0 : 0 ≤ n) (hn : n ≤ 18446744073709551615) :
    Calls Try.prog 8 #[.int .u64 n] w fun e w' => e = .returned (.int .i64 (put n.toNat).length) ∧ Below w.heap.size w w' := by
  go_enter Try.func8, Try.ntmps8
  go_wp2_with fail
  refine (put_any _ _ h0 hn).mono ?_
  rintro e w' ⟨rfl, hb⟩
  go_wp2_with fail
  go_ret
  exact ⟨by rw [← txt_size]; rfl, hb⟩

theorem byte_any (n : Int) (w : World) (h0 : 0 ≤ n) (hn : n ≤ 255) :
    Calls Try.prog 12 #[.int .i64 n] w fun e w' => e = .returned (.string (txt [UInt8.ofNat n.toNat])) ∧ Below w.heap.size w w' := by
  have hc : ∀ t, (convert 32 9 (.slice (some ⟨w.heap.size, 0, none⟩) 1 1)).run Try.prog (w.alloc (.cells #[.int .u8 n] t)) = .ok (.string (txt [UInt8.ofNat n.toNat])) (w.alloc (.cells #[.int .u8 n] t)) := fun t => by
    refine run_convert_bytes_back _ _ _ 5 _ 1 [UInt8.ofNat n.toNat] Try.underlying32 Try.underlying5 Try.underlying9 fun j hj => ?_
    have : j = 0 := by simpa using hj
    subst this
    rw [one_new 0 _ rfl]
    simp only [List.getElem_cons_zero, toNat_lo (show n.toNat < 256 by omega)]
    congr 2; omega
  go_enter Try.func12, Try.ntmps12
  go_wp2_with fail
  go_ret
  exact ⟨rfl, (Below.refl _ _).alloc (Nat.le_refl _) _⟩

set_option maxHeartbeats 800000 in
theorem refput_any (f : Nat) : ∀ (n : Int) (w : World), 0 ≤ n → n.toNat < 128 ^ (f + 1) → f ≤ 9 → n ≤ 18446744073709551615 →
    Calls Try.prog 7 #[.int .u64 n] w fun e w' => e = .returned (.string (txt (putF f n.toNat))) ∧ Below w.heap.size w w' := by
  induction f with
  | zero =>
    intro n w h0 hf hf9 hn
    have hlt : n < 128 := by omega
    clear hf
    go_enter Try.func7, Try.ntmps7
    go_wp2_with fail
    refine (byte_any _ _ h0 (by omega)).mono ?_
    rintro e w' ⟨rfl, hb⟩
    go_wp2_with fail
    go_ret
    exact ⟨rfl, hb⟩
  | succ f ih =>
    intro n w h0 hf hf9 hn
    have HF := Lib.hid hf
    have IH := Lib.hid ih
    clear ih hf
    by_cases hlt : n < 128
    · have E := Lib.hid (putF_small (f := f + 1) (show n.toNat < 128 by omega))
      go_enter Try.func7, Try.ntmps7
      go_wp2_with fail
      refine (byte_any _ _ h0 (by omega)).mono ?_
      rintro e w' ⟨rfl, hb⟩
      go_wp2_with fail
      go_ret
      exact ⟨ret_str (by rw [E.out]), hb⟩
    · have E := Lib.hid (putF_big (f := f) (show ¬ n.toNat < 128 by omega))
      go_enter Try.func7, Try.ntmps7
      have hq : (n / 128).toNat = n.toNat / 128 := by omega
      have hm : (n % 128 + 128).toNat = n.toNat % 128 + 128 := by omega
      have HQ := Lib.hid hq
      have HM := Lib.hid hm
      have hf' := HF.out
      have HF' := Lib.hid (show (n / 128).toNat < 128 ^ (f + 1) by rw [hq]; rw [Nat.pow_succ] at hf'; omega)
      have hlen := (putF_len f (n / 128).toNat).2
      clear hq hm hf'
      go_wp2_with fail
      refine (byte_any _ _ (by omega) (by omega)).mono ?_
      rintro e w1 ⟨rfl, hb⟩
      go_wp2_with fail
      refine (IH.out _ _ (by omega) HF'.out (by omega) (by omega)).mono ?_
      rintro e w2 ⟨rfl, hb2⟩
      have hadd := run_string_add_sum (P := Try.prog) w2 (txt [UInt8.ofNat (n % 128 + 128).toNat]) (txt (putF f (n / 128).toNat)) (by rw [txt_size, txt_size]; simp; omega)
      go_wp2_with fail
      go_ret
      exact ⟨ret_str (by rw [txt_append, E.out, HM.out, HQ.out]; rfl), hb.trans (hb2.mono hb.size)⟩
end Go.Proofs.Yteblfeblkcmppaa
