/-
  The walks of the reference's Byte, Hex and sign. Conditions: a byte; the marked bytes are below 128.
-/
import Derived.Test.YtpknglbpbodnbaaDoorJRgSign
namespace Go.Proofs.YtpknglbpbodnbaaDoor
set_option linter.unusedVariables false
set_option linter.unusedSimpArgs false
open Go.RowKit Go.Sort Cs Rg Go.ChangeShapes Go.WideShapes

def hexd (n : Nat) : UInt8 := if n < 10 then UInt8.ofNat (48 + n) else UInt8.ofNat (87 + n)
def hexs : ByteArray := ⟨#[48, 49, 50, 51, 52, 53, 54, 55, 56, 57, 97, 98, 99, 100, 101, 102]⟩
theorem hexs_part16 : ∀ k : Fin 16, hexs.extract k.1 (k.1 + 1) = txt [hexd k.1] := by decide
theorem hexs_part (k : Nat) (h : k < 16) : hexs.extract k (k + 1) = txt [hexd k] := hexs_part16 ⟨k, h⟩

set_option maxHeartbeats 4000000 in
set_option maxRecDepth 1000000 in
theorem hex_one (b : UInt8) (w : World) :
    Calls Tryd.prog 53 #[.string (txt [b])] w fun e w' => e = .returned (.string (txt [hexd (b.toNat / 16), hexd (b.toNat % 16)])) ∧ Below w.heap.size w w' := by
  have hsz : (txt [b]).size = 1 := rfl
  have h0 : (txt [b])[0]'(by rw [hsz]; omega) = b := rfl
  have hb : b.toNat < 256 := b.toNat_lt
  go_enter Tryd.func53, Tryd.ntmps53
  go_wp2_with fail
  go_loopw [4, 5] (fun o c wr => ∃ k : Nat, k ≤ 1 ∧ c = .int .i64 k ∧ o = .string (if k = 0 then ⟨#[]⟩ else txt [hexd (b.toNat / 16), hexd (b.toNat % 16)]) ∧ Below w.heap.size w wr) (fun _ c _ => 1 - (intOf c).toNat)
  case atStart => exact ⟨0, by omega, rfl, rfl, Below.refl _ _⟩
  case round =>
    obtain ⟨k, hk, rfl, rfl, hbw⟩ := hrel
    by_cases hk0 : k = 0
    · subst hk0
      rw [if_pos rfl]
      go_wp2_with fail
      refine wp_region_quiet_below (by kernel_rfl) (by kernel_rfl) ?_
      repeat (go_big_quiet_step (fail))
      refine wpQuiet_nil ?_
      intro _ hw'
      obtain ⟨⟨dq, osq⟩, hw''⟩ := hw'
      subst hw''
      have bb : Below wr.heap.size wr (Sort.grow (redrawn wr dq) osq) := below_regrown wr dq osq
      have hB2 : Below w.heap.size w (Sort.grow (redrawn wr dq) osq) := hbw.trans (bb.mono hbw.size)
      generalize Sort.grow (redrawn wr dq) osq = w2 at *
      go_wp2_with fail
      obtain ⟨h, eh⟩ : ∃ h : Nat, (b.toNat : Int) / 16 = h := ⟨b.toNat / 16, by omega⟩
      obtain ⟨l, el⟩ : ∃ l : Nat, (b.toNat : Int) % 16 = l := ⟨b.toNat % 16, by omega⟩
      have hh : h < 16 := by omega
      have hl : l < 16 := by omega
      rw [eh, el]
      obtain rfl : h = b.toNat / 16 := by omega
      obtain rfl : l = b.toNat % 16 := by omega
      clear eh el
      have X1 := Lib.hid (hexs_part _ hh)
      have X2 := Lib.hid (hexs_part _ hl)
      obtain ⟨h, eh⟩ : ∃ h, b.toNat / 16 = h := ⟨_, rfl⟩
      obtain ⟨l, el⟩ : ∃ l, b.toNat % 16 = l := ⟨_, rfl⟩
      have EH := Lib.hid eh
      have EL := Lib.hid el
      rw [eh] at X1 hh
      rw [el] at X2 hl
      rw [eh, el]
      clear eh el
      refine wp_region_quiet_below (by kernel_rfl) (by kernel_rfl) ?_
      repeat (go_big_quiet_step (fail))
      refine wpQuiet_nil ?_
      intro _ hw'
      obtain ⟨⟨dq, osq⟩, hw''⟩ := hw'
      subst hw''
      have bb : Below w2.heap.size w2 (Sort.grow (redrawn w2 dq) osq) := below_regrown w2 dq osq
      have hB3 : Below w.heap.size w (Sort.grow (redrawn w2 dq) osq) := hB2.trans (bb.mono hB2.size)
      generalize Sort.grow (redrawn w2 dq) osq = w3 at *
      go_wp2_with fail
      go_roundw
      case rel =>
        refine ⟨1, by omega, rfl, ?_, hB3⟩
        rw [if_neg (by omega), EH.out, EL.out]
        change Value.string ((⟨#[]⟩ ++ hexs.extract h (h + 1)) ++ hexs.extract l (l + 1)) = _
        rw [X1.out, X2.out]
        change Value.string ((txt [] ++ txt [hexd h]) ++ txt [hexd l]) = _
        rw [txt_append, txt_append]
        rfl
      case measure => simp [intOf]
    · obtain rfl : k = 1 := by omega
      rw [if_neg (by omega)]
      go_wp2_with fail
      go_ret
      exact ⟨rfl, hbw⟩

theorem toNat_lo {n : Nat} (h : n < 256) : (UInt8.ofNat n).toNat = n := by
  rw [UInt8.toNat_ofNat']
  omega
theorem byte_any (n : Int) (w : World) (h0 : 0 ≤ n) (hn : n ≤ 255) :
    Calls Tryd.prog 52 #[.int .i64 n] w fun e w' => e = .returned (.string (txt [UInt8.ofNat n.toNat])) ∧ Below w.heap.size w w' := by
  have hc : ∀ t, (convert 47 9 (.slice (some ⟨w.heap.size, 0, none⟩) 1 1)).run Tryd.prog (w.alloc (.cells #[.int .u8 n] t)) = .ok (.string (txt [UInt8.ofNat n.toNat])) (w.alloc (.cells #[.int .u8 n] t)) := fun t => by
    refine run_convert_bytes_back _ _ _ 5 _ 1 [UInt8.ofNat n.toNat] Tryd.underlying47 Tryd.underlying5 Tryd.underlying9 fun j hj => ?_
    have : j = 0 := by simpa using hj
    subst this
    rw [one_new 0 _ rfl]
    simp only [List.getElem_cons_zero, toNat_lo (show n.toNat < 256 by omega)]
    congr 2; omega
  go_enter Tryd.func52, Tryd.ntmps52
  go_wp2_with fail
  go_ret
  exact ⟨rfl, (Below.refl _ _).alloc (Nat.le_refl _) _⟩

theorem hexd_hexT (n : Nat) : hexd n = UInt8.ofNat (hexT n) := by
  unfold hexd hexT
  split <;> rfl
theorem refbyte_any (b : Nat) (w : World) (hb : b < 256) :
    Calls Tryd.prog 52 #[.int .i64 (b : Int)] w fun e w' => e = .returned (.string (bsT [b])) ∧ Below w.heap.size w w' := by
  refine (byte_any (b : Int) w (by omega) (by omega)).mono ?_
  rintro e w' ⟨rfl, h⟩
  exact ⟨by rw [Int.toNat_natCast]; rfl, h⟩
theorem refhex_any (b : Nat) (w : World) (hb : b < 256) :
    Calls Tryd.prog 53 #[.string (bsT [b])] w fun e w' => e = .returned (.string (bsT [hexT (b / 16), hexT (b % 16)])) ∧ Below w.heap.size w w' := by
  refine (hex_one (UInt8.ofNat b) w).mono ?_
  rintro e w' ⟨rfl, h⟩
  exact ⟨by rw [u8_nat hb, hexd_hexT, hexd_hexT]; rfl, h⟩
theorem bsT_at {l : List Nat} (hl : BytesL l) {i c : Nat} (hc : l[i]? = some c) : ∃ h : i < (bsT l).size, ((bsT l)[i]'h).toNat = c := by
  have hlt : i < l.length := (List.getElem?_eq_some_iff.1 hc).1
  have h : i < (bsT l).size := by rw [bsT_size]; exact hlt
  refine ⟨h, ?_⟩
  have h1 := natsOf_at h
  rw [bsT_nats hl, hc] at h1
  exact (Option.some.inj h1).symm
theorem bsT_part {l : List Nat} {i c : Nat} (hc : l[i]? = some c) : (bsT l).extract i (i + 1) = bsT [c] := by
  have hlt : i < l.length := (List.getElem?_eq_some_iff.1 hc).1
  have e : (bsT l).extract i (i + 1) = txt (((u8L l).drop i).take 1) := by
    rw [extract_txt]
    simp [bsT, txt]
  rw [e]
  have h2 : i < (u8L l).length := by rw [u8L_len]; exact hlt
  rw [List.drop_eq_getElem_cons h2]
  have h3 : (u8L l)[i] = UInt8.ofNat c := by
    have := (List.getElem?_eq_some_iff.1 hc).2
    simp [u8L, this]
  rw [h3]
  rfl
set_option maxHeartbeats 8000000 in
set_option maxRecDepth 1000000 in
theorem refsign_any (b : Nat) (l : List Nat) (w : World) (hb : b < 256) (hl : BytesL l) (hn : l.length ≤ 1000) :
    Calls Tryd.prog 37 #[.int .i64 (b : Int), .string (bsT l)] w fun e w' => e = .returned (.string (bsT (signT b l))) ∧ Below w.heap.size w w' := by
  obtain ⟨R, hR⟩ : ∃ R, bsT (signT b l) = R := ⟨_, rfl⟩
  have HR := Lib.hid hR
  rw [hR]
  obtain ⟨ls, hls⟩ : ∃ ls, bsT l = ls := ⟨_, rfl⟩
  have HL := Lib.hid (And.intro hls hl)
  have hsz : ls.size = l.length := by rw [← hls]; exact bsT_size l
  rw [hls]
  clear hR hls hl
  go_enter Tryd.func37, Tryd.ntmps37
  go_wp2_with fail
  go_loopw [5] (fun si wr => ∃ i : Nat, si = .int .i64 (i : Int) ∧ i ≤ l.length ∧ Hid (∀ j, j < i → l[j]? ≠ some b) ∧ wr = w) (fun si _ => l.length - (intOf si).toNat)
  case atStart => exact ⟨0, rfl, Nat.zero_le _, Lib.hid (fun j h => by omega), rfl⟩
  case round =>
    obtain ⟨i, rfl, hi, HK, hwr⟩ := hrel
    subst hwr
    by_cases hil : i < l.length
    · have k1 : decide (i < l.length) = true := decide_eq_true hil
      have k1' : decide (i < ls.size) = true := decide_eq_true (by omega)
      obtain ⟨c, hc⟩ : ∃ c, l[i]? = some c := ⟨_, List.getElem?_eq_getElem hil⟩
      obtain ⟨h9, hat⟩ := bsT_at HL.out.2 hc
      have hpart := bsT_part hc
      have hc9 : c < 256 := HL.out.2 c (List.mem_of_getElem? hc)
      rw [HL.out.1] at hpart
      simp only [HL.out.1] at hat
      have HC := Lib.hid (And.intro hc hpart)
      clear hc hpart
      by_cases hcb : c = b
      · subst hcb
        have HF := Lib.hid (show R = bsT [92, c] by rw [← HR.out]; unfold signT; rw [if_pos (List.mem_of_getElem? HC.out.1)])
        go_wp2_with fail
        go_ret
        exact ⟨ret_str (by rw [HF.out, HC.out.2]; exact bsT_app [92] [c]), Below.refl _ _⟩
      · have k2 : ((c : Int) == b) = false := by rw [beq_eq_false_iff_ne]; omega
        have HN := Lib.hid (show ∀ j, j < i + 1 → l[j]? ≠ some b from fun j hj => by
          by_cases e : j = i
          · rw [e, HC.out.1]; intro h; exact hcb (Option.some.inj h)
          · exact HK.out j (by omega))
        clear hcb
        go_wp2_with fail
        go_roundw
        case rel => exact ⟨i + 1, by go_num, hil, HN, by first | trivial | rfl⟩
        case measure => simp [intOf]; omega
    · have k1 : decide (i < l.length) = false := decide_eq_false hil
      obtain rfl : i = l.length := by omega
      have hno : b ∉ l := fun h => by
        obtain ⟨j, hj, e⟩ := List.getElem_of_mem h
        exact HK.out j hj (by rw [List.getElem?_eq_getElem hj, e])
      have HNO := Lib.hid hno
      clear hno
      by_cases h2 : 32 ≤ b ∧ b ≤ 126
      · have k2 : decide (32 ≤ (b : Int)) = true := decide_eq_true (by omega)
        have k3 : decide ((b : Int) ≤ 126) = true := decide_eq_true (by omega)
        have HF := Lib.hid (show R = bsT [b] by rw [← HR.out]; unfold signT; rw [if_neg HNO.out, if_pos h2])
        clear h2
        go_wp2_with fail
        refine (refbyte_any b _ hb).mono ?_
        rintro e w1 ⟨rfl, bx⟩
        have HB := Lib.hid bx
        clear bx
        obtain ⟨ts, hts⟩ : ∃ ts, bsT [b] = ts := ⟨_, rfl⟩
        rw [hts]
        have HT := Lib.hid hts
        clear hts
        go_wp2_with fail
        go_ret
        exact ⟨ret_str (by rw [HF.out, HT.out]), HB.out⟩
      · have HF := Lib.hid (show R = bsT [92, 120, hexT (b / 16), hexT (b % 16)] by rw [← HR.out]; unfold signT; rw [if_neg HNO.out, if_neg h2])
        by_cases hlo : 32 ≤ b
        · have k2 : decide (32 ≤ (b : Int)) = true := decide_eq_true (by omega)
          have k3 : decide ((b : Int) ≤ 126) = false := decide_eq_false (by omega)
          clear h2
          go_wp2_with fail
          refine (refbyte_any b _ hb).mono ?_
          rintro e w1 ⟨rfl, bx⟩
          go_wp2_with fail
          refine (refhex_any b _ hb).mono ?_
          rintro e w2 ⟨rfl, by2⟩
          have HB := Lib.hid (bx.trans (by2.mono bx.size))
          clear bx by2
          obtain ⟨ts, hts⟩ : ∃ ts, bsT [hexT (b / 16), hexT (b % 16)] = ts := ⟨_, rfl⟩
          rw [hts]
          have hs2 : ts.size = 2 := by rw [← hts]; rfl
          have HT := Lib.hid hts
          clear hts
          go_wp2_with fail
          go_ret
          exact ⟨ret_str (by rw [HF.out, ← HT.out]; exact bsT_app [92, 120] [hexT (b / 16), hexT (b % 16)]), HB.out⟩
        · have k2 : decide (32 ≤ (b : Int)) = false := decide_eq_false (by omega)
          clear h2
          go_wp2_with fail
          refine (refbyte_any b _ hb).mono ?_
          rintro e w1 ⟨rfl, bx⟩
          go_wp2_with fail
          refine (refhex_any b _ hb).mono ?_
          rintro e w2 ⟨rfl, by2⟩
          have HB := Lib.hid (bx.trans (by2.mono bx.size))
          clear bx by2
          obtain ⟨ts, hts⟩ : ∃ ts, bsT [hexT (b / 16), hexT (b % 16)] = ts := ⟨_, rfl⟩
          rw [hts]
          have hs2 : ts.size = 2 := by rw [← hts]; rfl
          have HT := Lib.hid hts
          clear hts
          go_wp2_with fail
          go_ret
          exact ⟨ret_str (by rw [HF.out, ← HT.out]; exact bsT_app [92, 120] [hexT (b / 16), hexT (b % 16)]), HB.out⟩
set_option maxHeartbeats 8000000 in
set_option maxRecDepth 1000000 in
theorem refbyte14_any (b : Nat) (w : World) (hb : b < 256) :
    Calls Tryd.prog 13 #[.int .i64 (b : Int)] w fun e w' => e = .returned (.string (bsT (byteT b))) ∧ Below w.heap.size w w' := by
  have hs := fun w => refsign_any b signsP w hb (fun c hc => by have := signsP_small c hc; omega) (by decide)
  have HS := Lib.hid hs
  clear hs
  go_enter Tryd.func13, Tryd.ntmps13
  go_wp2_with fail
  refine (HS.out _).mono ?_
  rintro e w1 ⟨rfl, bx⟩
  have HB := Lib.hid bx
  clear bx
  obtain ⟨ts, hts⟩ : ∃ ts, bsT (signT b signsP) = ts := ⟨_, rfl⟩
  rw [hts]
  have HT := Lib.hid hts
  clear hts
  go_wp2_with fail
  go_ret
  exact ⟨ret_str HT.out.symm, HB.out⟩
end Go.Proofs.YtpknglbpbodnbaaDoor
