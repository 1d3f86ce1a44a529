/-
  The walk of the law CharsetLooks: it returns true. Conditions: the library's table lies as laid.
-/
import Derived.Test.YtifokkclkmdclaaDoorCsTurns
namespace Go.Proofs.YtifokkclkmdclaaDoor
set_option linter.unusedVariables false
open Go.RowKit Go.Sort Cs

/-- the least byte from j on, or -1 -/
def FirstIs (s : Nat → Int) (j : Nat) (q : Int) : Prop :=
  (q = -1 ∧ ∀ b, j ≤ b → b < 256 → hasS s b = false) ∨ (∃ m : Nat, q = m ∧ j ≤ m ∧ m < 256 ∧ hasS s m = true ∧ ∀ b, j ≤ b → b < m → hasS s b = false)
theorem first_hit (s : Nat → Int) (j : Nat) (hj : j < 256) (h : hasS s j = true) : FirstIs s j j := .inr ⟨j, rfl, Nat.le_refl _, hj, h, fun b h1 h2 => by omega⟩
theorem first_miss (s : Nat → Int) (j : Nat) (q : Int) (h : hasS s j = false) (hq : FirstIs s (j + 1) q) : FirstIs s j q := by
  have ext : ∀ b, j ≤ b → (b = j ∨ j + 1 ≤ b) := fun b h => by omega
  rcases hq with ⟨h1, h2⟩ | ⟨m, h1, h2, h3, h4, h5⟩
  · refine .inl ⟨h1, fun b hb hb2 => ?_⟩
    rcases ext b hb with rfl | hb3
    · exact h
    · exact h2 b hb3 hb2
  · refine .inr ⟨m, h1, by omega, h3, h4, fun b hb hb2 => ?_⟩
    rcases ext b hb with rfl | hb3
    · exact h
    · exact h5 b hb3 hb2
theorem first_of (s : Nat → Int) (q : Int) (w : World) (hs : SetIn s) (hq : FirstIs s 0 q) (hT : TabIn w) :
    Calls Tryd.prog 16 #[setV s] w fun e w' => e = .returned (.int .i64 q) ∧ Below w.heap.size w w' := by
  rcases hq with ⟨rfl, h⟩ | ⟨m, rfl, _, h3, h4, h5⟩
  · exact first_no s w hs fun b hb => h b (by omega) hb
  · exact first_yes s m w hs h3 h4 (fun b hb => h5 b (by omega) hb) hT

/-- the text of a set's bytes, byte by byte -/
structure Rises (s : Nat → Int) (t : ByteArray) : Prop where
  size : t.size = cnt s 256
  has : ∀ i (h : i < t.size), hasS s t[i].toNat = true
  up : ∀ i (h : i + 1 < t.size), t[i].toNat < t[i + 1].toNat
theorem bytesTo_mem (s : Nat → Int) (k : Nat) (hk : k ≤ 256) : ∀ c ∈ bytesTo s k, hasS s c.toNat = true ∧ c.toNat < k := by
  intro c hc
  obtain ⟨d, hd, rfl⟩ := List.mem_map.1 hc
  obtain ⟨h1, h2⟩ := List.mem_filter.1 hd
  have h3 : d < k := List.mem_range.1 h1
  have e : (UInt8.ofNat d).toNat = d := by rw [UInt8.toNat_ofNat']; omega
  rw [e]
  exact ⟨h2, h3⟩
theorem bytesTo_sorted (s : Nat → Int) (k : Nat) (hk : k ≤ 256) : (bytesTo s k).Pairwise fun a b => a.toNat < b.toNat := by
  induction k with
  | zero => exact List.Pairwise.nil
  | succ k ih =>
    rw [bytesTo_succ]
    split
    · rw [List.pairwise_append]
      refine ⟨ih (by omega), List.pairwise_singleton _ _, fun a ha b hb => ?_⟩
      have := (bytesTo_mem s k (by omega) a ha).2
      simp at hb
      subst hb
      rw [UInt8.toNat_ofNat']
      omega
    · simpa using ih (by omega)
theorem rises_text (s : Nat → Int) : Rises s (txt (bytesTo s 256)) where
  size := by rw [txt_size, bytesTo_len]
  has := fun i h => by
    have hl : i < (bytesTo s 256).length := by rw [txt_size] at h; exact h
    exact (bytesTo_mem s 256 (by omega) _ (List.getElem_mem hl)).1
  up := fun i h => by
    have hl : i + 1 < (bytesTo s 256).length := by rw [txt_size] at h; exact h
    exact List.pairwise_iff_getElem.1 (bytesTo_sorted s 256 (by omega)) i (i + 1) (by omega) hl (by omega)

/-- is a byte among n bytes of a text? -/
def among (t : ByteArray) (b n : Nat) : Bool := (t.data.toList.take n).any fun c => decide (c.toNat = b)
theorem among_succ (t : ByteArray) (b n : Nat) (h : n < t.size) : among t b (n + 1) = (among t b n || decide (t[n].toNat = b)) := by
  unfold among
  rw [take_snoc t n h]
  simp
theorem among_all (t : ByteArray) (b : Nat) : hasS (textS t.data.toList) b = among t b t.size := by
  rw [has_text]
  unfold among
  rw [List.take_of_length_le (by simp)]

namespace charsetLooksW
set_option maxHeartbeats 4000000 in
set_option maxRecDepth 100000 in
theorem walk (s : Nat → Int) (t : ByteArray) (w : World) (hs : SetIn s) (ht : t.size ≤ maxLen) (hT : TabIn w) :
    Calls Tryd.prog 4 #[setV s, .string t] w fun e w' => e = .returned (.bool true) ∧ Below w.heap.size w w' := by
  have HT := Lib.hid hT
  have HS := Lib.hid hs
  clear hT hs
  unfold maxLen at ht
  by_cases h400 : 400 < t.size
  · have d0 : decide (400 < (t.size : Int)) = true := by simp; omega
    go_enter Tryd.func4, Tryd.ntmps4
    go_wp2_with fail
    refine (csworks_any _ (HT.out.below ((Below.refl _ _).alloc (Nat.le_refl _) _))).mono ?_
    rintro e w9 ⟨rfl, b9⟩
    go_wp2_with fail
    go_ret
    exact ⟨rfl, ((Below.refl _ _).alloc (Nat.le_refl _) _).trans (b9.mono (by simp))⟩
  have d0 : decide (400 < (t.size : Int)) = false := by simp; omega
  go_enter Tryd.func4, Tryd.ntmps4
  go_wp2_with fail
  have b0 : Below w.heap.size w (w.alloc (.cells #[.int .u64 (s 0), .int .u64 (s 1), .int .u64 (s 2), .int .u64 (s 3)] 24)) := (Below.refl _ _).alloc (Nat.le_refl _) _
  have f0 := Four.new w s 24
  refine (text_any s _ HS.out (HT.out.below b0)).mono ?_
  rintro e w1 ⟨rfl, b1⟩
  have F1 := Lib.hid (f0.below b1 (by simp))
  have B1 : Below w.heap.size w w1 := b0.trans (b1.mono (by simp))
  have hz1 : w.heap.size < w1.heap.size := by have := b1.size; simp at this; omega
  have HR := Lib.hid (rises_text s)
  generalize txt (bytesTo s 256) = u at *
  clear b0 f0 b1
  go_wp2_with fail
  go_loopw [6, 7, 8] (fun n q c wr => ∃ (j N : Nat) (Q : Int), j ≤ 256 ∧ c = .int .i64 (j - 1) ∧ n = .int .i64 N ∧ q = .int .i64 Q ∧ N ≤ 256 ∧ Hid (cnt s j + N = cnt s 256) ∧ Hid (FirstIs s j Q) ∧ Hid (Four wr w.heap.size s) ∧ Below w.heap.size w wr ∧ w.heap.size < wr.heap.size) (fun _ _ c _ => (intOf c + 1).toNat)
  case atStart => exact ⟨256, 0, -1, by omega, rfl, rfl, rfl, by omega, Lib.hid rfl, Lib.hid (.inl ⟨rfl, fun b h1 h2 => by omega⟩), F1, B1, hz1⟩
  case round =>
    clear F1 B1 hz1
    obtain ⟨j, N, Q, hj, rfl, rfl, rfl, hN, HC, HQ, F2, B2, hz2⟩ := hrel
    by_cases hj0 : 0 < j
    · obtain ⟨i, rfl⟩ : ∃ i, j = i + 1 := ⟨j - 1, by omega⟩
      have es : (((i + 1 : Nat) : Int) - 1) = (i : Int) := by push_cast; omega
      rw [es]
      clear es
      have c0 := F2.out.cell 0 (by omega)
      have c1 := F2.out.cell 1 (by omega)
      have c2 := F2.out.cell 2 (by omega)
      have c3 := F2.out.cell 3 (by omega)
      obtain ⟨B, hB⟩ : ∃ B, hasS s i = B := ⟨_, rfl⟩
      have HB := Lib.hid hB
      have hstep := cnt_succ s i
      rw [hB] at hstep
      have HST := Lib.hid hstep
      clear hB hstep
      go_wp2_with fail
      refine (refhas_lit s i B _ (by omega) HS.out HB.out).mono ?_
      rintro e w2 ⟨rfl, b2⟩
      have F3 := Lib.hid (F2.out.below b2 hz2)
      have B3 : Below w.heap.size w w2 := B2.trans (b2.mono B2.size)
      have hz3 : w.heap.size < w2.heap.size := by have := b2.size; omega
      clear c0 c1 c2 c3 F2 B2 b2 hz2
      have BB : B = true ∨ B = false := by cases B <;> simp
      rcases BB with rfl | rfl
      · go_wp2_with fail
        have h1 := HC.out
        have h2 := HST.out
        have h3 := cnt_le s 256
        simp only [if_true] at h2
        go_roundw
        case rel => exact ⟨i, N + 1, i, by omega, rfl, by simp, rfl, by omega, Lib.hid (by omega), Lib.hid (first_hit s i (by omega) HB.out), F3, B3, hz3⟩
        case measure => simp [intOf]
      · go_wp2_with fail
        have h1 := HC.out
        have h2 := HST.out
        simp only [Bool.false_eq_true, if_false] at h2
        go_roundw
        case rel => exact ⟨i, N, Q, by omega, rfl, rfl, rfl, by omega, Lib.hid (by omega), Lib.hid (first_miss s i Q HB.out HQ.out), F3, B3, hz3⟩
        case measure => simp [intOf]
    · have e : j = 0 := by omega
      subst e
      have hNc : cnt s 256 = N := by have := HC.out; have h0 : cnt s 0 = 0 := rfl; omega
      have hus : u.size = N := by rw [HR.out.size]; exact hNc
      have HNC := Lib.hid hNc
      have dN : ((u.size : Int) != (N : Int)) = false := by simp [hus]
      have HUS := Lib.hid hus
      have c0 := F2.out.cell 0 (by omega)
      have c1 := F2.out.cell 1 (by omega)
      have c2 := F2.out.cell 2 (by omega)
      have c3 := F2.out.cell 3 (by omega)
      clear hNc hus HC
      go_wp2_with fail
      refine (count_lit s N _ HS.out HNC.out).mono ?_
      rintro e w2 ⟨rfl, b2⟩
      have F3 := Lib.hid (F2.out.below b2 hz2)
      have B3 : Below w.heap.size w w2 := B2.trans (b2.mono B2.size)
      have hz3 : w.heap.size < w2.heap.size := by have := b2.size; omega
      clear c0 c1 c2 c3 F2 B2 b2 hz2
      have c0 := F3.out.cell 0 (by omega)
      have c1 := F3.out.cell 1 (by omega)
      have c2 := F3.out.cell 2 (by omega)
      have c3 := F3.out.cell 3 (by omega)
      go_wp2_with fail
      refine (first_of s Q _ HS.out HQ.out (HT.out.below B3)).mono ?_
      rintro e w3 ⟨rfl, b2⟩
      have F4 := Lib.hid (F3.out.below b2 hz3)
      have B4 : Below w.heap.size w w3 := B3.trans (b2.mono B3.size)
      have hz4 : w.heap.size < w3.heap.size := by have := b2.size; omega
      clear c0 c1 c2 c3 F3 B3 b2 hz3 HQ
      go_wp2_with fail
      have hu256 : u.size ≤ 256 := by have := HUS.out; omega
      clear dN
      go_loopw [9] (fun c wr => ∃ (i : Nat), i ≤ u.size ∧ c = .int .i64 i ∧ Hid (Four wr w.heap.size s) ∧ Below w.heap.size w wr ∧ w.heap.size < wr.heap.size) (fun c _ => u.size - (intOf c).toNat)
      case atStart => exact ⟨0, by omega, rfl, F4, B4, hz4⟩
      case round =>
        clear F4 B4 hz4
        obtain ⟨i, hi, rfl, F5, B5, hz5⟩ := hrel
        by_cases hlt : i < u.size
        · have hlt5 : (i : Int) < u.size := by omega
          have hhas := Lib.hid (HR.out.has i hlt)
          have h256 := UInt8.toNat_lt u[i]
          have c0 := reg1 F5.out 0 (by omega) hz5
          have c1 := reg1 F5.out 1 (by omega) hz5
          have c2 := reg1 F5.out 2 (by omega) hz5
          have c3 := reg1 F5.out 3 (by omega) hz5
          by_cases hi0 : i = 0
          · have di : decide (0 < i) = false := by simp; omega
            have HI0 := Lib.hid hi0
            clear hi0
            go_wp2_with fail
            refine wp_region_quiet_below (by kernel_rfl) (by kernel_rfl) ?_
            repeat (go_big_quiet_step (fail))
            go_big_quiet_step ((go_at_call 11; exact Calls.regrown_of (refhas_lit s u[i].toNat true _ h256 HS.out hhas.out)))
            repeat (go_big_quiet_step (fail))
            refine wpQuiet_nil ?_
            intro _ hw'
            obtain ⟨⟨dq, osq⟩, hw''⟩ := hw'
            subst hw''
            have bb : Below wr.heap.size wr (Sort.grow (redrawn wr dq) osq) := below_regrown wr dq osq
            have F6 := Lib.hid (F5.out.below bb hz5)
            have B6 : Below w.heap.size w (Sort.grow (redrawn wr dq) osq) := B5.trans (bb.mono B5.size)
            have hz6 : w.heap.size < (Sort.grow (redrawn wr dq) osq).heap.size := by have := bb.size; omega
            generalize Sort.grow (redrawn wr dq) osq = w6 at *
            clear c0 c1 c2 c3
            go_wp2_with fail
            go_roundw
            case rel => exact ⟨i + 1, by omega, by simp, F6, B6, hz6⟩
            case measure => simp [intOf]; omega
          · obtain ⟨k, hk⟩ : ∃ k, i = k + 1 := ⟨i - 1, by omega⟩
            have hup := HR.out.up k (by omega)
            have di : decide (0 < i) = true := by simp; omega
            have hk5 : (k : Int) < u.size := by omega
            have wk : IntKind.i64.wrap ((i : Int) - 1) = (k : Int) := by rw [IntWalk.i64_in _ (by omega)]; omega
            have hklt : k < u.size := by omega
            have hge : decide (u[i].toNat ≤ u[k].toNat) = false := by
              subst hk
              simp
              omega
            have HK := Lib.hid hk
            clear hk hup hi0
            go_wp2_with fail
            refine wp_region_quiet_below (by kernel_rfl) (by kernel_rfl) ?_
            repeat (go_big_quiet_step (fail))
            go_big_quiet_step ((go_at_call 11; exact Calls.regrown_of (refhas_lit s u[i].toNat true _ h256 HS.out hhas.out)))
            repeat (go_big_quiet_step (fail))
            refine wpQuiet_nil ?_
            intro _ hw'
            obtain ⟨⟨dq, osq⟩, hw''⟩ := hw'
            subst hw''
            have bb : Below wr.heap.size wr (Sort.grow (redrawn wr dq) osq) := below_regrown wr dq osq
            have F6 := Lib.hid (F5.out.below bb hz5)
            have B6 : Below w.heap.size w (Sort.grow (redrawn wr dq) osq) := B5.trans (bb.mono B5.size)
            have hz6 : w.heap.size < (Sort.grow (redrawn wr dq) osq).heap.size := by have := bb.size; omega
            generalize Sort.grow (redrawn wr dq) osq = w6 at *
            clear c0 c1 c2 c3 wk hge
            go_wp2_with fail
            go_roundw
            case rel => exact ⟨i + 1, by omega, by simp, F6, B6, hz6⟩
            case measure => simp [intOf]; omega
        · have e : i = u.size := by omega
          subst e
          go_wp2_with fail
          refine (texts_any t _ (by unfold maxLen; omega)).mono ?_
          rintro e w6 ⟨rfl, b6⟩
          have B6 : Below w.heap.size w w6 := B5.trans (b6.mono B5.size)
          clear F5 B5 b6 hz5
          obtain ⟨x, hx⟩ : ∃ x, textS t.data.toList = x := ⟨_, rfl⟩
          have hxin : SetIn x := by rw [← hx]; exact textIn _
          have hxhas : ∀ b, hasS x b = among t b t.size := fun b => by rw [← hx]; exact among_all t b
          rw [hx]
          clear hx
          have HXI := Lib.hid hxin
          have HXH := Lib.hid hxhas
          clear hxin hxhas
          go_wp2_with fail
          have F7 := Lib.hid (Four.new w6 x 24)
          have B7 : Below w.heap.size w (w6.alloc (.cells #[.int .u64 (x 0), .int .u64 (x 1), .int .u64 (x 2), .int .u64 (x 3)] 24)) := B6.alloc B6.size _
          go_loopw [11] (fun c wr => ∃ (b : Nat), b ≤ 256 ∧ c = .int .i64 b ∧ Hid (Four wr w6.heap.size x) ∧ Below w.heap.size w wr ∧ w6.heap.size < wr.heap.size) (fun c _ => 256 - (intOf c).toNat)
          case atStart => exact ⟨0, by omega, rfl, F7, B7, by simp⟩
          case round =>
            clear F7 B7
            obtain ⟨b, hb, rfl, F8, B8, hz8⟩ := hrel
            by_cases hlt8 : b < 256
            · go_wp2_with fail
              go_loop [12, 13] (fun v c => ∃ (n : Nat) (B : Bool), n ≤ t.size ∧ c = .int .i64 n ∧ v = .bool B ∧ Hid (among t b n = B)) (fun _ c => t.size - (intOf c).toNat)
              case atStart => exact ⟨0, false, by omega, rfl, rfl, Lib.hid (by simp [among])⟩
              case round =>
                obtain ⟨n, B, hn, rfl, rfl, HA⟩ := hrel
                by_cases hnt : n < t.size
                · have hnt5 : (n : Int) < t.size := by omega
                  have HST := Lib.hid (among_succ t b n hnt)
                  have BB : B = true ∨ B = false := by cases B <;> simp
                  have h256 := UInt8.toNat_lt t[n]
                  rcases BB with rfl | rfl
                  · go_wp2_with fail
                    go_round
                    case rel => exact ⟨n + 1, true, by omega, by simp, rfl, Lib.hid (by rw [HST.out, HA.out]; rfl)⟩
                    case measure => simp [intOf]; omega
                  · by_cases heq : t[n].toNat = b
                    · have dq : ((t[n].toNat : Int) == (b : Int)) = true := by simp [heq]
                      have HE := Lib.hid heq
                      clear heq
                      go_wp2_with fail
                      go_round
                      case rel => exact ⟨n + 1, true, by omega, by simp, rfl, Lib.hid (by rw [HST.out, HA.out]; simp [HE.out])⟩
                      case measure => simp [intOf]; omega
                    · have dq : ((t[n].toNat : Int) == (b : Int)) = false := by simp; omega
                      have HE := Lib.hid heq
                      clear heq
                      go_wp2_with fail
                      go_round
                      case rel => exact ⟨n + 1, false, by omega, by simp, rfl, Lib.hid (by rw [HST.out, HA.out]; simp [HE.out])⟩
                      case measure => simp [intOf]; omega
                · have e : n = t.size := by omega
                  subst e
                  have hbm : (b : Int) % 256 = b := by omega
                  have HH := Lib.hid (show hasS x b = B by rw [HXH.out, HA.out])
                  have c0 := F8.out.cell 0 (by omega)
                  have c1 := F8.out.cell 1 (by omega)
                  have c2 := F8.out.cell 2 (by omega)
                  have c3 := F8.out.cell 3 (by omega)
                  go_wp2_with fail
                  refine (has_lit x b B _ hlt8 HXI.out HH.out).mono ?_
                  rintro e w9 ⟨rfl, b9⟩
                  have F9 := Lib.hid (F8.out.below b9 hz8)
                  have B9 : Below w.heap.size w w9 := B8.trans (b9.mono B8.size)
                  have hz9 : w6.heap.size < w9.heap.size := by have := b9.size; omega
                  clear c0 c1 c2 c3 F8 B8 hz8 b9
                  have BB : B = true ∨ B = false := by cases B <;> simp
                  rcases BB with rfl | rfl
                  all_goals
                    go_wp2_with fail
                    go_roundw
                    case rel => exact ⟨b + 1, by omega, by simp, F9, B9, hz9⟩
                    case measure => simp [intOf]; omega
            · have e : b = 256 := by omega
              subst e
              go_wp2_with fail
              refine (csworks_any _ (HT.out.below B8)).mono ?_
              rintro e w9 ⟨rfl, b9⟩
              go_wp2_with fail
              go_ret
              exact ⟨rfl, B8.trans (b9.mono B8.size)⟩

open Go.ChangeShapes Go.WideShapes
theorem walkRaw {H : Type} (enc : TypeId × Value → H) (v0 : Value) (t : ByteArray) (W : World) {base : Nat} {d0 : DataW H} {p0 : List MemPlace}
    (wv0 : Value.okWide Tryd.prog W .any base 24 v0) (h0 : DataW.Trod enc Tryd.prog W 0 (fun _ => true) true 24 v0 d0 p0) (_lt0 : ∀ x ∈ p0, x.block < W.heap.size)
    (ht : t.size ≤ maxLen) (hL : laidMet Tryd.prog Rows.charsetLooksRow.laid W) :
    Calls Tryd.prog 4 #[v0, .string t] W fun e w' => e = .returned (.bool true) ∧ Below W.heap.size W w' := by
  obtain ⟨s, hs, rfl⟩ := open_setV wv0 h0
  exact walk s t W hs ht (tab_in hL (by kernel_rfl))
end charsetLooksW
end Go.Proofs.YtifokkclkmdclaaDoor
