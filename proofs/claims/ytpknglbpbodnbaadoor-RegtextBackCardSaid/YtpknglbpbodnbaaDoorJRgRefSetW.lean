/-
  The walk of the reference's Set. Conditions: the words fit.
-/
import Derived.Test.YtpknglbpbodnbaaDoorJRgSetW
namespace Go.Proofs.YtpknglbpbodnbaaDoor
set_option linter.unusedVariables false
set_option linter.unusedSimpArgs false
open Go.RowKit Go.Sort Cs Rg Go.ChangeShapes Go.WideShapes

theorem cnt_two {s : Nat → Int} {n a b : Nat} (hab : a < b) (hb : b < n) (h1 : hasS s a = true) (h2 : hasS s b = true) : 2 ≤ cnt s n := by
  induction n with
  | zero => omega
  | succ n ih =>
    rw [cnt_succ]
    by_cases e : b = n
    · subst e
      rw [if_pos h2]
      have := cnt_pos hab h1
      omega
    · have := ih (by omega)
      omega
theorem cnt_full {s : Nat → Int} {n : Nat} (h : cnt s n = n) : ∀ b, b < n → hasS s b = true := by
  induction n with
  | zero => intro b hb; omega
  | succ n ih =>
    intro b hb
    rw [cnt_succ] at h
    have h1 := cnt_le s n
    have h2 : hasS s n = true := by
      cases hc : hasS s n with
      | true => rfl
      | false => rw [hc] at h; simp at h; omega
    rw [if_pos h2] at h
    by_cases e : b = n
    · rw [e]; exact h2
    · exact ih (by omega) b (by omega)
theorem cnt_all {s : Nat → Int} {n : Nat} (h : ∀ b, b < n → hasS s b = true) : cnt s n = n := by
  induction n with
  | zero => rfl
  | succ n ih => rw [cnt_succ, ih fun b hb => h b (by omega), if_pos (h n (by omega))]
theorem cnt_zero {s : Nat → Int} {n : Nat} (h : cnt s n = 0) : ∀ b, b < n → hasS s b = false := fun b hb => by
  cases hc : hasS s b with
  | false => rfl
  | true => have := cnt_pos hb hc; omega
theorem none_iff {s : Nat → Int} (hs : SetIn s) : s4 s = none4 ↔ cnt s 256 = 0 := by
  constructor
  · intro h
    rw [← cnt_s4, h]
    exact cnt_none fun b hb => none4_has hb
  · intro h
    exact S4.ext_has (s4_in hs) none4_in fun b hb => by rw [s4_has s hb, none4_has hb, cnt_zero h b hb]
theorem all_iff {s : Nat → Int} (hs : SetIn s) : s4 s = all4 ↔ cnt s 256 = 256 := by
  constructor
  · intro h
    rw [← cnt_s4, h]
    exact cnt_all fun b hb => by unfold all4; rw [span4_has _ _ hb]; exact decide_eq_true ⟨by omega, by omega⟩
  · intro h
    exact S4.ext_has (s4_in hs) (span4_in 0 255) fun b hb => by
      rw [s4_has s hb]
      show _ = hasS (span4 0 255).f b
      rw [span4_has _ _ hb, cnt_full h b hb]
      exact (decide_eq_true ⟨by omega, by omega⟩).symm
theorem digit_two {s : Nat → Int} (h : s4 s = digit4) : 2 ≤ cnt s 256 := by
  have hh : ∀ b, b < 256 → 48 ≤ b → b ≤ 57 → hasS s b = true := fun b hb h1 h2 => by
    rw [← s4_has s hb, h]
    unfold digit4
    rw [span4_has _ _ hb]
    exact decide_eq_true ⟨h1, h2⟩
  exact cnt_two (a := 48) (b := 49) (by omega) (by omega) (hh 48 (by omega) (by omega) (by omega)) (hh 49 (by omega) (by omega) (by omega))
theorem word_two {s : Nat → Int} (h : s4 s = word4) : 2 ≤ cnt s 256 := by
  have hh : ∀ b, b < 256 → 48 ≤ b → b ≤ 57 → hasS s b = true := fun b hb h1 h2 => by
    rw [← s4_has s hb, h]
    unfold word4
    rw [s4_has _ hb]
    unfold wordF
    rw [has_or _ _ _ (orIn (ofIn _ _) (ofIn _ _)) (orIn (ofIn _ _) (ofIn _ _)), has_or _ _ _ (ofIn _ _) (ofIn _ _), has_of, decide_eq_true (show 48 ≤ b ∧ b ≤ 57 from ⟨h1, h2⟩)]
    simp
  exact cnt_two (a := 48) (b := 49) (by omega) (by omega) (hh 48 (by omega) (by omega) (by omega)) (hh 49 (by omega) (by omega) (by omega))
theorem runs_ref {s : Nat → Int} {k lo e : Nat} (hl : lo < 256) (h : hasS s lo = true) (he : endF s (256 - lo) lo = e) (hk : 256 ≤ lo + (k + 1)) : ∃ k2, runsF s (k + 1) lo = Rg.runT lo e ++ runsF s k2 (e + 1) ∧ 256 ≤ e + 1 + k2 := by
  have h1 := endF_le s (256 - lo) lo
  have h2 := endF_pos (n := 256 - lo) (by omega) h
  have h3 := endF_stop s (256 - lo) lo
  rw [he] at h1 h2 h3
  rw [runs_yes hl h he]
  by_cases h4 : e = 256
  · exact ⟨0, by rw [h4, runs_end (by omega), runs_end (by omega)], by omega⟩
  · obtain ⟨k, rfl⟩ : ∃ k', k = k' + 1 := ⟨k - 1, by omega⟩
    refine ⟨k, ?_, by omega⟩
    rw [runs_no (by omega) (h3.resolve_left (by omega))]
theorem endF_self {s : Nat → Int} {n lo : Nat} (h : hasS s lo = false) : endF s n lo = lo := by
  cases n with
  | zero => rfl
  | succ n => rw [endF, if_neg (by rw [h]; simp)]
/-- the state of its loops -/
structure Lq (w w' : World) (s : Nat → Int) : Prop where
  a : Four w' w.heap.size s
  below : Below w.heap.size w w'
  lt : w.heap.size < w'.heap.size
theorem Lq.go {w w' w2 : World} {s : Nat → Int} (h : Lq w w' s) (hb : Below w'.heap.size w' w2) : Lq w w2 s :=
  ⟨h.a.below hb h.lt, h.below.trans (hb.mono h.below.size), Nat.lt_of_lt_of_le h.lt hb.size⟩
set_option maxHeartbeats 8000000 in
set_option maxRecDepth 1000000 in
theorem refset14_any (s : Nat → Int) (w : World) (hs : SetIn s) :
    Calls Tryd.prog 11 #[setV s] w fun e w' => e = .returned (.string (bsT (setT (s4 s)))) ∧ Below w.heap.size w w' := by
  have HS := Lib.hid hs
  clear hs
  obtain ⟨R, hR⟩ : ∃ R, bsT (setT (s4 s)) = R := ⟨_, rfl⟩
  have HR := Lib.hid hR
  rw [hR]
  clear hR
  have h1 := refdigits_any
  have h2 := refwords_any
  obtain ⟨f, hf1⟩ : ∃ f, ofS 48 57 = f := ⟨_, rfl⟩
  obtain ⟨f7, hf7⟩ : ∃ f, wordF = f := ⟨_, rfl⟩
  rw [hf1] at h1
  rw [hf7] at h2
  have H := Lib.hid (And.intro h1 h2)
  have HF := Lib.hid (And.intro hf1 hf7)
  clear h1 h2 hf1 hf7
  unfold setV at H ⊢
  go_enter Tryd.func11, Tryd.ntmps11
  go_wp2_with fail
  have e1 := Four.new w s 24
  have b1 : Below w.heap.size w (w.alloc (.cells #[.int .u64 (s 0), .int .u64 (s 1), .int .u64 (s 2), .int .u64 (s 3)] 24)) := (Below.refl _ _).alloc (Nat.le_refl _) _
  have hz : w.heap.size < (w.alloc (.cells #[.int .u64 (s 0), .int .u64 (s 1), .int .u64 (s 2), .int .u64 (s 3)] 24)).heap.size := by simp
  have L := Lib.hid (Lq.mk e1 b1 hz)
  clear e1 b1 hz
  generalize w.alloc (.cells #[.int .u64 (s 0), .int .u64 (s 1), .int .u64 (s 2), .int .u64 (s 3)] 24) = w0 at *
  go_loopw [3, 4] (fun n c wr => ∃ i : Nat, i ≤ 256 ∧ c = .int .i64 (i : Int) ∧ n = .int .i64 (cnt s i : Int) ∧ Hid (Lq w wr s)) (fun _ c _ => 256 - (intOf c).toNat)
  case atStart => exact ⟨0, by omega, rfl, rfl, L⟩
  case round =>
    clear L
    obtain ⟨i, hi, rfl, rfl, L⟩ := hrel
    have hcl := cnt_le s i
    have hcs := cnt_succ s i
    by_cases hi6 : i < 256
    · have kl : decide ((i : Int) < 256) = true := decide_eq_true (by omega)
      have kl' : decide (i < 256) = true := decide_eq_true hi6
      have hix := fun w => refhas_any s (i : Int) w (by omega) (by omega) HS.out
      rw [Int.toNat_natCast] at hix
      obtain ⟨m, hm⟩ : ∃ m, cnt s i = m := ⟨_, rfl⟩
      rw [hm] at hcl hcs ⊢
      have a0 := L.out.a.cell 0 (by omega)
      have a1 := L.out.a.cell 1 (by omega)
      have a2 := L.out.a.cell 2 (by omega)
      have a3 := L.out.a.cell 3 (by omega)
      have HM := Lib.hid hm
      clear hm
      cases hh : hasS s i with
      | false =>
        rw [hh] at hix hcs
        have HIX := Lib.hid hix
        have HCS := Lib.hid hcs
        clear hix hh hcs
        go_wp2_with fail
        refine (HIX.out _).mono ?_
        rintro e v1 ⟨rfl, bx⟩
        have L1 := Lib.hid (L.out.go bx)
        clear bx L a0 a1 a2 a3
        go_wp2_with fail
        go_roundw
        case rel => exact ⟨i + 1, by omega, by go_num, by rw [HCS.out]; simp, L1⟩
        case measure => simp [intOf]; omega
      | true =>
        rw [hh] at hix hcs
        have HIX := Lib.hid hix
        have HCS := Lib.hid hcs
        clear hix hh hcs
        go_wp2_with fail
        refine (HIX.out _).mono ?_
        rintro e v1 ⟨rfl, bx⟩
        have L1 := Lib.hid (L.out.go bx)
        clear bx L a0 a1 a2 a3
        go_wp2_with fail
        go_roundw
        case rel => exact ⟨i + 1, by omega, by go_num, by rw [HCS.out]; go_num, L1⟩
        case measure => simp [intOf]; omega
    · have kl : decide ((i : Int) < 256) = false := decide_eq_false (by omega)
      have kl' : decide (i < 256) = false := decide_eq_false hi6
      have hi256 : i = 256 := by omega
      have ni := none_iff HS.out
      have ai := all_iff HS.out
      have d2 := digit_two (s := s)
      have w2 := word_two (s := s)
      obtain ⟨n, hn⟩ : ∃ n, cnt s i = n := ⟨_, rfl⟩
      rw [hn] at hcl ⊢
      rw [hi256] at hn
      rw [hn] at ni ai d2 w2
      have N := Lib.hid (And.intro ni (And.intro ai (And.intro d2 (And.intro w2 hn))))
      have hcl6 : n ≤ 256 := by omega
      clear ni ai d2 w2 hn hcs hi6 hi hi256 hcl
      by_cases h0 : n = 0
      · subst h0
        go_wp2_with fail
        go_ret
        exact ⟨ret_str (by rw [← HR.out, setT_none (by simpa using N.out.1)]; rfl), L.out.below⟩
      have k0 : ((n : Int) == 0) = false := by rw [beq_eq_false_iff_ne]; omega
      by_cases h6 : n = 256
      · subst h6
        go_wp2_with fail
        go_ret
        exact ⟨ret_str (by rw [← HR.out, setT_all (fun e => h0 (N.out.1.1 e)) (by simpa using N.out.2.1)]; rfl), L.out.below⟩
      have k6 : ((n : Int) == 256) = false := by rw [beq_eq_false_iff_ne]; omega
      have hn0 : ¬ s4 s = none4 := fun e => h0 (N.out.1.1 e)
      have hn1 : ¬ s4 s = all4 := fun e => h6 (N.out.2.1.1 e)
      by_cases h1 : n = 1
      · have hn2 : ¬ s4 s = digit4 := fun e => by have := N.out.2.2.1 e; omega
        have hn3 : ¬ s4 s = word4 := fun e => by have := N.out.2.2.2.1 e; omega
        have hL := least_lt (N.out.2.2.2.2.trans h1)
        have hT := setT_one hn0 hn1 hn2 hn3 (N.out.2.2.2.2.trans h1)
        obtain ⟨m, hm⟩ : ∃ m, leastF s 256 0 = m := ⟨_, rfl⟩
        rw [hm] at hL hT
        have HL := Lib.hid (And.intro hL hT)
        have hm6 := hL.1
        clear hL hT hm hn0 hn1 hn2 hn3
        have a0 := L.out.a.cell 0 (by omega)
        have a1 := L.out.a.cell 1 (by omega)
        have a2 := L.out.a.cell 2 (by omega)
        have a3 := L.out.a.cell 3 (by omega)
        subst h1
        go_wp2_with fail
        refine (reffirst_any s m _ HS.out HL.out.1.1 HL.out.1.2.1 HL.out.1.2.2).mono ?_
        rintro e w7 ⟨rfl, bx⟩
        have L1 := Lib.hid (L.out.go bx)
        clear bx L a0 a1 a2 a3
        go_wp2_with fail
        refine (refbyte14_any m _ hm6).mono ?_
        rintro e w8 ⟨rfl, bx⟩
        have L2 := Lib.hid (L1.out.go bx)
        clear bx L1
        obtain ⟨ts, hts⟩ : ∃ ts, bsT (byteT m) = ts := ⟨_, rfl⟩
        rw [hts]
        have HTS := Lib.hid hts
        clear hts
        go_wp2_with fail
        go_ret
        exact ⟨ret_str (by rw [← HR.out, HL.out.2, HTS.out]), L2.out.below⟩
      have k1 : ((n : Int) == 1) = false := by rw [beq_eq_false_iff_ne]; omega
      have N2 := Lib.hid (And.intro hn0 (And.intro hn1 (fun e => h1 (N.out.2.2.2.2.symm.trans e) : ¬ cnt s 256 = 1)))
      clear hn0 hn1 h0 h6 h1 N
      go_wp2_with fail
      have e2 := run_eq_s4 s f
      have hd : (decide (s4 s = s4 f) = true) ↔ s4 s = digit4 := by rw [decide_eq_true_eq, ← HF.out.1]; exact Iff.rfl
      have e3 := run_eq_s4 s f7
      have hwd : (decide (s4 s = s4 f7) = true) ↔ s4 s = word4 := by rw [decide_eq_true_eq, ← HF.out.2]; exact Iff.rfl
      obtain ⟨c2, hc2⟩ : ∃ c, decide (s4 s = s4 f) = c := ⟨_, rfl⟩
      obtain ⟨c3, hc3⟩ : ∃ c, decide (s4 s = s4 f7) = c := ⟨_, rfl⟩
      rw [hc2] at e2 hd
      rw [hc3] at e3 hwd
      have HN := Lib.hid (And.intro hd hwd)
      clear hd hwd hc2 hc3
      have q0 := reg1 L.out.a 0 (by omega) L.out.lt
      have q1 := reg1 L.out.a 1 (by omega) L.out.lt
      have q2 := reg1 L.out.a 2 (by omega) L.out.lt
      have q3 := reg1 L.out.a 3 (by omega) L.out.lt
      refine wp_region_quiet_below (by kernel_rfl) (by kernel_rfl) ?_
      repeat (go_big_quiet_step (fail))
      go_big_quiet_step ((go_at_call 35; exact Calls.regrown_of (H.out.1 _)))
      repeat (go_big_quiet_step (fail))
      refine wpQuiet_nil ?_
      intro _ hw'
      obtain ⟨⟨dq, osq⟩, hw''⟩ := hw'
      subst hw''
      have bb : Below wr.heap.size wr (Sort.grow (redrawn wr dq) osq) := below_regrown wr dq osq
      have L5 := Lib.hid (L.out.go bb)
      clear L bb q0 q1 q2 q3 e2
      generalize Sort.grow (redrawn wr dq) osq = w5 at *
      cases c2 with
      | true =>
        go_wp2_with fail
        go_ret
        exact ⟨ret_str (by rw [← HR.out, setT_digit N2.out.1 N2.out.2.1 (by simpa using HN.out.1)]; rfl), L5.out.below⟩
      | false =>
      go_wp2_with fail
      have q0 := reg1 L5.out.a 0 (by omega) L5.out.lt
      have q1 := reg1 L5.out.a 1 (by omega) L5.out.lt
      have q2 := reg1 L5.out.a 2 (by omega) L5.out.lt
      have q3 := reg1 L5.out.a 3 (by omega) L5.out.lt
      refine wp_region_quiet_below (by kernel_rfl) (by kernel_rfl) ?_
      repeat (go_big_quiet_step (fail))
      go_big_quiet_step ((go_at_call 36; exact Calls.regrown_of (H.out.2 _)))
      repeat (go_big_quiet_step (fail))
      refine wpQuiet_nil ?_
      intro _ hw'
      obtain ⟨⟨dq, osq⟩, hw''⟩ := hw'
      subst hw''
      have bb : Below w5.heap.size w5 (Sort.grow (redrawn w5 dq) osq) := below_regrown w5 dq osq
      have L6 := Lib.hid (L5.out.go bb)
      clear L5 bb q0 q1 q2 q3 e3
      generalize Sort.grow (redrawn w5 dq) osq = w6 at *
      cases c3 with
      | true =>
        go_wp2_with fail
        go_ret
        exact ⟨ret_str (by rw [← HR.out, setT_word N2.out.1 N2.out.2.1 (by simpa using HN.out.1) (by simpa using HN.out.2)]; rfl), L6.out.below⟩
      | false =>
      have hT := setT_runs N2.out.1 N2.out.2.1 (by simpa using HN.out.1) (by simpa using HN.out.2) N2.out.2.2
      have HT := Lib.hid hT
      clear hT N2 HN H HF
      go_wp2_with fail
      go_loopw [5, 6] (fun o c wr => ∃ (lo k : Nat) (acc : List Nat), lo ≤ 257 ∧ c = .int .i64 (lo : Int) ∧ o = .string (bsT (91 :: acc)) ∧ Hid (acc ++ runsF s k lo = runsF s 256 0 ∧ 256 ≤ lo + k ∧ acc.length ≤ 9 * lo) ∧ Hid (Lq w wr s)) (fun _ c _ => 257 - (intOf c).toNat)
      case atStart => exact ⟨0, 256, [], by omega, rfl, rfl, Lib.hid ⟨rfl, by omega, by simp⟩, L6⟩
      case round =>
        clear L6
        obtain ⟨lo, k, acc, hl, rfl, rfl, X, L⟩ := hrel
        by_cases hlo : lo < 256
        · have kl : decide ((lo : Int) < 256) = true := decide_eq_true (by omega)
          have kl' : decide (lo < 256) = true := decide_eq_true hlo
          obtain ⟨k, rfl⟩ : ∃ k', k = k' + 1 := ⟨k - 1, by have := X.out.2.1; omega⟩
          go_wp2_with fail
          go_loopw [7] (fun c wr2 => ∃ hi : Nat, lo ≤ hi ∧ hi ≤ 256 ∧ c = .int .i64 (hi : Int) ∧ Hid (endF s (256 - lo) lo = endF s (256 - hi) hi) ∧ Hid (Lq w wr2 s)) (fun c _ => 256 - (intOf c).toNat)
          case atStart => exact ⟨lo, Nat.le_refl _, by omega, rfl, Lib.hid rfl, L⟩
          case round =>
            clear L
            obtain ⟨hi, hlh, hh5, rfl, EE, L1⟩ := hrel
            by_cases hlt : hi < 256
            · have k5 : decide ((hi : Int) < 256) = true := decide_eq_true (by omega)
              have k5' : decide (hi < 256) = true := decide_eq_true hlt
              have hix := fun w => refhas_any s (hi : Int) w (by omega) (by omega) HS.out
              rw [Int.toNat_natCast] at hix
              obtain ⟨j, hj⟩ : ∃ j, 256 - hi = j + 1 := ⟨255 - hi, by omega⟩
              have a0 := L1.out.a.cell 0 (by omega)
              have a1 := L1.out.a.cell 1 (by omega)
              have a2 := L1.out.a.cell 2 (by omega)
              have a3 := L1.out.a.cell 3 (by omega)
              cases hh2 : hasS s hi with
              | true =>
                rw [hh2] at hix
                have HIX := Lib.hid hix
                have hE : endF s (256 - hi) hi = endF s (256 - (hi + 1)) (hi + 1) := by
                  rw [hj, endF, if_pos hh2]
                  congr 1
                  omega
                have HE := Lib.hid hE
                clear hix hh2 hE hj
                go_wp2_with fail
                refine (HIX.out _).mono ?_
                rintro e v2 ⟨rfl, bx⟩
                have L2 := Lib.hid (L1.out.go bx)
                clear bx L1 a0 a1 a2 a3 HIX
                go_wp2_with fail
                go_roundw
                case rel => exact ⟨hi + 1, by omega, by omega, by go_num, Lib.hid (EE.out.trans HE.out), L2⟩
                case measure => simp [intOf]; omega
              | false =>
                rw [hh2] at hix
                have HIX := Lib.hid hix
                have EQ := Lib.hid (EE.out.trans (endF_self hh2))
                clear hix hh2 hj
                go_wp2_with fail
                refine (HIX.out _).mono ?_
                rintro e v1 ⟨rfl, bx⟩
                have L9 := Lib.hid (L1.out.go bx)
                clear bx L1 a0 a1 a2 a3 HIX
                have hsz : (bsT (91 :: acc)).size ≤ 5000 := by rw [bsT_size, List.length_cons]; have := X.out.2.2; omega
                obtain ⟨ta, hta⟩ : ∃ ts, bsT (91 :: acc) = ts := ⟨_, rfl⟩
                rw [hta] at hsz ⊢
                have HACC := Lib.hid hta
                clear hta
                by_cases hA : hi = lo
                · have kA : decide ((lo : Int) < (hi : Int)) = false := decide_eq_false (by omega)
                  have kA' : decide (lo < hi) = false := decide_eq_false (by omega)
                  have kB : decide ((lo : Int) + 2 < (hi : Int)) = false := decide_eq_false (by omega)
                  have kB' : decide (lo + 2 < hi) = false := decide_eq_false (by omega)
                  have kC : decide ((lo : Int) + 1 < (hi : Int)) = false := decide_eq_false (by omega)
                  have kC' : decide (lo + 1 < hi) = false := decide_eq_false (by omega)
                  have hnot : hasS s lo = false := by
                    cases hc : hasS s lo with
                    | false => rfl
                    | true => have := endF_pos (n := 256 - lo) (by omega) hc; have := EQ.out; omega
                  have HNOT := Lib.hid hnot
                  have HAE := Lib.hid hA
                  clear hnot hA
                  go_wp2_with fail
                  go_roundw
                  case rel => exact ⟨hi + 1, k, acc, by omega, by go_num, by rw [HACC.out], Lib.hid ⟨by rw [← X.out.1, runs_no hlo HNOT.out, HAE.out], by have := X.out.2.1; have := HAE.out; omega, by have := X.out.2.2; have := HAE.out; omega⟩, L9⟩
                  case measure => simp [intOf]; have := HAE.out; omega
                · have hyes : hasS s lo = true := by
                    cases hc : hasS s lo with
                    | true => rfl
                    | false => have := endF_self (n := 256 - lo) hc; have := EQ.out; omega
                  obtain ⟨k2, hk2⟩ := runs_ref hlo hyes EQ.out X.out.2.1
                  have HK := Lib.hid hk2
                  clear hk2 hyes
                  have hil : lo < hi := by omega
                  have kA : decide ((lo : Int) < (hi : Int)) = true := decide_eq_true (by omega)
                  have kA' : decide (lo < hi) = true := decide_eq_true (by omega)
                  have hsg := fun w => refsign_any (hi - 1) signsC w (by omega) (fun c hc => by have := signsC_small c hc; omega) (by decide)
                  rw [show ((hi - 1 : Nat) : Int) = (hi : Int) - 1 by omega] at hsg
                  have SG := Lib.hid hsg
                  clear hsg
                  by_cases hB : hi = lo + 1
                  · have kB : decide ((lo : Int) + 2 < (hi : Int)) = false := decide_eq_false (by omega)
                    have kB' : decide (lo + 2 < hi) = false := decide_eq_false (by omega)
                    have kC : decide ((lo : Int) + 1 < (hi : Int)) = false := decide_eq_false (by omega)
                    have kC' : decide (lo + 1 < hi) = false := decide_eq_false (by omega)
                    have hrt : Rg.runT lo hi = withinT lo := by unfold Rg.runT; rw [if_neg (by omega), if_neg (by omega)]; simp
                    have HRT := Lib.hid hrt
                    have HAE := Lib.hid (And.intro hA hB)
                    clear hrt hA hB
                    go_wp2_with fail
                    refine (refsign_any lo signsC _ hlo (fun c hc => by have := signsC_small c hc; omega) (by decide)).mono ?_
                    rintro e v2 ⟨rfl, bx⟩
                    have L2 := Lib.hid (L9.out.go bx)
                    clear bx L9
                    obtain ⟨t1, ht1⟩ : ∃ ts, bsT (signT lo signsC) = ts := ⟨_, rfl⟩
                    rw [ht1]
                    have hz1 : t1.size ≤ 4 := by rw [← ht1, bsT_size]; exact withinT_len _
                    have T1 := Lib.hid ht1
                    clear ht1
                    go_wp2_with fail
                    go_roundw
                    case rel => exact ⟨hi + 1, k2, acc ++ Rg.runT lo hi, by omega, by go_num, by (rw [HRT.out, ← HACC.out, ← T1.out, bsT_app]; rfl), Lib.hid ⟨by rw [← X.out.1, HK.out.1, List.append_assoc], HK.out.2, by have := runT_len lo hi; have := X.out.2.2; simp only [List.length_append]; omega⟩, L2⟩
                    case measure => simp [intOf]; omega
                  · by_cases hC : hi = lo + 2
                    · have kB : decide ((lo : Int) + 2 < (hi : Int)) = false := decide_eq_false (by omega)
                      have kB' : decide (lo + 2 < hi) = false := decide_eq_false (by omega)
                      have kC : decide ((lo : Int) + 1 < (hi : Int)) = true := decide_eq_true (by omega)
                      have kC' : decide (lo + 1 < hi) = true := decide_eq_true (by omega)
                      have hrt : Rg.runT lo hi = withinT lo ++ withinT (hi - 1) := by unfold Rg.runT; rw [if_neg (by omega), if_pos (by omega)]; simp
                      have HRT := Lib.hid hrt
                      have HAE := Lib.hid (And.intro hA (And.intro hB hC))
                      clear hrt hA hB hC
                      go_wp2_with fail
                      refine (refsign_any lo signsC _ hlo (fun c hc => by have := signsC_small c hc; omega) (by decide)).mono ?_
                      rintro e v2 ⟨rfl, bx⟩
                      have L2 := Lib.hid (L9.out.go bx)
                      clear bx L9
                      obtain ⟨t1, ht1⟩ : ∃ ts, bsT (signT lo signsC) = ts := ⟨_, rfl⟩
                      rw [ht1]
                      have hz1 : t1.size ≤ 4 := by rw [← ht1, bsT_size]; exact withinT_len _
                      have T1 := Lib.hid ht1
                      clear ht1
                      go_wp2_with fail
                      refine (SG.out _).mono ?_
                      rintro e v3 ⟨rfl, bx⟩
                      have L3 := Lib.hid (L2.out.go bx)
                      clear bx L2
                      obtain ⟨t2, ht2⟩ : ∃ ts, bsT (signT (hi - 1) signsC) = ts := ⟨_, rfl⟩
                      rw [ht2]
                      have hz2 : t2.size ≤ 4 := by rw [← ht2, bsT_size]; exact withinT_len _
                      have T2 := Lib.hid ht2
                      clear ht2
                      go_wp2_with fail
                      go_roundw
                      case rel => exact ⟨hi + 1, k2, acc ++ Rg.runT lo hi, by omega, by go_num, by (rw [HRT.out, ← HACC.out, ← T1.out, ← T2.out, bsT_app, bsT_app]; simp [withinT]), Lib.hid ⟨by rw [← X.out.1, HK.out.1, List.append_assoc], HK.out.2, by have := runT_len lo hi; have := X.out.2.2; simp only [List.length_append]; omega⟩, L3⟩
                      case measure => simp [intOf]; omega
                    · have kB : decide ((lo : Int) + 2 < (hi : Int)) = true := decide_eq_true (by omega)
                      have kB' : decide (lo + 2 < hi) = true := decide_eq_true (by omega)
                      have kC : decide ((lo : Int) + 1 < (hi : Int)) = true := decide_eq_true (by omega)
                      have kC' : decide (lo + 1 < hi) = true := decide_eq_true (by omega)
                      have hrt : Rg.runT lo hi = withinT lo ++ [45] ++ withinT (hi - 1) := by unfold Rg.runT; rw [if_pos (by omega), if_pos (by omega)]
                      have HRT := Lib.hid hrt
                      have HAE := Lib.hid (And.intro hA (And.intro hB hC))
                      clear hrt hA hB hC
                      go_wp2_with fail
                      refine (refsign_any lo signsC _ hlo (fun c hc => by have := signsC_small c hc; omega) (by decide)).mono ?_
                      rintro e v2 ⟨rfl, bx⟩
                      have L2 := Lib.hid (L9.out.go bx)
                      clear bx L9
                      obtain ⟨t1, ht1⟩ : ∃ ts, bsT (signT lo signsC) = ts := ⟨_, rfl⟩
                      rw [ht1]
                      have hz1 : t1.size ≤ 4 := by rw [← ht1, bsT_size]; exact withinT_len _
                      have T1 := Lib.hid ht1
                      clear ht1
                      go_wp2_with fail
                      refine (SG.out _).mono ?_
                      rintro e v3 ⟨rfl, bx⟩
                      have L3 := Lib.hid (L2.out.go bx)
                      clear bx L2
                      obtain ⟨t2, ht2⟩ : ∃ ts, bsT (signT (hi - 1) signsC) = ts := ⟨_, rfl⟩
                      rw [ht2]
                      have hz2 : t2.size ≤ 4 := by rw [← ht2, bsT_size]; exact withinT_len _
                      have T2 := Lib.hid ht2
                      clear ht2
                      go_wp2_with fail
                      go_roundw
                      case rel => exact ⟨hi + 1, k2, acc ++ Rg.runT lo hi, by omega, by go_num, by (rw [HRT.out, ← HACC.out, ← T1.out, ← T2.out, show (⟨#[45]⟩ : ByteArray) = bsT [45] from rfl, bsT_app, bsT_app, bsT_app]; simp [withinT]), Lib.hid ⟨by rw [← X.out.1, HK.out.1, List.append_assoc], HK.out.2, by have := runT_len lo hi; have := X.out.2.2; simp only [List.length_append]; omega⟩, L3⟩
                      case measure => simp [intOf]; omega
            · have k5 : decide ((hi : Int) < 256) = false := decide_eq_false (by omega)
              have k5' : decide (hi < 256) = false := decide_eq_false hlt
              have EQ := Lib.hid (EE.out.trans (show endF s (256 - hi) hi = hi by rw [show 256 - hi = 0 by omega]; rfl))
              have L9 := L1
              clear L1
              have hsz : (bsT (91 :: acc)).size ≤ 5000 := by rw [bsT_size, List.length_cons]; have := X.out.2.2; omega
              obtain ⟨ta, hta⟩ : ∃ ts, bsT (91 :: acc) = ts := ⟨_, rfl⟩
              rw [hta] at hsz ⊢
              have HACC := Lib.hid hta
              clear hta
              by_cases hA : hi = lo
              · have kA : decide ((lo : Int) < (hi : Int)) = false := decide_eq_false (by omega)
                have kA' : decide (lo < hi) = false := decide_eq_false (by omega)
                have kB : decide ((lo : Int) + 2 < (hi : Int)) = false := decide_eq_false (by omega)
                have kB' : decide (lo + 2 < hi) = false := decide_eq_false (by omega)
                have kC : decide ((lo : Int) + 1 < (hi : Int)) = false := decide_eq_false (by omega)
                have kC' : decide (lo + 1 < hi) = false := decide_eq_false (by omega)
                have hnot : hasS s lo = false := by
                  cases hc : hasS s lo with
                  | false => rfl
                  | true => have := endF_pos (n := 256 - lo) (by omega) hc; have := EQ.out; omega
                have HNOT := Lib.hid hnot
                have HAE := Lib.hid hA
                clear hnot hA
                go_wp2_with fail
                go_roundw
                case rel => exact ⟨hi + 1, k, acc, by omega, by go_num, by rw [HACC.out], Lib.hid ⟨by rw [← X.out.1, runs_no hlo HNOT.out, HAE.out], by have := X.out.2.1; have := HAE.out; omega, by have := X.out.2.2; have := HAE.out; omega⟩, L9⟩
                case measure => simp [intOf]; have := HAE.out; omega
              · have hyes : hasS s lo = true := by
                  cases hc : hasS s lo with
                  | true => rfl
                  | false => have := endF_self (n := 256 - lo) hc; have := EQ.out; omega
                obtain ⟨k2, hk2⟩ := runs_ref hlo hyes EQ.out X.out.2.1
                have HK := Lib.hid hk2
                clear hk2 hyes
                have hil : lo < hi := by omega
                have kA : decide ((lo : Int) < (hi : Int)) = true := decide_eq_true (by omega)
                have kA' : decide (lo < hi) = true := decide_eq_true (by omega)
                have hsg := fun w => refsign_any (hi - 1) signsC w (by omega) (fun c hc => by have := signsC_small c hc; omega) (by decide)
                rw [show ((hi - 1 : Nat) : Int) = (hi : Int) - 1 by omega] at hsg
                have SG := Lib.hid hsg
                clear hsg
                by_cases hB : hi = lo + 1
                · have kB : decide ((lo : Int) + 2 < (hi : Int)) = false := decide_eq_false (by omega)
                  have kB' : decide (lo + 2 < hi) = false := decide_eq_false (by omega)
                  have kC : decide ((lo : Int) + 1 < (hi : Int)) = false := decide_eq_false (by omega)
                  have kC' : decide (lo + 1 < hi) = false := decide_eq_false (by omega)
                  have hrt : Rg.runT lo hi = withinT lo := by unfold Rg.runT; rw [if_neg (by omega), if_neg (by omega)]; simp
                  have HRT := Lib.hid hrt
                  have HAE := Lib.hid (And.intro hA hB)
                  clear hrt hA hB
                  go_wp2_with fail
                  refine (refsign_any lo signsC _ hlo (fun c hc => by have := signsC_small c hc; omega) (by decide)).mono ?_
                  rintro e v2 ⟨rfl, bx⟩
                  have L2 := Lib.hid (L9.out.go bx)
                  clear bx L9
                  obtain ⟨t1, ht1⟩ : ∃ ts, bsT (signT lo signsC) = ts := ⟨_, rfl⟩
                  rw [ht1]
                  have hz1 : t1.size ≤ 4 := by rw [← ht1, bsT_size]; exact withinT_len _
                  have T1 := Lib.hid ht1
                  clear ht1
                  go_wp2_with fail
                  go_roundw
                  case rel => exact ⟨hi + 1, k2, acc ++ Rg.runT lo hi, by omega, by go_num, by (rw [HRT.out, ← HACC.out, ← T1.out, bsT_app]; rfl), Lib.hid ⟨by rw [← X.out.1, HK.out.1, List.append_assoc], HK.out.2, by have := runT_len lo hi; have := X.out.2.2; simp only [List.length_append]; omega⟩, L2⟩
                  case measure => simp [intOf]; omega
                · by_cases hC : hi = lo + 2
                  · have kB : decide ((lo : Int) + 2 < (hi : Int)) = false := decide_eq_false (by omega)
                    have kB' : decide (lo + 2 < hi) = false := decide_eq_false (by omega)
                    have kC : decide ((lo : Int) + 1 < (hi : Int)) = true := decide_eq_true (by omega)
                    have kC' : decide (lo + 1 < hi) = true := decide_eq_true (by omega)
                    have hrt : Rg.runT lo hi = withinT lo ++ withinT (hi - 1) := by unfold Rg.runT; rw [if_neg (by omega), if_pos (by omega)]; simp
                    have HRT := Lib.hid hrt
                    have HAE := Lib.hid (And.intro hA (And.intro hB hC))
                    clear hrt hA hB hC
                    go_wp2_with fail
                    refine (refsign_any lo signsC _ hlo (fun c hc => by have := signsC_small c hc; omega) (by decide)).mono ?_
                    rintro e v2 ⟨rfl, bx⟩
                    have L2 := Lib.hid (L9.out.go bx)
                    clear bx L9
                    obtain ⟨t1, ht1⟩ : ∃ ts, bsT (signT lo signsC) = ts := ⟨_, rfl⟩
                    rw [ht1]
                    have hz1 : t1.size ≤ 4 := by rw [← ht1, bsT_size]; exact withinT_len _
                    have T1 := Lib.hid ht1
                    clear ht1
                    go_wp2_with fail
                    refine (SG.out _).mono ?_
                    rintro e v3 ⟨rfl, bx⟩
                    have L3 := Lib.hid (L2.out.go bx)
                    clear bx L2
                    obtain ⟨t2, ht2⟩ : ∃ ts, bsT (signT (hi - 1) signsC) = ts := ⟨_, rfl⟩
                    rw [ht2]
                    have hz2 : t2.size ≤ 4 := by rw [← ht2, bsT_size]; exact withinT_len _
                    have T2 := Lib.hid ht2
                    clear ht2
                    go_wp2_with fail
                    go_roundw
                    case rel => exact ⟨hi + 1, k2, acc ++ Rg.runT lo hi, by omega, by go_num, by (rw [HRT.out, ← HACC.out, ← T1.out, ← T2.out, bsT_app, bsT_app]; simp [withinT]), Lib.hid ⟨by rw [← X.out.1, HK.out.1, List.append_assoc], HK.out.2, by have := runT_len lo hi; have := X.out.2.2; simp only [List.length_append]; omega⟩, L3⟩
                    case measure => simp [intOf]; omega
                  · have kB : decide ((lo : Int) + 2 < (hi : Int)) = true := decide_eq_true (by omega)
                    have kB' : decide (lo + 2 < hi) = true := decide_eq_true (by omega)
                    have kC : decide ((lo : Int) + 1 < (hi : Int)) = true := decide_eq_true (by omega)
                    have kC' : decide (lo + 1 < hi) = true := decide_eq_true (by omega)
                    have hrt : Rg.runT lo hi = withinT lo ++ [45] ++ withinT (hi - 1) := by unfold Rg.runT; rw [if_pos (by omega), if_pos (by omega)]
                    have HRT := Lib.hid hrt
                    have HAE := Lib.hid (And.intro hA (And.intro hB hC))
                    clear hrt hA hB hC
                    go_wp2_with fail
                    refine (refsign_any lo signsC _ hlo (fun c hc => by have := signsC_small c hc; omega) (by decide)).mono ?_
                    rintro e v2 ⟨rfl, bx⟩
                    have L2 := Lib.hid (L9.out.go bx)
                    clear bx L9
                    obtain ⟨t1, ht1⟩ : ∃ ts, bsT (signT lo signsC) = ts := ⟨_, rfl⟩
                    rw [ht1]
                    have hz1 : t1.size ≤ 4 := by rw [← ht1, bsT_size]; exact withinT_len _
                    have T1 := Lib.hid ht1
                    clear ht1
                    go_wp2_with fail
                    refine (SG.out _).mono ?_
                    rintro e v3 ⟨rfl, bx⟩
                    have L3 := Lib.hid (L2.out.go bx)
                    clear bx L2
                    obtain ⟨t2, ht2⟩ : ∃ ts, bsT (signT (hi - 1) signsC) = ts := ⟨_, rfl⟩
                    rw [ht2]
                    have hz2 : t2.size ≤ 4 := by rw [← ht2, bsT_size]; exact withinT_len _
                    have T2 := Lib.hid ht2
                    clear ht2
                    go_wp2_with fail
                    go_roundw
                    case rel => exact ⟨hi + 1, k2, acc ++ Rg.runT lo hi, by omega, by go_num, by (rw [HRT.out, ← HACC.out, ← T1.out, ← T2.out, show (⟨#[45]⟩ : ByteArray) = bsT [45] from rfl, bsT_app, bsT_app, bsT_app]; simp [withinT]), Lib.hid ⟨by rw [← X.out.1, HK.out.1, List.append_assoc], HK.out.2, by have := runT_len lo hi; have := X.out.2.2; simp only [List.length_append]; omega⟩, L3⟩
                    case measure => simp [intOf]; omega
        · have kl : decide ((lo : Int) < 256) = false := decide_eq_false (by omega)
          have kl' : decide (lo < 256) = false := decide_eq_false hlo
          have hacc : acc = runsF s 256 0 := by rw [← X.out.1, runs_end (by omega)]; simp
          have hsz : (bsT (91 :: acc)).size ≤ 5000 := by rw [bsT_size, List.length_cons]; have := X.out.2.2; omega
          obtain ⟨ta, hta⟩ : ∃ ts, bsT (91 :: acc) = ts := ⟨_, rfl⟩
          rw [hta] at hsz ⊢
          have HACC := Lib.hid (And.intro hacc hta)
          clear hta hacc
          go_wp2_with fail
          go_ret
          exact ⟨ret_str (by
            rw [← HR.out, HT.out, ← HACC.out.1, ← HACC.out.2]
            show bsT (91 :: acc) ++ bsT [93] = _
            rw [bsT_app]
            simp), L.out.below⟩
end Go.Proofs.YtpknglbpbodnbaaDoor
