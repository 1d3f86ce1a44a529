/-
  The walks of the program's sign, Byte and within. Conditions: a byte; the marked bytes are below 128.
-/
import Derived.Test.YtpknglbpbodnbaaDoorJRgStr
import Derived.Test.YtpknglbpbodnbaaDoorJKit
namespace Go.Proofs.YtpknglbpbodnbaaDoor
set_option linter.unusedVariables false
set_option linter.unusedSimpArgs false
open Go.RowKit Go.Sort Cs Rg Go.ChangeShapes Go.WideShapes

theorem digit_at (h : Nat) (hh : h < 16) (w : World) : (Instr.index 9 (.string ⟨#[48, 49, 50, 51, 52, 53, 54, 55, 56, 57, 97, 98, 99, 100, 101, 102]⟩) (.int .u8 (h : Int))).run Tryd.prog w = .ok (.int .u8 (hexT h : Int)) w := by
  obtain rfl | rfl | rfl | rfl | rfl | rfl | rfl | rfl | rfl | rfl | rfl | rfl | rfl | rfl | rfl | rfl : h = 0 ∨ h = 1 ∨ h = 2 ∨ h = 3 ∨ h = 4 ∨ h = 5 ∨ h = 6 ∨ h = 7 ∨ h = 8 ∨ h = 9 ∨ h = 10 ∨ h = 11 ∨ h = 12 ∨ h = 13 ∨ h = 14 ∨ h = 15 := by omega
  all_goals kernel_rfl
theorem two_back (V : World) (x y : Nat) (hx : x < 256) (hy : y < 256) : (convert 47 9 (.slice (some ⟨V.heap.size, 0, none⟩) 2 2)).run Tryd.prog (V.alloc (.cells #[.int .u8 (x : Int), .int .u8 (y : Int)] 5)) = .ok (.string (bsT [x, y])) (V.alloc (.cells #[.int .u8 (x : Int), .int .u8 (y : Int)] 5)) := by
  refine run_convert_bytes_back _ _ _ 5 _ 2 [UInt8.ofNat x, UInt8.ofNat y] Tryd.underlying47 Tryd.underlying5 Tryd.underlying9 fun j hj => ?_
  have hq := Blk.new V 5 #[.int .u8 (x : Int), .int .u8 (y : Int)]
  rw [Addr.add_lit, hq.cell]
  have : j = 0 ∨ j = 1 := by simp at hj; omega
  rcases this with rfl | rfl
  · show some _ = some (Value.int .u8 (((UInt8.ofNat x).toNat : Nat) : Int))
    rw [u8_nat hx]
    rfl
  · show some _ = some (Value.int .u8 (((UInt8.ofNat y).toNat : Nat) : Int))
    rw [u8_nat hy]
    rfl
theorem index_any (b : Nat) (l : List Nat) (w : World) (hb : b < 256) (hl : BytesL l) :
    Calls Tryd.prog 54 #[.string (bsT l), .int .u8 (b : Int)] w fun e w' => ∃ x : Int, e = .returned (.int .i64 x) ∧ decide (0 ≤ x) = decide (b ∈ l) ∧ w' = w := by
  refine (strings_IndexByte (bsT l) (b : Int) w).mono ?_
  rintro e w' ⟨rfl, rfl⟩
  exact ⟨_, rfl, index_ge hl hb, rfl⟩
set_option maxHeartbeats 8000000 in
set_option maxRecDepth 1000000 in
theorem sign_any (b : Nat) (l : List Nat) (w : World) (hb : b < 256) (hl : ∀ c ∈ l, c < 128) :
    Calls Tryd.prog 38 #[.int .u8 (b : Int), .string (bsT l)] w fun e w' => e = .returned (.string (bsT (signT b l))) ∧ Below w.heap.size w w' := by
  have hlB : BytesL l := fun c hc => by have := hl c hc; omega
  obtain ⟨R, hR⟩ : ∃ R, bsT (signT b l) = R := ⟨_, rfl⟩
  have HR := Lib.hid hR
  rw [hR]
  clear hR
  by_cases h1 : b ∈ l
  · have hd := decide_eq_true h1
    have h128 := hl b h1
    have HE := Lib.hid (enc_one h128)
    have hF : R = bsT [92, b] := by rw [← HR.out]; unfold signT; rw [if_pos h1]
    have HF := Lib.hid hF
    have hwb : IntKind.i32.wrap (b : Int) = (b : Int) := by rw [IntKind.wrap_i32]; omega
    obtain ⟨ts, hts⟩ : ∃ ts, bsT [b] = ts := ⟨_, rfl⟩
    have hsz : ts.size = 1 := by rw [← hts]; rfl
    have hcv : ∀ w, (convert 21 9 (.int .i32 (b : Int))).run Tryd.prog w = .ok (.string ts) w := fun w => by
      rw [run_convert_int_string w _ _ _ _ (by rw [Tryd.underlying21]; rfl) Tryd.underlying9, HE.out, hts]
    have hcv0 : ∀ w, (convert 5 21 (.int .u8 (b : Int))).run Tryd.prog w = .ok (.int .i32 (b : Int)) w := fun w => by
      have e := run_convert_int (P := Tryd.prog) (w := w) 5 21 .u8 (b : Int) (by rw [Tryd.underlying5]; rfl) Tryd.underlying21
      rw [show Tryd.prog.intKind 21 = .i32 from by kernel_rfl, hwb] at e
      exact e
    have HTS := Lib.hid hts
    clear hts
    clear h1 hF
    go_enter Tryd.func38, Tryd.ntmps38
    obtain ⟨ls, hls⟩ : ∃ ls, bsT l = ls := ⟨_, rfl⟩
    have hix := fun w => index_any b l w hb hlB
    rw [hls, hd] at hix
    rw [hls]
    have HIX := Lib.hid hix
    clear hls hix hd hl hlB h128 hwb HE
    go_wp2_with fail
    refine (HIX.out _).mono ?_
    rintro e w1 ⟨x, rfl, hx, rfl⟩
    go_wp2_with fail
    go_ret
    exact ⟨ret_str (by rw [HF.out, ← HTS.out]; exact bsT_app [92] [b]), Below.refl _ _⟩
  · have hd := decide_eq_false h1
    by_cases h2 : 32 ≤ b ∧ b ≤ 126
    · have HE := Lib.hid (enc_one (show b < 128 by omega))
      have hF : R = bsT [b] := by rw [← HR.out]; unfold signT; rw [if_neg h1, if_pos h2]
      have HF := Lib.hid hF
      have hwb : IntKind.i32.wrap (b : Int) = (b : Int) := by rw [IntKind.wrap_i32]; omega
      obtain ⟨ts, hts⟩ : ∃ ts, bsT [b] = ts := ⟨_, rfl⟩
      have hcv : ∀ w, (convert 21 9 (.int .i32 (b : Int))).run Tryd.prog w = .ok (.string ts) w := fun w => by
        rw [run_convert_int_string w _ _ _ _ (by rw [Tryd.underlying21]; rfl) Tryd.underlying9, HE.out, hts]
      have hcv0 : ∀ w, (convert 5 21 (.int .u8 (b : Int))).run Tryd.prog w = .ok (.int .i32 (b : Int)) w := fun w => by
        have e := run_convert_int (P := Tryd.prog) (w := w) 5 21 .u8 (b : Int) (by rw [Tryd.underlying5]; rfl) Tryd.underlying21
        rw [show Tryd.prog.intKind 21 = .i32 from by kernel_rfl, hwb] at e
        exact e
      have HTS := Lib.hid hts
      have k1 : decide (32 ≤ (b : Int)) = true := decide_eq_true (by omega)
      have k2 : decide ((b : Int) ≤ 126) = true := decide_eq_true (by omega)
      obtain ⟨ls, hls⟩ : ∃ ls, bsT l = ls := ⟨_, rfl⟩
      have hix := fun w => index_any b l w hb hlB
      rw [hls, hd] at hix
      rw [hls]
      have HIX := Lib.hid hix
      clear hls hix hd hl hlB hwb HE hts h1 h2 hF
      go_enter Tryd.func38, Tryd.ntmps38
      go_wp2_with fail
      refine (HIX.out _).mono ?_
      rintro e w1 ⟨x, rfl, hx, rfl⟩
      go_wp2_with fail
      go_ret
      exact ⟨ret_str (by rw [HF.out, HTS.out]), Below.refl _ _⟩
    · have hF : R = bsT [92, 120, hexT (b / 16), hexT (b % 16)] := by rw [← HR.out]; unfold signT; rw [if_neg h1, if_neg h2]
      have HF := Lib.hid hF
      have h2' : ¬ (32 ≤ (b : Int) ∧ (b : Int) ≤ 126) := by omega
      obtain ⟨ls, hls⟩ : ∃ ls, bsT l = ls := ⟨_, rfl⟩
      have hix := fun w => index_any b l w hb hlB
      rw [hls, hd] at hix
      rw [hls]
      have HIX := Lib.hid hix
      clear hls hix hd hl hlB h1 hF h2
      go_enter Tryd.func38, Tryd.ntmps38
      go_wp2_with fail
      refine (HIX.out _).mono ?_
      rintro e w1 ⟨x, rfl, hx, rfl⟩
      by_cases hlo : 32 ≤ b
      · have k1 : decide (32 ≤ (b : Int)) = true := decide_eq_true (by omega)
        have k2 : decide ((b : Int) ≤ 126) = false := decide_eq_false (by omega)
        go_wp2_with fail
        refine wp_region_T [] (by kernel_rfl) ?_
        intro V bb
        refine stepsQ [0, 1, 3, 4] (by kernel_rfl) (by kernel_rfl) (by kernel_rfl) (Grown.of_below (Below.refl _ _)) ?_
        simp only [atIdx, List.filterMap_cons, List.filterMap_nil, List.getElem?_toArray, List.getElem_toArray, List.getElem?_cons_zero, List.getElem?_cons_succ, List.getElem_cons_zero, List.getElem_cons_succ]
        iterate 4 (show wpQuiet _ _ _ _ (_ :: _) _; go_big_quiet_step (fail))
        refine wpQuiet_nil ?_
        show stepT _ _ _ _ _ _ _ _ _
        obtain ⟨h, eh⟩ : ∃ h : Nat, (b : Int) / 16 = h := ⟨b / 16, by omega⟩
        obtain ⟨m, em⟩ : ∃ m : Nat, (b : Int) % 16 = m := ⟨b % 16, by omega⟩
        have hh : h < 16 := by omega
        have hm : m < 16 := by omega
        have HH := Lib.hid (show h = b / 16 ∧ m = b % 16 by omega)
        rw [eh, em]
        have hx1 := digit_at h hh
        have hx2 := digit_at m hm
        clear eh em
        refine stepsQ [2, 5] (by kernel_rfl) (by kernel_rfl) (by kernel_rfl) (Grown.of_below (Below.refl _ _)) ?_
        simp only [atIdx, List.filterMap_cons, List.filterMap_nil, List.getElem?_toArray, List.getElem_toArray, List.getElem?_cons_zero, List.getElem?_cons_succ, List.getElem_cons_zero, List.getElem_cons_succ]
        iterate 2 (show wpQuiet _ _ _ _ (_ :: _) _; go_big_quiet_step (fail))
        refine wpQuiet_nil ?_
        show stepT _ _ _ _ _ _ _ _ _
        clear hx1 hx2
        have bb1 := (Below.refl V.heap.size V).alloc (Nat.le_refl _) (.cells #[.int .u8 (hexT h : Int), .int .u8 (hexT m : Int)] 5)
        have hcv := two_back V (hexT h) (hexT m) (hexT_lt hh) (hexT_lt hm)
        refine stepS (i := 6) rfl (by kernel_rfl) ?_
        intro K hK
        go_simp
        refine hK _ _ ⟨fun _ => Grown.of_below bb1, ?_⟩
        clear hK K
        have HBV := Lib.hid (bb.trans (bb1.mono bb.size))
        generalize V.alloc (.cells #[.int .u8 (hexT h : Int), .int .u8 (hexT m : Int)] 5) = V1 at *
        obtain ⟨ts, hts⟩ : ∃ ts, bsT [hexT h, hexT m] = ts := ⟨_, rfl⟩
        rw [hts] at hcv
        have hsz : ts.size = 2 := by rw [← hts]; rfl
        have HTS := Lib.hid hts
        clear hts
        refine stepS (i := 7) rfl (by kernel_rfl) ?_
        intro K hK
        go_simp
        refine hK _ _ ⟨fun _ => Grown.of_below bb1, ?_⟩
        clear hK K hcv
        refine stepsQ [8, 9] (by kernel_rfl) (by kernel_rfl) (by kernel_rfl) (Grown.of_below bb1) ?_
        simp only [atIdx, List.filterMap_cons, List.filterMap_nil, List.getElem?_toArray, List.getElem_toArray, List.getElem?_cons_zero, List.getElem?_cons_succ, List.getElem_cons_zero, List.getElem_cons_succ]
        iterate 2 (show wpQuiet _ _ _ _ (_ :: _) _; go_big_quiet_step (fail))
        refine wpQuiet_nil ?_
        show stepT _ _ _ _ _ _ _ _ _
        refine stepT_end (by kernel_rfl) ?_
        go_wp2_with fail
        go_ret
        exact ⟨ret_str (by rw [HF.out, ← HTS.out, ← HH.out.1, ← HH.out.2]; exact bsT_app [92, 120] [hexT h, hexT m]), HBV.out⟩
      · have k1 : decide (32 ≤ (b : Int)) = false := decide_eq_false (by omega)
        go_wp2_with fail
        refine wp_region_T [] (by kernel_rfl) ?_
        intro V bb
        refine stepsQ [0, 1, 3, 4] (by kernel_rfl) (by kernel_rfl) (by kernel_rfl) (Grown.of_below (Below.refl _ _)) ?_
        simp only [atIdx, List.filterMap_cons, List.filterMap_nil, List.getElem?_toArray, List.getElem_toArray, List.getElem?_cons_zero, List.getElem?_cons_succ, List.getElem_cons_zero, List.getElem_cons_succ]
        iterate 4 (show wpQuiet _ _ _ _ (_ :: _) _; go_big_quiet_step (fail))
        refine wpQuiet_nil ?_
        show stepT _ _ _ _ _ _ _ _ _
        obtain ⟨h, eh⟩ : ∃ h : Nat, (b : Int) / 16 = h := ⟨b / 16, by omega⟩
        obtain ⟨m, em⟩ : ∃ m : Nat, (b : Int) % 16 = m := ⟨b % 16, by omega⟩
        have hh : h < 16 := by omega
        have hm : m < 16 := by omega
        have HH := Lib.hid (show h = b / 16 ∧ m = b % 16 by omega)
        rw [eh, em]
        have hx1 := digit_at h hh
        have hx2 := digit_at m hm
        clear eh em
        refine stepsQ [2, 5] (by kernel_rfl) (by kernel_rfl) (by kernel_rfl) (Grown.of_below (Below.refl _ _)) ?_
        simp only [atIdx, List.filterMap_cons, List.filterMap_nil, List.getElem?_toArray, List.getElem_toArray, List.getElem?_cons_zero, List.getElem?_cons_succ, List.getElem_cons_zero, List.getElem_cons_succ]
        iterate 2 (show wpQuiet _ _ _ _ (_ :: _) _; go_big_quiet_step (fail))
        refine wpQuiet_nil ?_
        show stepT _ _ _ _ _ _ _ _ _
        clear hx1 hx2
        have bb1 := (Below.refl V.heap.size V).alloc (Nat.le_refl _) (.cells #[.int .u8 (hexT h : Int), .int .u8 (hexT m : Int)] 5)
        have hcv := two_back V (hexT h) (hexT m) (hexT_lt hh) (hexT_lt hm)
        refine stepS (i := 6) rfl (by kernel_rfl) ?_
        intro K hK
        go_simp
        refine hK _ _ ⟨fun _ => Grown.of_below bb1, ?_⟩
        clear hK K
        have HBV := Lib.hid (bb.trans (bb1.mono bb.size))
        generalize V.alloc (.cells #[.int .u8 (hexT h : Int), .int .u8 (hexT m : Int)] 5) = V1 at *
        obtain ⟨ts, hts⟩ : ∃ ts, bsT [hexT h, hexT m] = ts := ⟨_, rfl⟩
        rw [hts] at hcv
        have hsz : ts.size = 2 := by rw [← hts]; rfl
        have HTS := Lib.hid hts
        clear hts
        refine stepS (i := 7) rfl (by kernel_rfl) ?_
        intro K hK
        go_simp
        refine hK _ _ ⟨fun _ => Grown.of_below bb1, ?_⟩
        clear hK K hcv
        refine stepsQ [8, 9] (by kernel_rfl) (by kernel_rfl) (by kernel_rfl) (Grown.of_below bb1) ?_
        simp only [atIdx, List.filterMap_cons, List.filterMap_nil, List.getElem?_toArray, List.getElem_toArray, List.getElem?_cons_zero, List.getElem?_cons_succ, List.getElem_cons_zero, List.getElem_cons_succ]
        iterate 2 (show wpQuiet _ _ _ _ (_ :: _) _; go_big_quiet_step (fail))
        refine wpQuiet_nil ?_
        show stepT _ _ _ _ _ _ _ _ _
        refine stepT_end (by kernel_rfl) ?_
        go_wp2_with fail
        go_ret
        exact ⟨ret_str (by rw [HF.out, ← HTS.out, ← HH.out.1, ← HH.out.2]; exact bsT_app [92, 120] [hexT h, hexT m]), HBV.out⟩
theorem signsP_small : ∀ c ∈ signsP, c < 128 := by decide
theorem signsC_small : ∀ c ∈ signsC, c < 128 := by decide
set_option maxHeartbeats 8000000 in
set_option maxRecDepth 1000000 in
theorem byte14_any (b : Nat) (w : World) (hb : b < 256) :
    Calls Tryd.prog 12 #[.int .u8 (b : Int)] w fun e w' => e = .returned (.string (bsT (byteT b))) ∧ Below w.heap.size w w' := by
  have hs := fun w => sign_any b signsP w hb signsP_small
  have HS := Lib.hid hs
  clear hs
  go_enter Tryd.func12, Tryd.ntmps12
  go_wp2_with fail
  refine (HS.out _).mono ?_
  rintro e w1 ⟨rfl, bx⟩
  have HB := Lib.hid bx
  clear bx
  obtain ⟨ts, hts⟩ : ∃ ts, bsT (signT b signsP) = ts := ⟨_, rfl⟩
  rw [hts]
  have HT := Lib.hid hts
  clear hts
  go_wp2_with fail
  go_ret
  exact ⟨ret_str HT.out.symm, HB.out⟩
set_option maxHeartbeats 8000000 in
set_option maxRecDepth 1000000 in
theorem within_any (b : Nat) (w : World) (hb : b < 256) :
    Calls Tryd.prog 32 #[.int .i64 (b : Int)] w fun e w' => e = .returned (.string (bsT (withinT b))) ∧ Below w.heap.size w w' := by
  have hs := fun w => sign_any b signsC w hb signsC_small
  have HS := Lib.hid hs
  clear hs
  have hwb : IntKind.u8.wrap (b : Int) = (b : Int) := by rw [IntKind.wrap_u8]; omega
  have hcv0 : ∀ w, (convert 3 5 (.int .i64 (b : Int))).run Tryd.prog w = .ok (.int .u8 (b : Int)) w := fun w => by
    have e := run_convert_int (P := Tryd.prog) (w := w) 3 5 .i64 (b : Int) (by rw [Tryd.underlying3]; rfl) Tryd.underlying5
    rw [show Tryd.prog.intKind 5 = .u8 from by kernel_rfl, hwb] at e
    exact e
  clear hwb
  go_enter Tryd.func32, Tryd.ntmps32
  go_wp2_with fail
  refine (HS.out _).mono ?_
  rintro e w1 ⟨rfl, bx⟩
  have HB := Lib.hid bx
  clear bx
  obtain ⟨ts, hts⟩ : ∃ ts, bsT (signT b signsC) = ts := ⟨_, rfl⟩
  rw [hts]
  have HT := Lib.hid hts
  clear hts
  go_wp2_with fail
  go_ret
  exact ⟨ret_str HT.out.symm, HB.out⟩
end Go.Proofs.YtpknglbpbodnbaaDoor
