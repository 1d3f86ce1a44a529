/-
  The walk of the package's Read. Conditions: the text is short; the tables of unicode/utf8 lie as laid.
-/
import Derived.Test.YtgdfklgbdfpinaaDoorQuRead
namespace Go.Proofs.YtgdfklgbdfpinaaDoor
set_option linter.unusedVariables false
open Go.RowKit Go.Sort

theorem own_below {base : Nat} {e : TypeId} {size n : Nat} {v : Value} {xs : List Value} {w w' : World} (h : w.ownsRow base e size v n xs) (b : Below w.heap.size w w') : w'.ownsRow base e size v n xs :=
  h.kept (row := none) ⟨b.os, b.tape, b.output, b.size, fun k hk _ => b.block k hk⟩ (Classical.em _)

set_option maxHeartbeats 8000000 in
set_option maxRecDepth 1000000 in
theorem read_any (s : ByteArray) (q : Int) (w : World) (hs : s.size ≤ 1000000) (hT : Lib.Utf8Tabs 0 1 w) :
    Calls Tryd.prog 49 #[.string s, .int .i64 q] w fun e w' => e = .returned (rdV (readAt s q)) ∧ Below w.heap.size w w' := by
  have hmax : s.size ≤ maxLen := by unfold maxLen; omega
  have HT := Lib.hid hT
  clear hT
  obtain ⟨i0, hi0, hz0, hz1, hz2⟩ := info_parts (P := Tryd.prog) (e := 5) (z := .int .u8 0) (size := 1) (bytes := 1) (by kernel_rfl)
  go_enter Tryd.func49, Tryd.ntmps49
  by_cases h0 : q < 0
  · have HR : Hid (readAt s q = ([], 0, 7, 0)) := Lib.hid (by unfold readAt; rw [if_pos (.inl h0)])
    go_wp2_with fail
    go_returns
    exact ⟨ret_rd HR.out rfl rfl rfl rfl, (Below.refl _ _).alloc (Nat.le_refl _) _⟩
  by_cases h1 : (s.size : Int) < q
  · have HR : Hid (readAt s q = ([], 0, 7, 0)) := Lib.hid (by unfold readAt; rw [if_pos (.inr h1)])
    go_wp2_with fail
    go_returns
    exact ⟨ret_rd HR.out rfl rfl rfl rfl, (Below.refl _ _).alloc (Nat.le_refl _) _⟩
  obtain ⟨p, rfl⟩ : ∃ p : Nat, q = p := ⟨q.toNat, by omega⟩
  have hn : ¬ ((p : Int) < 0 ∨ (s.size : Int) < p) := by omega
  by_cases h2 : p = s.size
  · have HR : Hid (readAt s (p : Int) = ([], 0, 1, p)) := Lib.hid (by unfold readAt; rw [if_neg hn, if_pos (by omega), h2])
    have h2' : ((p : Int) == (s.size : Int)) = true := by simp [h2]
    clear h2 hn
    go_wp2_with fail
    go_returns
    exact ⟨ret_rd HR.out rfl rfl rfl rfl, (Below.refl _ _).alloc (Nat.le_refl _) _⟩
  have h2' : ((p : Int) == (s.size : Int)) = false := by simp; omega
  have hp : p < s.size := by omega
  have hbt := byt_at s p hp
  obtain ⟨d, hd⟩ : ∃ d, s[p]'hp = d := ⟨_, rfl⟩
  rw [hd] at hbt
  by_cases h3 : byt s p = 34
  case neg =>
    have HR : Hid (readAt s (p : Int) = ([], 0, 2, p)) := Lib.hid (by unfold readAt; rw [if_neg hn, if_neg (by omega), Int.toNat_natCast, if_pos h3])
    have h3' : ¬ (d.toNat : Int) = 34 := by omega
    clear h2 hn h3 hbt
    go_wp2_with fail
    go_returns
    exact ⟨ret_rd HR.out rfl rfl rfl rfl, (Below.refl _ _).alloc (Nat.le_refl _) _⟩
  have HR : Hid (readAt s (p : Int) = readF s s.size (p + 1) []) := Lib.hid (by unfold readAt; rw [if_neg hn, if_neg (by omega), Int.toNat_natCast, if_neg (by omega)])
  have h3' : (d.toNat : Int) = 34 := by omega
  clear h2 hn h3 hbt
  go_wp2_with fail
  have hB0 : Blk (w.alloc (.cells #[.int .i64 0, .int .i64 0] 33)) w.heap.size 33 #[.int .i64 0, .int .i64 0] := Blk.new w 33 _
  have hbw0 : Below w.heap.size w (w.alloc (.cells #[.int .i64 0, .int .i64 0] 33)) := (Below.refl _ _).alloc (Nat.le_refl _) _
  generalize w.alloc (.cells #[.int .i64 0, .int .i64 0] 33) = w1 at *
  go_loopw [7, 8] (fun v c wr => ∃ (i fuel : Nat) (acc : List UInt8), c = .int .i64 i ∧ Hid (readAt s (p : Int) = readF s fuel i acc) ∧ s.size ≤ i + fuel ∧ i ≤ s.size ∧ acc.length ≤ i ∧ Blk wr w.heap.size 33 #[.int .i64 0, .int .i64 0] ∧ wr.ownsRow (w.heap.size + 1) 5 1 v acc.length (byteCells acc) ∧ Below w.heap.size w wr) (fun _ c _ => s.size - (intOf c).toNat)
  case atStart => exact ⟨p + 1, s.size, [], by go_num, HR, by omega, by omega, by simp, hB0, World.ownsRow_nil _ _ _ _, hbw0⟩
  case round =>
    obtain ⟨i, fuel, acc, rfl, hrd, hfu, hpl, hal, hB, hown, hbw⟩ := hrel
    by_cases hi : i < s.size
    · obtain ⟨f, rfl⟩ : ∃ f, fuel = f + 1 := ⟨fuel - 1, by omega⟩
      have hF := hB.lt
      have hT2 := Utf8Tabs_below HT.out hbw
      have HD := Lib.hid (decodeGo_tail s i hi)
      have HN := Lib.hid (unit_dec s i hi)
      have hil : i ≤ s.size := by omega
      have hsf1 := safe_dec s i hi
      have hm34 := mark_dec s i hi 34 (by omega)
      have hm92 := mark_dec s i hi 92 (by omega)
      rw [unit_dec s i hi] at hsf1
      have HS := Lib.hid hsf1
      have H34 := Lib.hid hm34
      have H92 := Lib.hid hm92
      clear hsf1 hm34 hm92
      go_wp2_with (go_at_call 65; refine (utf8_DecodeRuneInString (s.extract i s.size) _ hT2).mono ?_)
      rintro e w3 ⟨rfl, b3⟩
      rw [HD.out, HN.out]
      obtain ⟨R, hR⟩ : ∃ R, (Utf8.decode s i).1 = R := ⟨_, rfl⟩
      rw [hR] at HS H34 H92 ⊢
      have hB3 := hB.below b3 hF
      have hbw3 := hbw.trans (b3.mono hbw.size)
      have hown3 := own_below hown b3
      have hF3 := hB3.lt
      clear hB hbw hown b3 hT2 hF
      have c0 := hB3.cell 0
      have c1 := hB3.cell 1
      have z := hB3.frozen
      by_cases h34 : byt s i = 34
      · have HE := Lib.hid (hrd.out.trans (readF_quote hi h34))
        obtain rfl : R = 34 := H34.out.2 h34
        have hconv := run_convert_own (P := Tryd.prog) 63 9 Tryd.underlying63 Tryd.underlying5 Tryd.underlying9 hown3
        clear h34
        go_wp2_with fail
        obtain ⟨w2, e2, r0, r1, b2⟩ := fault_set (.int .i64 0) (.int .i64 0) hB3 hbw3 (Nat.le_refl _)
        rw [e2]
        clear e2 c0 c1 z hB3
        (try simp only [Exit.inBlock, Exit.then])
        refine bodyPost_ret (by simp [results, Tryd.results49, go_sem, r0, r1]; try rfl) rfl ?_
        exact ⟨ret_rd HE.out rfl (by go_num) rfl rfl, b2⟩
      have hR34 : ((R : Int) == 34) = false := beq_eq_false_iff_ne.2 fun h => h34 (H34.out.1 (by omega))
      by_cases h92 : byt s i = 92
      · obtain rfl : R = 92 := H92.out.2 h92
        have he := escR_in s i
        have H92' := Lib.hid h92
        have HET := Lib.hid (escR_tail s i)
        have htm : (s.extract i s.size).size ≤ maxLen := by rw [tail_size]; omega
        clear h92 h34 hR34
        rcases hq : escR s i with ⟨st, b, k⟩
        rw [hq] at he
        have HQ := Lib.hid (HET.out.trans hq)
        have hq1 : (escR s i).1 = st := by rw [hq]
        rcases he with he | he | he
        · obtain rfl : st = 1 := he
          have HE := Lib.hid (hrd.out.trans (readF_cut hi H92'.out hq1))
          clear hq hq1
          go_wp2_with (go_at_call 66; refine (escape_any (s.extract i s.size) _ htm).mono ?_)
          rintro e w' ⟨rfl, rfl⟩
          rw [HQ.out]
          simp only [escV]
          go_wp2_with fail
          obtain ⟨w2, e2, r0, r1, b2⟩ := fault_set (.int .i64 1) (.int .i64 s.size) hB3 hbw3 (Nat.le_refl _)
          rw [e2]
          clear e2 c0 c1 z hB3
          (try simp only [Exit.inBlock, Exit.then])
          refine bodyPost_ret (by simp [results, Tryd.results49, go_sem, r0, r1]; try rfl) rfl ?_
          exact ⟨ret_rd HE.out rfl rfl rfl rfl, b2⟩
        · obtain rfl : st = 2 := he
          have HE := Lib.hid (hrd.out.trans (readF_form hi H92'.out hq1))
          clear hq hq1
          go_wp2_with (go_at_call 66; refine (escape_any (s.extract i s.size) _ htm).mono ?_)
          rintro e w' ⟨rfl, rfl⟩
          rw [HQ.out]
          simp only [escV]
          go_wp2_with fail
          obtain ⟨w2, e2, r0, r1, b2⟩ := fault_set (.int .i64 2) (.int .i64 i) hB3 hbw3 (Nat.le_refl _)
          rw [e2]
          clear e2 c0 c1 z hB3
          (try simp only [Exit.inBlock, Exit.then])
          refine bodyPost_ret (by simp [results, Tryd.results49, go_sem, r0, r1]; try rfl) rfl ?_
          exact ⟨ret_rd HE.out rfl rfl rfl rfl, b2⟩
        · obtain ⟨he0, hb, hk2, hk4, hkn⟩ := he
          obtain rfl : st = 0 := he0
          simp only at hb hk2 hk4 hkn
          have HE := Lib.hid (hrd.out.trans (readF_esc hi H92'.out hq1))
          rw [hq] at HE
          have HB := Lib.hid (toNat_lo hb)
          clear hq hq1
          have h63 : acc.length + 1 ≤ maxLen := by unfold maxLen; omega
          have h47 : (acc.length + 1) * 1 ≤ 140737488355328 := by omega
          go_wp2_with (go_at_call 66; refine (escape_any (s.extract i s.size) _ htm).mono ?_)
          rintro e w4 ⟨rfl, e4⟩
          subst e4
          rw [HQ.out]
          simp only [escV]
          go_wp2_with (at_builtin; refine wpList_append_own _ rfl _ _ 63 rfl (w.heap.size + 1) 5 i0 (.int .u8 0) 1 1 Tryd.underlying63 hi0 hz0 hz1 hz2 rfl (by decide) _ _ _ rfl (hown3.alloc _) ⟨w4.heap.size, 0, none⟩ 1 1 [.int .u8 b] rfl rfl one_new (fun u hu => by simp at hu; subst hu; rfl) h63 h47 (by simp; omega) ?_)
          intro v' w5 hown5 hgrow5 _
          have hB5 := (hB3.alloc (.cells #[.int .u8 b] 5)).grown hgrow5 (fun e => by have := (hown3.lt _ e.symm).1; omega)
          have hbw5 : Below w.heap.size w w5 := (hbw3.alloc (by omega) _).grown hgrow5 (by simp; omega) (fun j hj => by have := (hown3.lt j hj).1; omega)
          have hown6 : w5.ownsRow (w.heap.size + 1) 5 1 v' (acc ++ [UInt8.ofNat b]).length (byteCells (acc ++ [UInt8.ofNat b])) := by
            rw [List.length_append, ← byteCells_snoc, HB.out]
            exact hown5
          clear hown5 hgrow5 hown3 hbw3 c0 c1 z
          go_wp2_with fail
          go_roundw
          case rel => exact ⟨i + k, f, acc ++ [UInt8.ofNat b], by go_num, HE, by omega, by omega, by rw [List.length_append]; simp; omega, hB5, hown6, hbw5⟩
          case measure => simp [intOf]; omega
      have hR92 : ((R : Int) == 92) = false := beq_eq_false_iff_ne.2 fun h => h92 (H92.out.1 (by omega))
      by_cases hsf : safeB s i = true
      · have HE := Lib.hid (hrd.out.trans (readF_safe hi h34 h92 hsf))
        have hu1 := unit_pos s i
        have hu2 := unit_le s i hi
        have HP : Hid (decide (32 ≤ (R : Int) ∧ (R : Int) ≠ 127 ∧ ((R : Int) ≠ 65533 ∨ 1 < ((unit s i : Nat) : Int))) = true) := Lib.hid (by rw [← hsf, HS.out]; exact decide_eq_decide.2 (by omega))
        have hxs : (s.extract i (i + unit s i)).size = unit s i := by rw [ByteArray.size_extract]; omega
        have h63 : acc.length + (s.extract i (i + unit s i)).size ≤ maxLen := by rw [hxs]; unfold maxLen; omega
        have h47 : acc.length + (s.extract i (i + unit s i)).size ≤ 140737488355328 := by rw [hxs]; omega
        clear h34 h92 hsf
        go_wp2_with (first | (go_at_call 57; refine (plain_lit _ _ _ _ HP.out).mono ?_; rintro e w' ⟨rfl, rfl⟩) | (at_builtin; refine Lib.wpList_append_own_string _ rfl _ _ 63 9 rfl (w.heap.size + 1) 5 i0 Tryd.underlying63 Tryd.underlying9 hi0 hz0 hz1 hz2 _ _ _ rfl hown3 (s.extract i (i + unit s i)) rfl h63 h47 (by omega) ?_))
        intro v' w5 hown5 hgrow5 _
        have hB5 := hB3.grown hgrow5 (fun e => by have := (hown3.lt _ e.symm).1; omega)
        have hbw5 : Below w.heap.size w w5 := hbw3.grown hgrow5 (by omega) (fun j hj => by have := (hown3.lt j hj).1; omega)
        have hown6 : w5.ownsRow (w.heap.size + 1) 5 1 v' (acc ++ (s.data.toList.drop i).take (unit s i)).length (byteCells (acc ++ (s.data.toList.drop i).take (unit s i))) := by
          have e1 : (acc ++ (s.data.toList.drop i).take (unit s i)).length = acc.length + (s.extract i (i + unit s i)).size := by
            rw [List.length_append, size_list, extract_txt, txt_list, Nat.add_sub_cancel_left]
          have e2 := strCells_part s i (i + unit s i)
          rw [Nat.add_sub_cancel_left] at e2
          rw [e1, hxs, ← byteCells_append]
          rw [e2] at hown5
          exact hown5
        clear hown5 hgrow5 hown3 hbw3 c0 c1 z hxs h63 h47
        go_wp2_with fail
        go_roundw
        case rel => exact ⟨i + unit s i, f, acc ++ (s.data.toList.drop i).take (unit s i), by go_num, HE, by omega, by omega, by rw [List.length_append, List.length_take]; omega, hB5, hown6, hbw5⟩
        case measure => simp [intOf]; omega
      · have HE := Lib.hid (hrd.out.trans (readF_bad hi h34 h92 hsf))
        have HP : Hid (decide (32 ≤ (R : Int) ∧ (R : Int) ≠ 127 ∧ ((R : Int) ≠ 65533 ∨ 1 < ((unit s i : Nat) : Int))) = false) := Lib.hid (by rw [Bool.not_eq_true] at hsf; rw [← hsf, HS.out]; exact decide_eq_decide.2 (by omega))
        clear h34 h92 hsf
        go_wp2_with (go_at_call 57; refine (plain_lit _ _ _ _ HP.out).mono ?_; rintro e w' ⟨rfl, rfl⟩)
        obtain ⟨w2, e2, r0, r1, b2⟩ := fault_set (.int .i64 2) (.int .i64 i) hB3 hbw3 (Nat.le_refl _)
        rw [e2]
        clear e2 c0 c1 z hB3
        (try simp only [Exit.inBlock, Exit.then])
        refine bodyPost_ret (by simp [results, Tryd.results49, go_sem, r0, r1]; try rfl) rfl ?_
        exact ⟨ret_rd HE.out rfl rfl rfl rfl, b2⟩
    · have HE := Lib.hid (hrd.out.trans (readF_end hi))
      have c0 := hB.cell 0
      have c1 := hB.cell 1
      have z := hB.frozen
      go_wp2_with fail
      obtain ⟨w2, e2, r0, r1, b2⟩ := fault_set (.int .i64 1) (.int .i64 s.size) hB hbw (Nat.le_refl _)
      rw [e2]
      clear e2 c0 c1 z hB
      (try simp only [Exit.inBlock, Exit.then])
      refine bodyPost_ret (by simp [results, Tryd.results49, go_sem, r0, r1]; try rfl) rfl ?_
      exact ⟨ret_rd HE.out rfl rfl rfl rfl, b2⟩
end Go.Proofs.YtgdfklgbdfpinaaDoor
