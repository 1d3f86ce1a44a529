/-
  The walk of prod's `begin`. Conditions: both automata are right.
  What prod's `rows` makes, pair by pair. Conditions: each lemma says its own.
  The walk of prod's `rows`. Conditions: both automata are right.
-/
import Derived.Test.YtmmlakheimfijaaGreatDoorJTog
import Derived.Test.YtmmlakheimfijaaGreatDoorJNot
import Derived.Test.YtmmlakheimfijaaGreatDoorJPl
namespace Go.Proofs.YtmmlakheimfijaaGreatDoor
set_option linter.unusedVariables false
set_option linter.unusedSimpArgs false
open Go.RowKit Go.Maps Go.Sort Go.ChangeShapes Go.WideShapes Go.Joins

theorem meet_right (A B : DfaI) (hA : RightD A) (hB : RightD B) : meetLen A.z B.z 256 256 = 256 := by
  unfold meetLen Bl.right
  rw [hA.blk.1.ok, hB.blk.1.ok]
  rfl
theorem infoU8 : (Tryz.prog.info? 5).map (fun i => (i.zero, i.size, i.bytes)) = some (some (.int .u8 0), 1, 1) := by kernel_rfl
set_option maxHeartbeats 8000000 in
set_option maxRecDepth 1000000 in
theorem begin_walk (va vb : Value) (D E : DfaI) (w : World) (ha : DfaAt w va D) (hb : DfaAt w vb E) (hD : D.In) (hE : E.In) (hR : RightD D) (hR2 : RightD E) :
    Calls Tryz.prog 67 #[va, vb] w fun e w' => ∃ p m n cs blk fv ov, e = .returned (.pointer (some ⟨p, 0, none⟩)) ∧ TogF w w' w.heap.size p m n va vb cs blk fv D E [(D.aut.start, E.aut.start)] ov := by
  obtain ⟨S, af, ab, an, F, K1, M, cf, cb, cn, hS, hF, hK1, hM, rfl⟩ := ha.form
  obtain ⟨S', ef, eb, en, F', K2, M', ce, ce', ce'', hS', hF', hK2, hM', rfl⟩ := hb.form
  obtain rfl : K1 = 256 := by rw [← hK1]; exact hR.blk.2
  obtain rfl : K2 = 256 := by rw [← hK2]; exact hR2.blk.2
  have hz0 : ∀ o, (w.alloc o).heap.size = w.heap.size + 1 := fun o => by simp
  have b0 := (Below.refl w.heap.size w).alloc (Nat.le_refl _) (.cells #[.int .i64 S, .slice af F cf, .slice ab 256 cb, .slice an M cn] 26)
  have b1 := b0.alloc (by rw [hz0]; omega) (.cells #[.int .i64 S', .slice ef F' ce, .slice eb 256 ce', .slice en M' ce''] 26)
  have qa := (Blk.new w 26 #[.int .i64 S, .slice af F cf, .slice ab 256 cb, .slice an M cn]).alloc (.cells #[.int .i64 S', .slice ef F' ce, .slice eb 256 ce', .slice en M' ce''] 26)
  have qb := Blk.new (w.alloc (.cells #[.int .i64 S, .slice af F cf, .slice ab 256 cb, .slice an M cn] 26)) 26 #[.int .i64 S', .slice ef F' ce, .slice eb 256 ce', .slice en M' ce'']
  rw [hz0] at qb
  have hi1 : IsInts w ab 256 cb D.z := by
    have := ha.cut.2.1
    obtain ⟨a', c', he, -⟩ := id this
    rw [← hK1] at this ⊢
    exact this.isInts hD.block
  have hi2 : IsInts w eb 256 ce' E.z := by
    have := hb.cut.2.1
    rw [← hK2] at this ⊢
    exact this.isInts hE.block
  have H := Lib.hid (And.intro ha (And.intro hb (And.intro hi1 (And.intro hi2 (And.intro qa (And.intro qb (And.intro b1 (And.intro hR (And.intro hR2 (And.intro hS hS'))))))))))
  obtain ⟨⟨y0, y1, y2, y3⟩, -⟩ := qa.c4
  obtain ⟨⟨x0, x1, x2, x3⟩, -⟩ := qb.c4
  have hzz : w.heap.size + 2 ≤ ((w.alloc (.cells #[.int .i64 S, .slice af F cf, .slice ab 256 cb, .slice an M cn] 26)).alloc (.cells #[.int .i64 S', .slice ef F' ce, .slice eb 256 ce', .slice en M' ce''] 26)).heap.size := by simp
  clear ha hb hi1 hi2 qa qb b0 b1 hD hE hR hR2 hS hS' hF hF' hK1 hK2 hM hM'
  go_enter Tryz.func67, Tryz.ntmps67
  go_wp2_with fail
  clear hz0
  generalize (w.alloc (.cells #[.int .i64 S, .slice af F cf, .slice ab 256 cb, .slice an M cn] 26)).alloc (.cells #[.int .i64 S', .slice ef F' ce, .slice eb 256 ce', .slice en M' ce''] 26) = W at *
  go_cut [5] (fun c5 W2 => ∃ p m x c, c5 = .pointer (some ⟨p, 0, none⟩) ∧ BegAt w W2 p m x c (.int .i64 S) (.slice af F cf) (.slice ab 256 cb) (.slice an M cn) (.int .i64 S') (.slice ef F' ce) (.slice eb 256 ce') (.slice en M' ce'') D E (.slice none 0 0) W2.heap.size [])
  case first =>
    have hmm := @run_makeMap Tryz.prog
    refine wp_region_T [] (by kernel_rfl) ?_
    intro V bb
    have lc : ∀ {p : Addr} {v : Value}, W.cell? p = some v → ∀ d os, (Sort.grow (redrawn V d) os).cell? p = some v := fun {p v} hp d os => ((bb.trans ((below_regrown V d os).mono bb.size)).cell (World.block_lt_of_cell? W p hp)).trans hp
    have q0 := lc y0
    have q1 := lc y1
    have q2 := lc y2
    have q3 := lc y3
    have q4 := lc x0
    have q5 := lc x1
    have q6 := lc x2
    have q7 := lc x3
    clear lc
    clear y0 y1 y2 y3 x0 x1 x2 x3
    refine stepsQ [0, 1, 2, 3, 4, 5] (by kernel_rfl) (by kernel_rfl) (by kernel_rfl) (Grown.of_below (Below.refl _ _)) ?_
    simp only [atIdx, List.filterMap_cons, List.filterMap_nil, List.getElem?_toArray, List.getElem_toArray, List.getElem?_cons_zero, List.getElem?_cons_succ, List.getElem_cons_zero, List.getElem_cons_succ]
    iterate 6 (show wpQuiet _ _ _ _ (_ :: _) _; go_big_quiet_step (fail))
    refine wpQuiet_nil ?_
    show stepT _ _ _ _ _ _ _ _ _
    have bV := bb.size
    have J := Lib.hid (And.intro (H.out.2.2.1.keep (H.out.2.2.2.2.2.2.1.trans (bb.mono H.out.2.2.2.2.2.2.1.size))) (And.intro (H.out.2.2.2.1.keep (H.out.2.2.2.2.2.2.1.trans (bb.mono H.out.2.2.2.2.2.2.1.size))) (And.intro (H.out.2.2.2.2.1.below bb H.out.2.2.2.2.1.lt) (And.intro (H.out.2.2.2.2.2.1.below bb H.out.2.2.2.2.2.1.lt) (H.out.2.2.2.2.2.2.1.trans (bb.mono H.out.2.2.2.2.2.2.1.size))))))
    clear bb
    have hone : ∀ (w2 : World) (p m : Nat) (x : Option Addr) (c : Nat), Below V.heap.size V w2 → Blk w2 p 99 #[.int .i64 S, .slice af F cf, .slice ab 256 cb, .slice an M cn, .int .i64 S', .slice ef F' ce, .slice eb 256 ce', .slice en M' ce'', .slice x 256 c, .slice none 0 0, .map (some m), .slice none 0 0] → PrAt w2 m 0 [] → IsInts w2 x 256 c (zM D E) → (∀ g o, x = some ⟨g, o, none⟩ → g ≠ p ∧ g ≠ m ∧ w.heap.size ≤ g) → V.heap.size ≤ p → V.heap.size ≤ m → p ≠ m →
        BegAt w w2 p m x c (.int .i64 S) (.slice af F cf) (.slice ab 256 cb) (.slice an M cn) (.int .i64 S') (.slice ef F' ce) (.slice eb 256 ce') (.slice en M' ce'') D E (.slice none 0 0) w2.heap.size [] := fun w2 p m x c hb q num hi hx hp hm hpm =>
      ⟨q, num, hi, fun g o e => by
        obtain ⟨h1, h2, h3⟩ := hx g o e
        refine ⟨h1, h2, h3, ?_⟩
        rcases hi.place with h0 | ⟨b', o', e', hb', -⟩
        · cases h0
        · rw [e'] at e
          cases e
          exact hb', World.ownsRow_nil _ _ _ _, J.out.2.2.1.below hb J.out.2.2.1.lt, J.out.2.2.2.1.below hb J.out.2.2.2.1.lt, ⟨by omega, by omega, hpm, q.lt, num.lt, Nat.le_refl _⟩, J.out.2.2.2.2.trans (hb.mono J.out.2.2.2.2.size)⟩
    have HO := Lib.hid hone
    clear hone
    refine stepS2 (i := 6) (j := 7) rfl rfl (by kernel_rfl) ?_ ?_
    · intro K hK
      go_simp
      refine (meet_any _ _ _ _ _ _ D.z E.z _ J.out.1 J.out.2.1).mono ?_
      rintro e w2 ⟨x, n, c, rfl, hn, hI, b2, hg⟩
      have hn2 := hn.trans (meet_right D E H.out.2.2.2.2.2.2.2.1 H.out.2.2.2.2.2.2.2.2.1)
      subst hn2
      refine hK _ _ ⟨fun _ => Grown.of_below b2, ?_⟩
      clear hK K
      have hz2 := b2.size
      have HM := Lib.hid (And.intro hI hg)
      clear hI hg hn
      refine stepS (i := 7) rfl (by kernel_rfl) ?_
      intro K hK
      go_simp
      have b3 := b2.alloc hz2 (.map #[] 0)
      refine hK _ _ ⟨fun _ => Grown.of_below b3, ?_⟩
      clear hK K
      have N3 := PrAt.made w2
      have I3 := HM.out.1.keep ((Below.refl w2.heap.size w2).alloc (Nat.le_refl _) (.map #[] 0))
      have hz3 : (w2.alloc (.map #[] 0)).heap.size = w2.heap.size + 1 := by simp
      have HX := Lib.hid (And.intro N3 (And.intro I3 b3))
      clear N3 I3 b2 b3
      generalize w2.alloc (.map #[] 0) = w3 at *
      refine stepS (i := 8) rfl (by kernel_rfl) ?_
      intro K hK
      go_simp
      refine hK _ _ ⟨fun _ => Grown.of_below HX.out.2.2, ?_⟩
      clear hK K
      refine stepS (i := 9) rfl (by kernel_rfl) ?_
      intro K hK
      go_simp
      have b4 := HX.out.2.2.alloc HX.out.2.2.size (.cells #[.int .i64 S, .slice af F cf, .slice ab 256 cb, .slice an M cn, .int .i64 S', .slice ef F' ce, .slice eb 256 ce', .slice en M' ce'', .slice x 256 c, .slice none 0 0, .map (some w2.heap.size), .slice none 0 0] 99)
      refine hK _ _ ⟨fun _ => Grown.of_below b4, ?_⟩
      clear hK K
      refine stepS (i := 10) rfl (by kernel_rfl) ?_
      intro K hK
      go_simp
      refine hK _ _ ⟨fun _ => Grown.of_below b4, ?_⟩
      clear hK K
      refine stepT_end (by kernel_rfl) ?_
      have hal := (Below.refl w3.heap.size w3).alloc (Nat.le_refl _) (.cells #[.int .i64 S, .slice af F cf, .slice ab 256 cb, .slice an M cn, .int .i64 S', .slice ef F' ce, .slice eb 256 ce', .slice en M' ce'', .slice x 256 c, .slice none 0 0, .map (some w2.heap.size), .slice none 0 0] 99)
      have HB := Lib.hid (HO.out _ w3.heap.size w2.heap.size x c b4 (Blk.new w3 99 _) (HX.out.1.below hal HX.out.1.lt) (HX.out.2.1.keep hal) (fun g o e => by
        have h1 := HM.out.2 g o e
        rcases HM.out.1.place with h0 | ⟨b', o', e', hb', -⟩
        · cases h0
        · rw [e'] at e
          cases e
          exact ⟨by omega, by omega, by have := J.out.2.2.2.2.size; omega⟩) (by omega) hz2 (by omega))
      clear b4 hal q0 q1 q2 q3 q4 q5 q6 q7
      go_wp2_with fail
      go_meet
      exact ⟨w2.heap.size + 1, _, x, c, rfl, by have := HB.out; rwa [hz3] at this⟩
    · intro K hK
      go_simp
      have b2 := (Below.refl V.heap.size V).alloc (Nat.le_refl _) (.map #[] 0)
      refine hK _ _ ⟨fun _ => Grown.of_below b2, ?_⟩
      clear hK K
      have N2 := PrAt.made V
      have hz2 : (V.alloc (.map #[] 0)).heap.size = V.heap.size + 1 := by simp
      have HX := Lib.hid (And.intro N2 (And.intro (J.out.1.keep b2) (And.intro (J.out.2.1.keep b2) b2)))
      clear N2 b2
      generalize V.alloc (.map #[] 0) = w2 at *
      refine stepS (i := 6) rfl (by kernel_rfl) ?_
      intro K hK
      go_simp
      refine (meet_any _ _ _ _ _ _ D.z E.z _ HX.out.2.1 HX.out.2.2.1).mono ?_
      rintro e w3 ⟨x, n, c, rfl, hn, hI, b3, hg⟩
      have hn2 := hn.trans (meet_right D E H.out.2.2.2.2.2.2.2.1 H.out.2.2.2.2.2.2.2.2.1)
      subst hn2
      have hz3 := b3.size
      have b3' := HX.out.2.2.2.trans (b3.mono HX.out.2.2.2.size)
      refine hK _ _ ⟨fun _ => Grown.of_below b3', ?_⟩
      clear hK K
      have HM := Lib.hid (And.intro hI (And.intro hg (And.intro (HX.out.1.below b3 HX.out.1.lt) b3')))
      clear hI hg hn b3 b3'
      refine stepS (i := 8) rfl (by kernel_rfl) ?_
      intro K hK
      go_simp
      refine hK _ _ ⟨fun _ => Grown.of_below HM.out.2.2.2, ?_⟩
      clear hK K
      refine stepS (i := 9) rfl (by kernel_rfl) ?_
      intro K hK
      go_simp
      have b4 := HM.out.2.2.2.alloc HM.out.2.2.2.size (.cells #[.int .i64 S, .slice af F cf, .slice ab 256 cb, .slice an M cn, .int .i64 S', .slice ef F' ce, .slice eb 256 ce', .slice en M' ce'', .slice x 256 c, .slice none 0 0, .map (some V.heap.size), .slice none 0 0] 99)
      refine hK _ _ ⟨fun _ => Grown.of_below b4, ?_⟩
      clear hK K
      refine stepS (i := 10) rfl (by kernel_rfl) ?_
      intro K hK
      go_simp
      refine hK _ _ ⟨fun _ => Grown.of_below b4, ?_⟩
      clear hK K
      refine stepT_end (by kernel_rfl) ?_
      have hal := (Below.refl w3.heap.size w3).alloc (Nat.le_refl _) (.cells #[.int .i64 S, .slice af F cf, .slice ab 256 cb, .slice an M cn, .int .i64 S', .slice ef F' ce, .slice eb 256 ce', .slice en M' ce'', .slice x 256 c, .slice none 0 0, .map (some V.heap.size), .slice none 0 0] 99)
      have HB := Lib.hid (HO.out _ w3.heap.size V.heap.size x c b4 (Blk.new w3 99 _) (HM.out.2.2.1.below hal HM.out.2.2.1.lt) (HM.out.1.keep hal) (fun g o e => by
        have h1 := HM.out.2.1 g o e
        rcases HM.out.1.place with h0 | ⟨b', o', e', hb', -⟩
        · cases h0
        · rw [e'] at e
          cases e
          exact ⟨by omega, by omega, by have := J.out.2.2.2.2.size; omega⟩) (by omega) (Nat.le_refl _) (by omega))
      clear b4 hal q0 q1 q2 q3 q4 q5 q6 q7
      go_wp2_with fail
      go_meet
      exact ⟨_, _, x, c, rfl, HB.out⟩
  case rest =>
    obtain ⟨p, m, x, c, rfl, hB⟩ := hcut
    have c8 : wc.cell? ⟨p, 8, none⟩ = some (.slice x 256 c) := hB.q.cell 8
    have HC := Lib.hid hB
    obtain ⟨n, hn⟩ : ∃ n, (fsP D E).length = n := ⟨_, rfl⟩
    have hcn : countI (zM D E) 256 = (n : Int) := by rw [cntM, hn]
    have hn256 : n ≤ 256 := by rw [← hn]; exact fsP_le D E
    have HN := Lib.hid (And.intro hn hcn)
    clear hB hn hcn y0 y1 y2 y3 x0 x1 x2 x3 hzz
    go_wp2_with fail
    refine (count_any _ _ _ (zM D E) _ HC.out.blk).mono ?_
    rintro e w1 ⟨rfl, b1⟩
    rw [HN.out.2]
    have HC1 := Lib.hid (HC.out.under b1)
    clear c8 b1 HC
    obtain ⟨B1, hB1⟩ : ∃ B1, wc.heap.size = B1 := ⟨_, rfl⟩
    rw [hB1] at HC1
    clear hB1
    go_wp2_with fail
    go_loopw [6, 22] (fun _ c22 wr => ∃ (k : Nat) (fv : Value), c22 = .int .i64 k ∧ k ≤ n ∧ Hid (BegAt w wr p m x c (.int .i64 S) (.slice af F cf) (.slice ab 256 cb) (.slice an M cn) (.int .i64 S') (.slice ef F' ce) (.slice eb 256 ce') (.slice en M' ce'') D E fv B1 ((fsP D E).take k))) (fun _ c _ => n - (intOf c).toNat)
    case atStart => exact ⟨0, .slice none 0 0, rfl, by omega, HC1⟩
    case round =>
      obtain ⟨k, fv, rfl, hk, hB⟩ := hrel
      by_cases hlt : k < n
      · have hlk : ((fsP D E).take k).length = k := by rw [List.length_take, HN.out.1]; omega
        have hf0 := hB.out.fst
        rw [hlk] at hf0
        obtain ⟨A9, cc9, rfl⟩ := own_slice hf0
        have c9 : wr.cell? ⟨p, 9, none⟩ = some (.slice A9 k cc9) := hB.out.q.cell 9
        have c8 : wr.cell? ⟨p, 8, none⟩ = some (.slice x 256 c) := hB.out.q.cell 8
        have hkf : k < (fsP D E).length := by rw [HN.out.1]; exact hlt
        obtain ⟨f, hf⟩ : ∃ f, (fsP D E).getD k 0 = f := ⟨_, rfl⟩
        have hf256 := fsP_lt hkf
        rw [hf] at hf256
        have hfirst := firstM hkf
        rw [hf] at hfirst
        have htk : (fsP D E).take (k + 1) = (fsP D E).take k ++ [f] := by
          rw [List.take_add_one, List.getElem?_eq_getElem hkf]
          rw [List.getD_eq_getElem?_getD, List.getElem?_eq_getElem hkf] at hf
          rw [← hf]
          rfl
        have HK := Lib.hid (And.intro hlk (And.intro hfirst htk))
        have hwrap : IntKind.u8.wrap (f : Int) = (f : Int) := by
          simp [IntKind.wrap, IntKind.signed, IntKind.bits]
          omega
        clear hlk hfirst htk hf hkf hf0
        go_wp2_with fail
        refine wp_region_T [0, 13, 14, 15, 16] (by kernel_rfl) ?_
        intro W3 bb
        have lc : ∀ {p : Addr} {v : Value}, wr.cell? p = some v → ∀ d os, (Sort.grow (redrawn W3 d) os).cell? p = some v := fun {p v} hp d os => ((bb.trans ((below_regrown W3 d os).mono bb.size)).cell (World.block_lt_of_cell? wr p hp)).trans hp
        have q0 := lc c8
        have q1 := lc c9
        clear lc
        clear c8 c9
        refine stepsP [0] (by kernel_rfl) (by kernel_rfl) ?_
        simp only [atIdx, List.filterMap_cons, List.filterMap_nil, List.getElem?_toArray, List.getElem_toArray, List.getElem?_cons_zero, List.getElem?_cons_succ, List.getElem_cons_zero, List.getElem_cons_succ]
        iterate 1 (show wpQuiet _ _ _ _ (_ :: _) _; go_big_quiet_step (fail))
        refine wpQuiet_nil ?_
        show stepT _ _ _ _ _ _ _ _ _
        refine stepsQ [1, 2, 3, 4, 5, 6, 7, 8, 9] (by kernel_rfl) (by kernel_rfl) (by kernel_rfl) (Grown.of_below (Below.refl _ _)) ?_
        simp only [atIdx, List.filterMap_cons, List.filterMap_nil, List.getElem?_toArray, List.getElem_toArray, List.getElem?_cons_zero, List.getElem?_cons_succ, List.getElem_cons_zero, List.getElem_cons_succ]
        iterate 9 (show wpQuiet _ _ _ _ (_ :: _) _; go_big_quiet_step (fail))
        refine wpQuiet_nil ?_
        show stepT _ _ _ _ _ _ _ _ _
        have HB3 := Lib.hid (hB.out.under bb)
        refine stepS (i := 10) rfl (by kernel_rfl) ?_
        intro K hK
        go_simp
        refine (first_any x 256 c (zM D E) (k : Int) _ HB3.out.blk).mono ?_
        rintro e w5 ⟨rfl, b5⟩
        rw [HK.out.2.1]
        refine hK _ _ ⟨fun _ => Grown.of_below b5, ?_⟩
        clear hK K
        refine stepS (i := 11) rfl (by kernel_rfl) ?_
        intro K hK
        go_simp
        refine hK _ _ ⟨fun _ => Grown.of_below b5, ?_⟩
        clear hK K
        have HB5 := Lib.hid (HB3.out.under b5)
        refine stepS (i := 12) rfl (by kernel_rfl) ?_
        intro K hK
        go_simp
        have b6 := (Below.refl w5.heap.size w5).alloc (Nat.le_refl _) (.cells #[.int .u8 (f : Int)] 5)
        have hone := one_at (w := w5) (u := .int .u8 (f : Int)) (t := 5)
        refine hK _ _ ⟨fun _ => Grown.of_below (b5.alloc b5.size (.cells #[.int .u8 (f : Int)] 5)), ?_⟩
        clear hK K
        have HB6 := Lib.hid (HB5.out.under b6)
        have hown6 := HB6.out.fst
        rw [HK.out.1] at hown6
        obtain ⟨i0, hi0, hz00, hz01, hz02⟩ := info_parts infoU8
        have hB1s := HB5.out.lt.2.2.2.2.2
        refine stepS (i := 13) rfl (by kernel_rfl) ?_
        intro K hK
        refine step_append_lies _ rfl (.tmp 29) (.tmp 37) 48 rfl B1 5 i0 (.int .u8 0) 1 1 Tryz.underlying48 hi0 hz00 hz01 hz02 rfl (by decide) _ _ _ (by simp [Act.eval, Act.put]) hown6 ⟨w5.heap.size, 0, none⟩ 1 1 [.int .u8 (f : Int)] (by simp [Act.eval, Act.put]) rfl hone (fun u hu => by simp at hu; subst hu; rfl) (by decide) (by unfold maxLen; omega) (by omega) (by simp; omega) _ rfl ?_
        intro g14 cap14 w14 hown14 hgrow14 hat14 hlt14
        refine hK _ _ ⟨fun h => absurd (by decide) h, ?_⟩
        clear hK K
        have HP := Lib.hid (HB6.out.push HK.out.1 hown14 hgrow14)
        have q14 := HB6.out.q.grown hgrow14 (fun e => own_blk_ne hown6 HB6.out.q (by decide) e.symm)
        have fz := q14.frozen 9
        have e9 : w14.cell? ⟨p, 9, none⟩ = some (.slice A9 k cc9) := q14.cell 9
        clear hown14 hown6 hgrow14 hat14 hlt14 hone b6 b5 bb q0 q1
        refine stepS (i := 14) rfl (by kernel_rfl) ?_
        intro K hK
        go_simp
        refine hK _ _ ⟨fun h => absurd (by decide) h, ?_⟩
        clear hK K
        refine stepS (i := 15) rfl (by kernel_rfl) ?_
        intro K hK
        go_simp
        refine hK _ _ ⟨fun h => absurd (by decide) h, ?_⟩
        clear hK K
        refine stepS (i := 16) rfl (by kernel_rfl) ?_
        intro K hK
        go_simp
        refine hK _ _ ⟨fun h => absurd (by decide) h, ?_⟩
        clear hK K
        refine stepT_end (by kernel_rfl) ?_
        clear fz q14 e9
        go_wp2_with fail
        go_roundw
        case rel => 
          refine ⟨k + 1, .slice (some ⟨g14, 0, none⟩) (k + 1) cap14, by go_num, by omega, Lib.hid ?_⟩
          have := HP.out
          rw [← HK.out.2.2] at this
          exact this
        case measure => simp [intOf]; omega
      · obtain rfl : k = n := by omega
        have hfull : (fsP D E).take k = fsP D E := by rw [← HN.out.1, List.take_length]
        have hB0 := hB.out
        rw [hfull] at hB0
        have HB := Lib.hid hB0
        obtain ⟨⟨y0, -⟩, -⟩ := hB0.bx.c4
        obtain ⟨⟨x0, -⟩, -⟩ := hB0.by_.c4
        obtain ⟨N1, hN1⟩ : ∃ N : Nat, S = (N : Int) := ⟨S.toNat, by
          have h1 := H.out.2.2.2.2.2.2.2.1.s0
          rw [H.out.2.2.2.2.2.2.2.2.2.1] at h1
          omega⟩
        obtain ⟨N2, hN2⟩ : ∃ N : Nat, S' = (N : Int) := ⟨S'.toNat, by
          have h1 := H.out.2.2.2.2.2.2.2.2.1.s0
          rw [H.out.2.2.2.2.2.2.2.2.2.2] at h1
          omega⟩
        have hs1 : D.aut.start = N1 := by
          show D.start.toNat = N1
          rw [H.out.2.2.2.2.2.2.2.2.2.1, hN1]
          rfl
        have hs2 : E.aut.start = N2 := by
          show E.start.toNat = N2
          rw [H.out.2.2.2.2.2.2.2.2.2.2, hN2]
          rfl
        have hN1s : N1 ≤ 1000000 := by
          have h1 := H.out.2.2.2.2.2.2.2.1.s1
          have h2 := H.out.2.2.2.2.2.2.2.1.m2
          rw [H.out.2.2.2.2.2.2.2.2.2.1, hN1] at h1
          omega
        have hN2s : N2 ≤ 1000000 := by
          have h1 := H.out.2.2.2.2.2.2.2.2.1.s1
          have h2 := H.out.2.2.2.2.2.2.2.2.1.m2
          rw [H.out.2.2.2.2.2.2.2.2.2.2, hN2] at h1
          omega
        have HS := Lib.hid (And.intro hs1 (And.intro hs2 (And.intro hN1s hN2s)))
        subst hN1 hN2
        clear hs1 hs2 hN1s hN2s hB0 hB hfull
        go_wp2_with fail
        have hT : TogAt wr w.heap.size p m 0 [.int .i64 N1, .slice af F cf, .slice ab 256 cb, .slice an M cn, .int .i64 N2, .slice ef F' ce, .slice eb 256 ce', .slice en M' ce'', .slice x 256 c, fv] [] (.slice none 0 0) :=
          ⟨HB.out.q, rfl, HB.out.num, World.ownsRow_nil _ _ _ _, ⟨fun g hg => (by cases hg), HB.out.lt.2.2.1⟩, Nat.le_refl _⟩
        refine (meet_walk w.heap.size p m 0 _ [] (.slice none 0 0) (N1, N2) wr hT ⟨HS.out.2.2.1, HS.out.2.2.2⟩ (by simp) (by have := HB.out.lt.2.2.2.2.2; have := HB.out.lt.1; have := HB.out.lt.2.2.2.1; omega)).mono ?_
        rintro e w9 ⟨rfl, ⟨n9, ov9, ht9, ho9⟩, hn9⟩
        have hS0 : TogS w wr w.heap.size p m 0 (.agg #[.int .i64 N1, .slice af F cf, .slice ab 256 cb, .slice an M cn]) (.agg #[.int .i64 N2, .slice ef F' ce, .slice eb 256 ce', .slice en M' ce'']) [.int .i64 N1, .slice af F cf, .slice ab 256 cb, .slice an M cn, .int .i64 N2, .slice ef F' ce, .slice eb 256 ce', .slice en M' ce''] (.slice x 256 c) fv D E (fsP D E) [] (.slice none 0 0) := by
          have hlt := HB.out.lt
          refine ⟨hT, ⟨_, _, _, _, _, _, _, _, rfl, rfl, rfl⟩, H.out.1, H.out.2.1, HB.out.bel, own_weak HB.out.fst (by omega), fun g hg hm => ?_, ⟨by omega, by omega, Nat.le_refl _, by omega⟩⟩
          have h1 := (HB.out.fst.lt g hg).1
          rcases hm with h2 | h2 | h2
          · omega
          · omega
          · cases h2
        have hF0 : TogF w wr w.heap.size p m 0 (.agg #[.int .i64 N1, .slice af F cf, .slice ab 256 cb, .slice an M cn]) (.agg #[.int .i64 N2, .slice ef F' ce, .slice eb 256 ce', .slice en M' ce'']) [.int .i64 N1, .slice af F cf, .slice ab 256 cb, .slice an M cn, .int .i64 N2, .slice ef F' ce, .slice eb 256 ce', .slice en M' ce''] (.slice x 256 c) fv D E [] (.slice none 0 0) := by
          refine ⟨hS0, zM_ints HB.out.blk, fun g hg => ?_⟩
          rcases HB.out.blk.place with h0 | ⟨b', o', rfl, hb', -⟩
          · cases h0
          · obtain rfl : b' = g := by injection hg
            obtain ⟨h1, h2, -, -⟩ := HB.out.off b' o' rfl
            refine ⟨hb', fun hm => ?_⟩
            rcases hm with h3 | h3 | h3
            · exact h1 h3
            · exact h2 h3
            · cases h3
        have hF9 := hF0.met (hS0.met ht9 ho9 hn9) ho9 hn9
        have hadd : addR eqP [] (N1, N2) = [(D.aut.start, E.aut.start)] := by
          rw [addR_new (by simp), HS.out.1, HS.out.2.1]
          rfl
        rw [hadd] at hF9
        have HF := Lib.hid hF9
        clear hF9 hF0 hS0 hT ht9 ho9 hn9 hadd y0 x0
        go_wp2_with fail
        go_ret
        exact ⟨p, m, n9, _, _, _, ov9, rfl, HF.out⟩
end Go.Proofs.YtmmlakheimfijaaGreatDoor
namespace Go.Proofs.YtmmlakheimfijaaGreatDoor
set_option linter.unusedVariables false
set_option linter.unusedSimpArgs false
open Go.RowKit Go.Maps Go.Sort Go.ChangeShapes Go.WideShapes Go.Joins

section
variable {D E : DfaI} {fs : List Nat} {x : Pr} {o : List Pr}
theorem nextP_len : (nextP D E fs x).length = fs.length := by simp [nextP]
theorem prO_full : prO D E fs x o fs.length = (nextP D E fs x).foldl (addR eqP) o := by
  unfold prO
  rw [List.take_of_length_le (by rw [nextP_len]; exact Nat.le_refl _)]
theorem prN_full : prN D E fs x o fs.length = (nextP D E fs x).map (idxP ((nextP D E fs x).foldl (addR eqP) o)) := by
  unfold prN
  rw [prO_full, List.take_of_length_le (by rw [nextP_len]; exact Nat.le_refl _)]
/-- the pairs met so far, the first i of them gone over -/
structure StepP (D E : DfaI) (N i : Nat) (o : List Pr) : Prop where
  bfs : bfs (addR eqP) (nextP D E (fsP D E)) (N - i) i o = pairsL D E
  lt : ∀ p ∈ o, p.1 < D.next.length ∧ p.2 < E.next.length
  nd : o.Nodup
  hd : ∃ t, o = (D.aut.start, E.aut.start) :: t
  le : i ≤ o.length
  lim : o.length < N
theorem nextP_lt (hD : RightD D) (hE : RightD E) (hx : x.1 < D.next.length ∧ x.2 < E.next.length) : ∀ q ∈ nextP D E (fsP D E) x, q.1 < D.next.length ∧ q.2 < E.next.length :=
  nextP_in (S := fun p => p.1 < D.next.length ∧ p.2 < E.next.length) (fun c hc => (mbP_meet D E).byte hc) (fun p c hp hc => stpP_lt hD hE hp hc) x hx
theorem StepP.size (hlt : ∀ p ∈ o, p.1 < D.next.length ∧ p.2 < E.next.length) (hnd : o.Nodup) (hd : ∃ t, o = (D.aut.start, E.aut.start) :: t) : o.length ≤ D.next.length * E.next.length := by
  have h0 : AllP D E [] o := ⟨hd, hnd, fun p _ k hk => by simp at hk, hlt⟩
  exact h0.size
theorem StepP.start (hD : RightD D) (hE : RightD E) : StepP D E (D.next.length * E.next.length + 1) 0 [(D.aut.start, E.aut.start)] where
  bfs := rfl
  lt := fun p hp => by obtain rfl := List.mem_singleton.1 hp; exact start_lt hD hE
  nd := (by simp)
  hd := ⟨[], rfl⟩
  le := Nat.zero_le _
  lim := by
    have := StepP.size (D := D) (E := E) (o := [(D.aut.start, E.aut.start)]) (fun p hp => by obtain rfl := List.mem_singleton.1 hp; exact start_lt hD hE) ((by simp)) ⟨[], rfl⟩
    omega
theorem StepP.next {N i : Nat} (hN : N = D.next.length * E.next.length + 1) (hD : RightD D) (hE : RightD E) (h : StepP D E N i o) (hx : o[i]? = some x) : StepP D E N (i + 1) ((nextP D E (fsP D E) x).foldl (addR eqP) o) := by
  have hi := (List.getElem?_eq_some_iff.1 hx).1
  have hxl := h.lt x (List.mem_of_getElem? hx)
  obtain ⟨t, ht⟩ := foldR_pre eqP (nextP D E (fsP D E) x) o
  have hlt := foldR_in (E := eqP) (S := fun p : Pr => p.1 < D.next.length ∧ p.2 < E.next.length) (nextP D E (fsP D E) x) o h.lt (nextP_lt hD hE hxl)
  have hnd : ((nextP D E (fsP D E) x).foldl (addR eqP) o).Nodup := by
    rw [List.nodup_iff_pairwise_ne]
    refine (foldR_apart (E := eqP) _ o ?_).imp fun {a b} h e => ?_
    · have := h.nd
      rw [List.nodup_iff_pairwise_ne] at this
      refine this.imp fun {a b} hne => ?_
      unfold eqP
      exact decide_eq_false fun e => hne e.symm
    · simp [e, eqP] at h
  have hhd : ∃ t', (nextP D E (fsP D E) x).foldl (addR eqP) o = (D.aut.start, E.aut.start) :: t' := by
    obtain ⟨t0, h0⟩ := h.hd
    exact ⟨t0 ++ t, by rw [ht, h0]; rfl⟩
  refine ⟨?_, hlt, hnd, hhd, ?_, ?_⟩
  · have hb := h.bfs
    have hl := h.lim
    rw [show N - i = (N - (i + 1)) + 1 by omega, Go.Proofs.YtmmlakheimfijaaGreatDoor.bfs, hx] at hb
    exact hb
  · rw [ht, List.length_append]; omega
  · have := StepP.size hlt hnd hhd
    omega
theorem StepP.done {N : Nat} (h : StepP D E N o.length o) : o = pairsL D E := by
  have hb := h.bfs
  have hl := h.lim
  rw [show N - o.length = (N - o.length - 1) + 1 by omega, Go.Proofs.YtmmlakheimfijaaGreatDoor.bfs, List.getElem?_eq_none (Nat.le_refl _)] at hb
  exact hb
theorem StepP.more {N i : Nat} (h : StepP D E N i o) : o.length ≤ (pairsL D E).length := by
  obtain ⟨t, ht⟩ := bfs_pre eqP (nextP D E (fsP D E)) (N - i) i o
  rw [h.bfs] at ht
  rw [ht, List.length_append]
  omega
end
/-- the rows made so far -/
structure RowsOf (w1 w : World) (D E : DfaI) (outv : Value) (o : List Pr) (RS : List Value) (i : Nat) : Prop where
  out : w.ownsRow w1.heap.size 23 1 outv i RS
  rows : ∀ k, k < i → ∃ v, RS[k]? = some v ∧ w.ownsRow w1.heap.size 3 1 v (fsP D E).length (natCells ((nextP D E (fsP D E) (o.getD k (0, 0))).map (idxP o)))
  mem : ∀ k, k < i → ∀ q ∈ nextP D E (fsP D E) (o.getD k (0, 0)), q ∈ o
section
variable {w1 w w' : World} {D E : DfaI} {outv : Value} {o : List Pr} {RS : List Value} {i : Nat}
theorem RowsOf.start (w1 w : World) (D E : DfaI) (o : List Pr) : RowsOf w1 w D E (.slice none 0 0) o [] 0 := ⟨World.ownsRow_nil _ _ _ _, fun k hk => by omega, fun k hk => by omega⟩
theorem RowsOf.near {p m B n : Nat} {ov : Value} {xs : List Value} (h : RowsOf w1 w D E outv o RS i) (hn : Near (mS p m ov) w w') (ho : w.ownsRow B 101 2 ov n xs) (hp : p < w1.heap.size) (hm : m < w1.heap.size) : RowsOf w1 w' D E outv o RS i where
  out := own_sameP h.out fun g hg => hn.block g (own_lt h.out hg) fun hS => by
    have h1 := (h.out.lt g hg).1
    rcases hS with h2 | h2 | h2
    · omega
    · omega
    · exact own_ne h.out ho (by decide) g hg h2
  rows := fun k hk => by
    obtain ⟨v, hv, hr⟩ := h.rows k hk
    refine ⟨v, hv, own_sameP hr fun g hg => hn.block g (own_lt hr hg) fun hS => ?_⟩
    have h1 := (hr.lt g hg).1
    rcases hS with h2 | h2 | h2
    · omega
    · omega
    · exact own_ne hr ho (by decide) g hg h2
  mem := h.mem
theorem RowsOf.under (h : RowsOf w1 w D E outv o RS i) (hb : Below w.heap.size w w') : RowsOf w1 w' D E outv o RS i where
  out := own_under h.out hb fun g hg => own_lt h.out hg
  rows := fun k hk => by
    obtain ⟨v, hv, hr⟩ := h.rows k hk
    exact ⟨v, hv, own_under hr hb fun g hg => own_lt hr hg⟩
  mem := h.mem
theorem RowsOf.more (h : RowsOf w1 w D E outv o RS i) (hi : i ≤ o.length) (t : List Pr) : RowsOf w1 w D E outv (o ++ t) RS i := by
  have hg : ∀ k, k < i → (o ++ t).getD k (0, 0) = o.getD k (0, 0) := fun k hk => by
    rw [List.getD_eq_getElem?_getD, List.getElem?_append_left (by omega), List.getD_eq_getElem?_getD]
  refine ⟨h.out, fun k hk => ?_, fun k hk q hq => ?_⟩
  · obtain ⟨v, hv, hr⟩ := h.rows k hk
    refine ⟨v, hv, ?_⟩
    rw [hg k hk]
    have e : (nextP D E (fsP D E) (o.getD k (0, 0))).map (idxP (o ++ t)) = (nextP D E (fsP D E) (o.getD k (0, 0))).map (idxP o) := List.map_congr_left fun q hq => idxP_old (h.mem k hk q hq) t
    rw [e]
    exact hr
  · rw [hg k hk] at hq
    exact List.mem_append_left _ (h.mem k hk q hq)
theorem RowsOf.push {rv outv' : Value} (h : RowsOf w1 w D E outv o RS i) (hr : w.ownsRow w1.heap.size 3 1 rv (fsP D E).length (natCells ((nextP D E (fsP D E) (o.getD i (0, 0))).map (idxP o)))) (hmem : ∀ q ∈ nextP D E (fsP D E) (o.getD i (0, 0)), q ∈ o)
    (hown : w'.ownsRow w1.heap.size 23 1 outv' (i + 1) (RS ++ [rv])) (hgrow : w.grownBy w' outv.ownBlock) : RowsOf w1 w' D E outv' o (RS ++ [rv]) (i + 1) := by
  have hlen : RS.length = i := by have := h.out.1; omega
  refine ⟨hown, fun k hk => ?_, fun k hk => ?_⟩
  · by_cases e : k = i
    · subst e
      refine ⟨rv, by rw [List.getElem?_append_right (by omega), hlen]; simp, own_sameP hr fun g hg => hgrow.block g (own_lt hr hg) fun e => own_ne hr h.out (by decide) g hg e.symm⟩
    · obtain ⟨v, hv, hr'⟩ := h.rows k (by omega)
      exact ⟨v, by rw [List.getElem?_append_left (by omega)]; exact hv, own_sameP hr' fun g hg => hgrow.block g (own_lt hr' hg) fun e => own_ne hr' h.out (by decide) g hg e.symm⟩
  · by_cases e : k = i
    · subst e
      exact hmem
    · exact h.mem k (by omega)
/-- all rows, as they are read -/
theorem RowsOf.reads (h : RowsOf w1 w D E outv o RS o.length) (op : Bool → Bool → Bool) : IRowsAt w outv (prodD D E op (mbP D E) (fsP D E) o).next := by
  have hl : (prodD D E op (mbP D E) (fsP D E) o).next.length = o.length := by simp [prodD]
  have hlen : RS.length = o.length := by have := h.out.1; omega
  rcases h.out.2 with ⟨rfl, h0⟩ | ⟨g, cap, cur, rfl, hB, hg, -⟩
  · exact ⟨none, 0, by rw [hl, h0], .inl (List.eq_nil_of_length_eq_zero (by rw [hl, h0]))⟩
  · refine ⟨_, cap, by rw [hl], .inr ⟨g, 0, rfl, own_lt h.out rfl, fun j l hj => ?_⟩⟩
    have hjl : j < o.length := by rw [← hl]; exact (List.getElem?_eq_some_iff.1 hj).1
    obtain ⟨v, hv, hr⟩ := h.rows j hjl
    refine ⟨v, ?_, ?_⟩
    · rw [Nat.zero_add, h.out.cellAt j (by omega)]
      exact hv
    · have e : l = intsOf ((nextP D E (fsP D E) (o.getD j (0, 0))).map (idxP o)) := by
        unfold prodD at hj
        simp only [List.getElem?_map, List.getElem?_eq_getElem hjl, Option.map_some, Option.some.injEq] at hj
        rw [← hj, List.getD_eq_getElem?_getD, List.getElem?_eq_getElem hjl]
        rfl
      rw [e]
      exact (NatsAt.of_own hr).intsAt
end
end Go.Proofs.YtmmlakheimfijaaGreatDoor
namespace Go.Proofs.YtmmlakheimfijaaGreatDoor
set_option linter.unusedVariables false
set_option linter.unusedSimpArgs false
open Go.RowKit Go.Maps Go.Sort Go.ChangeShapes Go.WideShapes Go.Joins

/-- what `rows` leaves -/
structure RowsEnd (w0 w w' : World) (B p m : Nat) (va vb blk fv : Value) (cs : List Value) (D E : DfaI) (rv : Value) (few : Bool) (n : Nat) (o : List Pr) (ov : Value) : Prop where
  f : TogF w0 w' B p m n va vb cs blk fv D E o ov
  all : few = true → o = pairsL D E ∧ o.length ≤ 4096 ∧ ∃ RS, RowsOf w w' D E rv o RS o.length
  many : few = false → 4096 < o.length ∧ 4096 < (pairsL D E).length
  le : o.length ≤ 5000
set_option maxHeartbeats 8000000 in
set_option maxRecDepth 1000000 in
theorem rows_walk (w0 w : World) (B p m n : Nat) (va vb blk fv : Value) (cs : List Value) (D E : DfaI) (ov : Value) (h : TogF w0 w B p m n va vb cs blk fv D E [(D.aut.start, E.aut.start)] ov) (hD : D.In) (hE : E.In) (hR : RightD D) (hR2 : RightD E) :
    Calls Tryz.prog 68 #[.pointer (some ⟨p, 0, none⟩)] w fun e w' => ∃ rv few n' o' ov', e = .returned (.tuple #[rv, .bool few]) ∧ RowsEnd w0 w w' B p m va vb blk fv cs D E rv few n' o' ov' := by
  obtain ⟨N, hN⟩ : ∃ N, N = D.next.length * E.next.length + 1 := ⟨_, rfl⟩
  have hst := StepP.start hR hR2
  rw [← hN] at hst
  have H := Lib.hid (And.intro h (And.intro hD (And.intro hE (And.intro hR (And.intro hR2 (And.intro hN hst))))))
  have hpm : p < w.heap.size ∧ m < w.heap.size := ⟨h.s.t.q.lt, h.s.t.num.lt⟩
  have hNs : 2 ≤ N := by have := hst.lim; simp at this; omega
  clear h hD hE hR hR2 hN hst
  go_enter Tryz.func68, Tryz.ntmps68
  go_wp2_with fail
  go_loopw [4, 5] (fun c4 c5 wr => ∃ (i n' : Nat) (o : List Pr) (RS : List Value) (ov' : Value), c5 = .int .i64 i ∧ o.length ≤ 4096 ∧ i ≤ o.length ∧ o.length < N ∧ w.heap.size ≤ wr.heap.size ∧ Hid (TogF w0 wr B p m n' va vb cs blk fv D E o ov' ∧ StepP D E N i o ∧ RowsOf w wr D E c4 o RS i)) (fun _ x _ => N - (intOf x).toNat)
  case atStart => exact ⟨0, n, _, [], ov, rfl, by simp, by omega, by simp; omega, Nat.le_refl _, Lib.hid ⟨H.out.1, H.out.2.2.2.2.2.2, RowsOf.start _ _ _ _ _⟩⟩
  case round =>
    obtain ⟨i, nn, o, RS, ov1, rfl, ho, hi, hoN, hzr, HS⟩ := hrel
    obtain ⟨A9, cc9, rfl⟩ := own_slice HS.out.1.s.t.ord
    obtain ⟨-, c11, -⟩ := HS.out.1.s.t.c3
    obtain ⟨a4, cc4, rfl⟩ := own_slice HS.out.2.2.out
    by_cases hlt : i < o.length
    · obtain ⟨ga, capa, hva, -, hla⟩ := HS.out.1.s.t.ord.form (by omega)
      obtain ⟨rfl, -, rfl⟩ := Value.slice.inj hva
      obtain ⟨x, hx⟩ : ∃ x, o[i]? = some x := ⟨_, List.getElem?_eq_getElem hlt⟩
      obtain ⟨g1, g2⟩ := prCells_get hx
      have m1 := HS.out.1.s.t.ord.cellAt (2 * i) (by omega)
      have m2 := HS.out.1.s.t.ord.cellAt (2 * i + 1) (by omega)
      rw [g1] at m1
      rw [g2] at m2
      have hxg : o.getD i (0, 0) = x := by rw [List.getD_eq_getElem?_getD, hx]; rfl
      have HX := Lib.hid (And.intro hx hxg)
      obtain ⟨x1, x2⟩ := x
      clear hva g1 g2 hx hxg
      rw [Nat.mul_comm 2 i] at m1 m2
      go_wp2_with fail
      have hxl := HS.out.2.1.lt (x1, x2) (List.mem_of_getElem? HX.out.1)
      refine (row_walk w0 wr B p m nn va vb blk fv cs D E (fsP D E) o _ (x1, x2) HS.out.1.s H.out.2.1 H.out.2.2.1 hxl.1 hxl.2 H.out.2.2.2.1 H.out.2.2.2.2.1 (fun k hk => fsP_lt hk) (by omega) (fsP_le D E)).mono ?_
      rintro e w5 ⟨rv, rfl, hrv, ⟨n5, ov5, hs5, ho5⟩, hn5⟩
      rw [prO_full] at hs5
      rw [prN_full] at hrv
      have hF5 := HS.out.1.met hs5 ho5 hn5
      have hR5 := HS.out.2.2.near hn5 HS.out.1.s.t.ord hpm.1 hpm.2
      have hP5 := HS.out.2.1.next H.out.2.2.2.2.2.1 H.out.2.2.2.1 H.out.2.2.2.2.1 HX.out.1
      obtain ⟨t, ht⟩ := foldR_pre eqP (nextP D E (fsP D E) (x1, x2)) o
      have hl5 := @prO_len D E (fsP D E) (x1, x2) o (fsP D E).length (Nat.le_refl _)
      rw [prO_full] at hl5
      have hf256 := fsP_le D E
      have hmem : ∀ q ∈ nextP D E (fsP D E) (x1, x2), q ∈ (nextP D E (fsP D E) (x1, x2)).foldl (addR eqP) o := fun q hq => foldP_mem _ hq
      have hR6 := hR5.more hi t
      rw [← ht] at hR6
      have hgt : ((nextP D E (fsP D E) (x1, x2)).foldl (addR eqP) o).getD i (0, 0) = (x1, x2) := by
        rw [ht, List.getD_eq_getElem?_getD, List.getElem?_append_left hlt, HX.out.1]
        rfl
      have hz5 := hn5.size
      have hlo : i + 1 ≤ ((nextP D E (fsP D E) (x1, x2)).foldl (addR eqP) o).length := hP5.le
      generalize (nextP D E (fsP D E) (x1, x2)).foldl (addR eqP) o = o5 at *
      have hl5' : o5.length ≤ 4352 := by omega
      have hoN5 := hP5.lim
      have HV := Lib.hid (And.intro (own_weak hrv hzr) (And.intro hgt hmem))
      have H5 := Lib.hid (And.intro hF5 (And.intro hP5 hR6))
      clear hrv hs5 ho5 hn5 hF5 hR5 hP5 ht hl5 hf256 hmem hR6 hgt m1 m2 c11 hla
      obtain ⟨i0, hi0, hz00, hz01, hz02⟩ := info_parts infoRow
      have hal := (Below.refl w5.heap.size w5).alloc (Nat.le_refl _) (.cells #[rv] 23)
      have H6 := Lib.hid (And.intro (H5.out.1.under hal) (H5.out.2.2.under hal))
      have hr6 := own_under HV.out.1 hal fun g hg => own_lt HV.out.1 hg
      have hone := one_at (w := w5) (u := rv) (t := 23)
      have hown6 := H6.out.2.out
      obtain ⟨av, cv, rfl⟩ := own_slice HV.out.1
      have hk7 : ∀ g, (Value.slice a4 i cc4).ownBlock = some g → w0.heap.size ≤ g ∧ ¬ mS p m ov5 g ∧ fv.ownBlock ≠ some g ∧ blk.ownBlock ≠ some g := fun g hg => by
        have h1 := (hown6.lt g hg).1
        have h2 := H.out.1.s.bel.size
        refine ⟨by omega, fun hS => ?_, fun e => own_ne H6.out.1.s.fst hown6 (by decide) g e hg, fun e => ?_⟩
        · rcases hS with h3 | h3 | h3
          · omega
          · omega
          · exact own_ne hown6 H6.out.1.s.t.ord (by decide) g hg h3
        · have := (H.out.1.off g e).1
          omega
      have HK := Lib.hid hk7
      clear hk7
      obtain ⟨A5, c5, rfl⟩ := own_slice H5.out.1.s.t.ord
      rcases Nat.lt_or_ge 4096 o5.length with hm | hm
      all_goals
        go_wp2_with (at_builtin; refine wpList_append_lies _ rfl _ _ 24 rfl w.heap.size 23 i0 (.slice none 0 0) 1 24 Tryz.underlying24 hi0 hz00 hz01 hz02 rfl (by decide) _ _ _ rfl hown6 ⟨w5.heap.size, 0, none⟩ 1 1 [.slice av (fsP D E).length cv] rfl rfl hone (fun u hu => by simp at hu; subst hu; rfl) (by decide) (by unfold maxLen; omega) (by omega) (by simp; omega) _ rfl ?_; intro g7 cap7 w7 hown7 hgrow7 hat7 hlt7; have HF7 := Lib.hid (H6.out.1.grown (show (w5.alloc (.cells #[.slice av (fsP D E).length cv] 23)).grownBy w7 (Value.slice a4 i cc4).ownBlock from hgrow7) HK.out); have HR7 := Lib.hid (H6.out.2.push (rv := .slice av (fsP D E).length cv) (by rw [HV.out.2.1]; exact hr6) (by rw [HV.out.2.1]; exact HV.out.2.2) hown7 hgrow7); obtain ⟨-, c11, -⟩ := HF7.out.s.t.c3; have hz7 := hgrow7.size; simp only [Array.size_push, World.alloc] at hz7; clear hown7 hgrow7 hat7 hlt7)
      · refine bodyPost_ret (v := .tuple #[.slice none 0 0, .bool false]) (by simp [results, Tryz.results68, go_sem]) rfl ⟨_, _, n5, o5, _, rfl, HF7.out, (fun h => by cases h), fun _ => ⟨hm, Nat.lt_of_lt_of_le hm H5.out.2.1.more⟩, by omega⟩
      · go_roundw
        case rel => exact ⟨i + 1, n5, o5, _, _, by go_num, hm, hlo, hoN5, by omega, Lib.hid ⟨HF7.out, H5.out.2.1, HR7.out⟩⟩
        case measure => simp [intOf]; omega
    · obtain rfl : i = o.length := by omega
      go_wp2_with fail
      refine bodyPost_ret (v := .tuple #[.slice a4 o.length cc4, .bool true]) (by simp [results, Tryz.results68, go_sem]) rfl ⟨_, _, nn, o, _, rfl, HS.out.1, fun _ => ⟨HS.out.2.1.done, ho, RS, HS.out.2.2⟩, (fun h => by cases h), by omega⟩
end Go.Proofs.YtmmlakheimfijaaGreatDoor
