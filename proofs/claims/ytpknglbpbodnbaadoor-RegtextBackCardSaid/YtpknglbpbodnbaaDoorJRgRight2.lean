/-
  The walk of the program's Right. Conditions: the tree lies in memory.
-/
import Derived.Test.YtpknglbpbodnbaaDoorJRgRight
namespace Go.Proofs.YtpknglbpbodnbaaDoor
set_option linter.unusedVariables false
set_option linter.unusedSimpArgs false
open Go.RowKit Go.Sort Cs Rg Go.ChangeShapes Go.WideShapes

theorem right_rest {k : Int} {s : S4} {l : List Nd} {x y : Int} (h : KidsOk k l l.length) : rightN (.mk k s l x y) = true ↔ RestOk k s l x y :=
  ⟨fun hr => (rightN_iff.1 hr).2, fun hr => rightN_iff.2 ⟨h.all, hr⟩⟩
set_option maxHeartbeats 8000000 in
set_option maxRecDepth 1000000 in
theorem right_any (n : Nd) : ∀ (v : Value) (w : World), NdAt w v n →
    Calls Tryd.prog 17 #[v] w fun e w' => e = .returned (.bool (rightN n)) ∧ Below w.heap.size w w' := by
  refine Nd.ind (P := fun n => ∀ (v : Value) (w : World), NdAt w v n →
    Calls Tryd.prog 17 #[v] w fun e w' => e = .returned (.bool (rightN n)) ∧ Below w.heap.size w w') (fun k s l x y ih v w hv => ?_) n
  obtain ⟨a, c, rfl, hin⟩ := hv
  have hln : l.length ≤ 9223372036854775807 := by have := hin.len; unfold maxLen at this; exact this
  have hb0 := (Below.refl w.heap.size w).alloc (Nat.le_refl _) (.cells #[.int .i64 k, .int .u64 s.a, .int .u64 s.b, .int .u64 s.c, .int .u64 s.d, .slice a l.length c, .int .i64 x, .int .i64 y] 27)
  have hq := Blk.new w 27 #[.int .i64 k, .int .u64 s.a, .int .u64 s.b, .int .u64 s.c, .int .u64 s.d, .slice a l.length c, .int .i64 x, .int .i64 y]
  have IH := Lib.hid ih
  obtain ⟨⟨y0, y1, y2, y3, y4, y5, y6, y7⟩, -⟩ := hq.c8
  have H := Lib.hid (And.intro (hin.below hb0) (And.intro hq hb0))
  obtain ⟨e0, he0⟩ : ∃ e0, decide (s = none4) = e0 := ⟨_, rfl⟩
  have heq := eq_none4 s e0 he0.symm
  have HE := Lib.hid he0
  have HQ := Lib.hid heq
  clear hin hb0 hq ih he0 heq
  obtain ⟨R, hR⟩ : ∃ R, rightN (.mk k s l x y) = R := ⟨_, rfl⟩
  have HR := Lib.hid hR
  rw [hR]
  clear hR
  show Calls Tryd.prog 17 #[.agg #[.int .i64 k, .int .u64 s.a, .int .u64 s.b, .int .u64 s.c, .int .u64 s.d, .slice a l.length c, .int .i64 x, .int .i64 y]] w _
  go_enter Tryd.func17, Tryd.ntmps17
  go_wp2_with fail
  clear y0 y1 y2 y3 y4 y5 y6 y7
  generalize w.alloc (.cells #[.int .i64 k, .int .u64 s.a, .int .u64 s.b, .int .u64 s.c, .int .u64 s.d, .slice a l.length c, .int .i64 x, .int .i64 y] 27) = W at *
  go_loopw [8] (fun si wr => ∃ i : Nat, si = .int .i64 (i : Int) ∧ i ≤ l.length ∧ Hid (KidsOk k l i) ∧ Below W.heap.size W wr) (fun si _ => l.length - (intOf si).toNat)
  case atStart => exact ⟨0, rfl, Nat.zero_le _, Lib.hid (fun j n h => by omega), Below.refl _ _⟩
  case round =>
    obtain ⟨i, rfl, hi, HK, hbr⟩ := hrel
    have hq := H.out.2.1.below hbr H.out.2.1.lt
    obtain ⟨⟨y0, y1, y2, y3, y4, y5, y6, y7⟩, -⟩ := hq.c8
    have hin := H.out.1.below hbr
    by_cases hil : i < l.length
    · have k1 : decide (i < l.length) = true := decide_eq_true hil
      obtain ⟨m, hm⟩ : ∃ m, l[i]? = some m := ⟨_, List.getElem?_eq_getElem hil⟩
      have HM := Lib.hid hm
      obtain ⟨b, o, a', c', rfl, hblt, hl8, hin'⟩ := hin.kid (i := i) (m := m) hm
      obtain ⟨z0, z1, z2, z3, z4, z5, z6, z7⟩ := hl8.c8
      have hal := (Below.refl wr.heap.size wr).alloc (Nat.le_refl _) (.cells #[.int .i64 m.kind, .int .u64 m.set.a, .int .u64 m.set.b, .int .u64 m.set.c, .int .u64 m.set.d, .slice a' m.kids.length c', .int .i64 m.lo, .int .i64 m.hi] 27)
      have hqm := Blk.new wr 27 #[.int .i64 m.kind, .int .u64 m.set.a, .int .u64 m.set.b, .int .u64 m.set.c, .int .u64 m.set.d, .slice a' m.kids.length c', .int .i64 m.lo, .int .i64 m.hi]
      obtain ⟨⟨x0, x1, x2, x3, x4, x5, x6, x7⟩, -⟩ := hqm.c8
      have HI := Lib.hid (And.intro (hin'.below hal) (And.intro hqm (And.intro (hq.below hal hq.lt) (And.intro (hbr.trans (hal.mono hbr.size)) hq))))
      clear hin hin' hl8 hq hm hbr hal hqm
      go_wp2_with fail
      refine (IH.out m (List.mem_of_getElem? HM.out) _ _ ⟨a', c', rfl, HI.out.1⟩).mono ?_
      rintro e w1 ⟨rfl, b1⟩
      have g1 := HI.out.2.1.below b1 HI.out.2.1.lt
      have g2 := HI.out.2.2.1.below b1 HI.out.2.2.1.lt
      have g3 := HI.out.2.2.2.1.trans (b1.mono HI.out.2.2.2.1.size)
      have HX := Lib.hid g3
      have HBB := Lib.hid (H.out.2.2.trans (g3.mono H.out.2.2.size))
      clear y0 y1 y2 y3 y4 y5 y6 y7 x0 x1 x2 x3 x4 x5 x6 x7 z0 z1 z2 z3 z4 z5 z6 z7 HI b1 g3
      obtain ⟨⟨y0, y1, y2, y3, y4, y5, y6, y7⟩, -⟩ := g2.c8
      obtain ⟨⟨x0, x1, x2, x3, x4, x5, x6, x7⟩, -⟩ := g1.c8
      clear g1 g2
      cases hrm : rightN m with
      | false =>
        have HF := Lib.hid (show R = false by rw [← HR.out]; exact KidsOk.no HM.out (by rw [hrm]; simp) _ _ _)
        clear hrm
        go_wp2_with (go_at_call 42; refine (times_any _ _ _).mono ?_; rintro e w' ⟨rfl, rfl⟩)
        all_goals go_ret
        all_goals exact ⟨ret_bool HF.out.symm, HBB.out⟩
      | true =>
        have HT := Lib.hid hrm
        clear hrm
        by_cases hkm : m.kind = k
        · have k5 : (m.kind == k) = true := by rw [hkm]; exact beq_self_eq_true k
          by_cases hk4 : k = 4
          · have k6 : (k != 4) = false := by rw [hk4]; rfl
            have HN := Lib.hid hk4
            clear hk4 hkm
            go_wp2_with fail
            go_roundw
            case rel => exact ⟨i + 1, by go_num, hil, Lib.hid (HK.out.succ HM.out HT.out (fun _ => HN.out)), HX.out⟩
            case measure => simp [intOf]; omega
          · have HF := Lib.hid (show R = false by rw [← HR.out]; exact KidsOk.no HM.out (fun h => hk4 (h.2 hkm)) _ _ _)
            have k6 : (k != 4) = true := by rw [bne_iff_ne]; exact hk4
            clear hk4 hkm
            go_wp2_with (go_at_call 42; refine (times_any _ _ _).mono ?_; rintro e w' ⟨rfl, rfl⟩)
            all_goals go_ret
            all_goals exact ⟨ret_bool HF.out.symm, HBB.out⟩
        · have k5 : (m.kind == k) = false := by rw [beq_eq_false_iff_ne]; exact hkm
          have HN := Lib.hid hkm
          clear hkm
          go_wp2_with fail
          go_roundw
          case rel => exact ⟨i + 1, by go_num, hil, Lib.hid (HK.out.succ HM.out HT.out (fun e => absurd e HN.out)), HX.out⟩
          case measure => simp [intOf]; omega
    · have k1 : decide (i < l.length) = false := decide_eq_false hil
      obtain rfl : i = l.length := by omega
      have HREST := Lib.hid (show R = true ↔ RestOk k s l x y by rw [← HR.out]; exact right_rest HK.out)
      have HBB := Lib.hid (H.out.2.2.trans (hbr.mono H.out.2.2.size))
      have heq := HQ.out
      clear hin hq hbr H HK
      by_cases h1 : k = 1
      · subst h1
        go_wp2_with (go_at_call 42; refine (times_any _ _ _).mono ?_; rintro e w' ⟨rfl, rfl⟩)
        all_goals go_ret
        all_goals refine ⟨ret_bool ?_, HBB.out⟩
        all_goals (clear y0 y1 y2 y3 y4 y5 y6 y7; rw [Bool.eq_iff_iff, HREST.out]; unfold RestOk)
        all_goals first | (simp_all; done) | (simp_all; omega) | (have hs9 := HS.out; simp_all; done) | (have hs9 := HS.out; simp_all; omega)
      have q1 : (k != 1) = true := by rw [bne_iff_ne]; exact h1
      have q2 : (k == 1) = false := by rw [beq_eq_false_iff_ne]; exact h1
      cases e0 with
      | false =>
        have hs : ¬ s = none4 := of_decide_eq_false HE.out
        have HF := Lib.hid (show R = false by rw [Bool.eq_false_iff]; intro h; exact hs ((HREST.out.1 h).1 h1))
        clear hs h1
        go_wp2_with (go_at_call 42; refine (times_any _ _ _).mono ?_; rintro e w' ⟨rfl, rfl⟩)
        all_goals go_ret
        all_goals exact ⟨ret_bool HF.out.symm, HBB.out⟩
      | true =>
      have hs : s = none4 := of_decide_eq_true HE.out
      have HS := Lib.hid hs
      have H1 := Lib.hid h1
      clear hs h1
      by_cases h2 : k = 2
      · subst h2
        clear q1 q2
        go_wp2_with (go_at_call 42; refine (times_any _ _ _).mono ?_; rintro e w' ⟨rfl, rfl⟩)
        all_goals go_ret
        all_goals refine ⟨ret_bool ?_, HBB.out⟩
        all_goals (clear y0 y1 y2 y3 y4 y5 y6 y7; rw [Bool.eq_iff_iff, HREST.out]; unfold RestOk)
        all_goals first | (simp_all; done) | (simp_all; omega) | (have hs9 := HS.out; simp_all; done) | (have hs9 := HS.out; simp_all; omega)
      by_cases h3 : k = 3
      · subst h3
        clear q1 q2
        go_wp2_with (go_at_call 42; refine (times_any _ _ _).mono ?_; rintro e w' ⟨rfl, rfl⟩)
        all_goals go_ret
        all_goals refine ⟨ret_bool ?_, HBB.out⟩
        all_goals (clear y0 y1 y2 y3 y4 y5 y6 y7; rw [Bool.eq_iff_iff, HREST.out]; unfold RestOk)
        all_goals first | (simp_all; done) | (simp_all; omega) | (have hs9 := HS.out; simp_all; done) | (have hs9 := HS.out; simp_all; omega)
      by_cases h4 : k = 4
      · subst h4
        clear q1 q2
        go_wp2_with (go_at_call 42; refine (times_any _ _ _).mono ?_; rintro e w' ⟨rfl, rfl⟩)
        all_goals go_ret
        all_goals refine ⟨ret_bool ?_, HBB.out⟩
        all_goals (clear y0 y1 y2 y3 y4 y5 y6 y7; rw [Bool.eq_iff_iff, HREST.out]; unfold RestOk)
        all_goals first | (simp_all; done) | (simp_all; omega) | (have hs9 := HS.out; simp_all; done) | (have hs9 := HS.out; simp_all; omega)
      have q3 : (k == 2) = false := by rw [beq_eq_false_iff_ne]; exact h2
      have q4 : (k == 3) = false := by rw [beq_eq_false_iff_ne]; exact h3
      have q5 : (k == 4) = false := by rw [beq_eq_false_iff_ne]; exact h4
      have q6 : (k != 4) = true := by rw [bne_iff_ne]; exact h4
      have HF := Lib.hid (show R = false by rw [Bool.eq_false_iff]; intro h; have := (HREST.out.1 h).2.2; have := H1.out; omega)
      clear h2 h3 h4
      go_wp2_with (go_at_call 42; refine (times_any _ _ _).mono ?_; rintro e w' ⟨rfl, rfl⟩)
      all_goals go_ret
      all_goals exact ⟨ret_bool HF.out.symm, HBB.out⟩
end Go.Proofs.YtpknglbpbodnbaaDoor
