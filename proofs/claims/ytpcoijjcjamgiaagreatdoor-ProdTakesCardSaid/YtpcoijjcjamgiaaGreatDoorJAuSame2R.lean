/-
  The walks of the reference's SameRows and Same. Conditions: the automata lie in memory.
-/
import Derived.Test.YtpcoijjcjamgiaaGreatDoorJDfa
import Derived.Test.YtpcoijjcjamgiaaGreatDoorJAuSameR
namespace Go.Proofs.YtpcoijjcjamgiaaGreatDoor
set_option linter.unusedVariables false
set_option linter.unusedSimpArgs false
open Go.RowKit Go.Maps Go.Sort Go.ChangeShapes Go.WideShapes
set_option maxHeartbeats 4000000 in
set_option maxRecDepth 100000 in
theorem samerows_any (va vb : Value) (l m : List (List Int)) (w : World) (ha : IRowsAt w va l) (hb : IRowsAt w vb m) (hl : l.length ≤ 9223372036854775807) (hm : m.length ≤ 9223372036854775807) (hl2 : ∀ r ∈ l, r.length ≤ 9223372036854775807) (hm2 : ∀ r ∈ m, r.length ≤ 9223372036854775807) :
    Calls Tryz.prog 39 #[va, vb] w fun e w' => e = .returned (.bool (decide (l = m))) ∧ Below w.heap.size w w' := by
  obtain ⟨a1, c1, rfl, -⟩ := id ha
  obtain ⟨a2, c2, rfl, -⟩ := id hb
  have H := Lib.hid (And.intro ha (And.intro hb (And.intro hl2 hm2)))
  clear ha hb hl2 hm2
  go_enter Tryz.func39, Tryz.ntmps39
  by_cases hlm : l.length = m.length
  case neg =>
    have h7 : ((l.length : Int) != (m.length : Int)) = true := by simp; omega
    have HL := Lib.hid hlm
    clear hlm
    go_wp2_with fail
    go_ret
    exact ⟨ret_bool (decide_eq_false fun e => HL.out (by rw [e])).symm, Below.refl _ _⟩
  have HLM := Lib.hid hlm
  have h7 : ((l.length : Int) != (m.length : Int)) = false := by simp; omega
  go_wp2_with fail
  go_loopw [5] (fun c wr => ∃ j : Nat, j ≤ l.length ∧ c = .int .i64 j ∧ Hid (l.take j = m.take j) ∧ Below w.heap.size w wr) (fun c _ => l.length - (intOf c).toNat)
  case atStart => exact ⟨0, by omega, rfl, Lib.hid rfl, Below.refl _ _⟩
  case round =>
    obtain ⟨j, hj, rfl, hok, hB⟩ := hrel
    by_cases hlt : j < l.length
    · obtain ⟨x, hx⟩ : ∃ x, l[j]? = some x := ⟨_, List.getElem?_eq_getElem hlt⟩
      obtain ⟨y, hy⟩ : ∃ y, m[j]? = some y := ⟨_, List.getElem?_eq_getElem (by omega)⟩
      obtain ⟨b1, o1, e1, k1, rfl, m1, n1⟩ := (H.out.1.below hB).get hx
      obtain ⟨b2, o2, e2, k2, rfl, m2, n2⟩ := (H.out.2.1.below hB).get hy
      have hjm : j < m.length := by omega
      have lb1 : b1 < wr.heap.size := World.block_lt_of_cell? wr _ m1
      have lb2 : b2 < wr.heap.size := World.block_lt_of_cell? wr _ m2
      have hxl := H.out.2.2.1 x (List.mem_of_getElem? hx)
      have hyl := H.out.2.2.2 y (List.mem_of_getElem? hy)
      have HX := Lib.hid (And.intro hx hy)
      clear hx hy
      have HM := Lib.hid (And.intro m1 (And.intro m2 (And.intro n1 n2)))
      clear m1 m2 n1 n2
      have q1 : ∀ d os, (Sort.grow (redrawn wr d) os).cell? ⟨b1, o1 + j, none⟩ = some (.slice e1 x.length k1) := fun d os => ((below_regrown wr d os).cell (p := ⟨b1, o1 + j, none⟩) lb1).trans HM.out.1
      have q2 : ∀ d os, (Sort.grow (redrawn wr d) os).cell? ⟨b2, o2 + j, none⟩ = some (.slice e2 y.length k2) := fun d os => ((below_regrown wr d os).cell (p := ⟨b2, o2 + j, none⟩) lb2).trans HM.out.2.1
      go_wp2_with fail
      refine wp_region_quiet_below (by kernel_rfl) (by kernel_rfl) ?_
      repeat (go_big_quiet_step (fail))
      go_big_quiet_step ((go_at_call 38; exact Calls.regrown_of (sameints_any _ _ x y _ (HM.out.2.2.1.below (below_regrown wr _ _)) (HM.out.2.2.2.below (below_regrown wr _ _)) hxl hyl)))
      repeat (go_big_quiet_step (fail))
      refine wpQuiet_nil ?_
      intro _ hw'
      obtain ⟨⟨dq, osq⟩, hw''⟩ := hw'
      subst hw''
      have B2 : Below w.heap.size w (Sort.grow (redrawn wr dq) osq) := hB.trans ((below_regrown wr dq osq).mono hB.size)
      generalize Sort.grow (redrawn wr dq) osq = w2 at *
      clear q1 q2
      by_cases e : x = y
      · have e' : decide (x = y) = true := decide_eq_true e
        have E := Lib.hid e
        simp only [e']
        clear e e'
        go_wp2_with fail
        go_roundw
        case rel => exact ⟨j + 1, by omega, by go_num, Lib.hid (take_eq hok.out HX.out.1 (by rw [E.out]; exact HX.out.2)), B2⟩
        case measure => simp [intOf]; omega
      · have e' : decide (x = y) = false := decide_eq_false e
        have E := Lib.hid e
        simp only [e']
        clear e e'
        go_wp2_with fail
        go_ret
        exact ⟨ret_bool (decide_eq_false (ne_at HX.out.1 HX.out.2 E.out)).symm, B2⟩
    · obtain rfl : j = l.length := by omega
      have hok' := hok.out
      rw [List.take_length, List.take_of_length_le (by omega)] at hok'
      have HOK := Lib.hid hok'
      clear hok' hok
      go_wp2_with fail
      go_ret
      exact ⟨ret_bool (decide_eq_true HOK.out).symm, hB⟩
set_option maxHeartbeats 8000000 in
set_option maxRecDepth 100000 in
theorem refsame_any (va vb : Value) (D E : DfaI) (w : World) (ha : DfaAt w va D) (hb : DfaAt w vb E) (hD : D.In) (hE : E.In) :
    Calls Tryz.prog 14 #[va, vb] w fun e w' => e = .returned (.bool (eqD D E)) ∧ Below w.heap.size w w' := by
  obtain ⟨f1, b1, n1, rfl, hf1, hb1, hn1⟩ := ha
  obtain ⟨f2, b2, n2, rfl, hf2, hb2, hn2⟩ := hb
  obtain ⟨s1, hs1⟩ : ∃ s1, D.start = s1 := ⟨_, rfl⟩
  obtain ⟨s2, hs2⟩ : ∃ s2, E.start = s2 := ⟨_, rfl⟩
  obtain ⟨p1, p2⟩ := hD.start
  obtain ⟨p3, p4⟩ := hE.start
  rw [hs1] at p1 p2
  rw [hs2] at p3 p4
  simp only [hs1, hs2]
  have hw0 := (Below.refl w.heap.size w).alloc (Nat.le_refl _) (.cells #[.int .i64 s1, f1, b1, n1] 26)
  have hw1 := hw0.alloc (by simp) (.cells #[.int .i64 s2, f2, b2, n2] 26)
  have hq1 := (Blk.new w 26 #[.int .i64 s1, f1, b1, n1]).alloc (.cells #[.int .i64 s2, f2, b2, n2] 26)
  have hq2 := Blk.new (w.alloc (.cells #[.int .i64 s1, f1, b1, n1] 26)) 26 #[.int .i64 s2, f2, b2, n2]
  have hz : (w.alloc (.cells #[.int .i64 s1, f1, b1, n1] 26)).heap.size = w.heap.size + 1 := by simp
  rw [hz] at hq2
  have hz2 : ((w.alloc (.cells #[.int .i64 s1, f1, b1, n1] 26)).alloc (.cells #[.int .i64 s2, f2, b2, n2] 26)).heap.size = w.heap.size + 2 := by simp
  have H := Lib.hid (And.intro hf1 (And.intro hf2 (And.intro hb1 (And.intro hb2 (And.intro hn1 hn2)))))
  have HS := Lib.hid (And.intro hs1 (And.intro hs2 (And.intro hD hE)))
  have HW := Lib.hid (And.intro hw1 (And.intro hq1 hq2))
  clear hf1 hf2 hb1 hb2 hn1 hn2 hs1 hs2 hD hE hw0 hw1 hq2 hz
  go_enter Tryz.func14, Tryz.ntmps14
  obtain ⟨x0, x1, x2, x3⟩ := HW.out.2.1.c4.1
  obtain ⟨y0, y1, y2, y3⟩ := HW.out.2.2.c4.1
  clear hq1
  by_cases e0 : s1 = s2
  case neg =>
    have e0' : (s1 == s2) = false := by simp [e0]
    have E0 := Lib.hid e0
    clear e0
    go_wp2_with fail
    go_ret
    refine ⟨ret_bool ?_, HW.out.1⟩
    rw [eqD, HS.out.1, HS.out.2.1, decide_eq_false E0.out]; rfl
  subst e0
  have e0' : (s1 == s1) = true := by simp
  have hc1 := samebools_any f1 f2 D.fin E.fin _ (BoolsL.below H.out.1 HW.out.1) (BoolsL.below H.out.2.1 HW.out.1) HS.out.2.2.1.fin HS.out.2.2.2.fin
  go_wp2_with fail
  refine hc1.mono ?_
  rintro e w3 ⟨rfl, b3⟩
  clear hc1
  rw [hz2] at b3
  have hz3 := b3.size
  rw [hz2] at hz3
  have HW3 := Lib.hid (And.intro (HW.out.1.trans (b3.mono (by omega))) (And.intro (HW.out.2.1.below b3 (by omega)) (HW.out.2.2.below b3 (by omega))))
  clear b3 HW x0 x1 x2 x3 y0 y1 y2 y3 hz2
  obtain ⟨x0, x1, x2, x3⟩ := HW3.out.2.1.c4.1
  obtain ⟨y0, y1, y2, y3⟩ := HW3.out.2.2.c4.1
  by_cases e1 : D.fin = E.fin
  case neg =>
    have e1' : decide (D.fin = E.fin) = false := decide_eq_false e1
    have E1 := Lib.hid e1
    simp only [e1']
    clear e1 e1'
    go_wp2_with fail
    go_ret
    refine ⟨ret_bool ?_, HW3.out.1⟩
    rw [eqD, HS.out.1, HS.out.2.1, decide_eq_false E1.out]; simp
  have e1' : decide (D.fin = E.fin) = true := decide_eq_true e1
  have E1 := Lib.hid e1
  simp only [e1']
  clear e1 e1'
  have hc1 := sameints_any b1 b2 D.block E.block _ (H.out.2.2.1.below HW3.out.1) (H.out.2.2.2.1.below HW3.out.1) HS.out.2.2.1.block.1 HS.out.2.2.2.block.1
  go_wp2_with fail
  refine hc1.mono ?_
  rintro e w4 ⟨rfl, b4⟩
  clear hc1
  have hz4 := b4.size
  have HW4 := Lib.hid (And.intro (HW3.out.1.trans (b4.mono (by omega))) (And.intro (HW3.out.2.1.below b4 (by omega)) (HW3.out.2.2.below b4 (by omega))))
  clear b4 HW3 x0 x1 x2 x3 y0 y1 y2 y3
  obtain ⟨x0, x1, x2, x3⟩ := HW4.out.2.1.c4.1
  obtain ⟨y0, y1, y2, y3⟩ := HW4.out.2.2.c4.1
  by_cases e2 : D.block = E.block
  case neg =>
    have e2' : decide (D.block = E.block) = false := decide_eq_false e2
    have E2 := Lib.hid e2
    simp only [e2']
    clear e2 e2'
    go_wp2_with fail
    go_ret
    refine ⟨ret_bool ?_, HW4.out.1⟩
    rw [eqD, HS.out.1, HS.out.2.1, decide_eq_false E2.out]; simp
  have e2' : decide (D.block = E.block) = true := decide_eq_true e2
  have E2 := Lib.hid e2
  simp only [e2']
  clear e2 e2'
  have hc1 := samerows_any n1 n2 D.next E.next _ (H.out.2.2.2.2.1.below HW4.out.1) (H.out.2.2.2.2.2.below HW4.out.1) HS.out.2.2.1.many HS.out.2.2.2.many (fun r hr => (HS.out.2.2.1.rows r hr).1) (fun r hr => (HS.out.2.2.2.rows r hr).1)
  go_wp2_with fail
  refine hc1.mono ?_
  rintro e w5 ⟨rfl, b5⟩
  clear hc1
  have HW5 := Lib.hid (HW4.out.1.trans (b5.mono (by omega)))
  clear b5 x0 x1 x2 x3 y0 y1 y2 y3
  have hfin : eqD D E = decide (D.next = E.next) := by
    rw [eqD, HS.out.1, HS.out.2.1, decide_eq_true E1.out, decide_eq_true E2.out]; simp
  have HF := Lib.hid hfin
  clear hfin
  obtain ⟨q, hq⟩ : ∃ q, decide (D.next = E.next) = q := ⟨_, rfl⟩
  have HQ := Lib.hid hq
  simp only [hq]
  clear hq
  go_wp2_with fail
  go_ret
  exact ⟨ret_bool (by rw [HF.out, HQ.out]), HW5.out⟩
end Go.Proofs.YtpcoijjcjamgiaaGreatDoor
