/-
  The contracts of Take and New of package bucket, and of the reference's Take. Conditions: none but what each says.
-/
import Derived.Test.YtikpbhfjmlfooaaBucketRef
import Derived.Deep.DeepCutAuto
import Derived.Deep.CutBlock
namespace Go.Proofs.Ytikpbhfjmlfooaa
set_option linter.unusedVariables false
open Go.RowKit Go.Sort

theorem at_lit (c f y t now Y T : Int) (w : World) (hY : atH c f y t now = Y) (hT : atT c f y t now = T) :
    Calls Try.prog 17 #[.agg #[.int .i64 c, .int .i64 f, .int .i64 y, .int .i64 t], .int .i64 now] w fun e w' =>
      e = .returned (.agg #[.int .i64 c, .int .i64 f, .int .i64 Y, .int .i64 T]) ∧ Below w.heap.size w w' := by
  subst hY hT; exact at_any c f y t now w
theorem refat_lit (c f y t now Y T : Int) (w : World) (hY : atH c f y t now = Y) (hT : atT c f y t now = T) :
    Calls Try.prog 18 #[.agg #[.int .i64 c, .int .i64 f, .int .i64 y, .int .i64 t], .int .i64 now] w fun e w' =>
      e = .returned (.agg #[.int .i64 c, .int .i64 f, .int .i64 Y, .int .i64 T]) ∧ Below w.heap.size w w' := by
  subst hY hT; exact refat_any c f y t now w

/-- a struct of four numbers is stored over another one -/
theorem set4 {w : World} {g : Nat} {o0 o1 o2 o3 : Value} (a b c d : Value) (h : ∀ i, w.cell? ⟨g, i, none⟩ = (#[o0, o1, o2, o3] : Array Value)[i]?) :
    ∃ w', (((w.setCell ⟨g, 0, none⟩ a).setCell ⟨g, 1, none⟩ b).setCell ⟨g, 2, none⟩ c).setCell ⟨g, 3, none⟩ d = w' ∧ w'.heap.size = w.heap.size ∧
      (w'.cell? ⟨g, 0, none⟩ = some a ∧ w'.cell? ⟨g, 1, none⟩ = some b ∧ w'.cell? ⟨g, 2, none⟩ = some c ∧ w'.cell? ⟨g, 3, none⟩ = some d) ∧
      (∀ i, w'.frozen? ⟨g, i, none⟩ = w.frozen? ⟨g, i, none⟩) ∧ (∀ k i, k ≠ g → w'.cell? ⟨k, i, none⟩ = w.cell? ⟨k, i, none⟩) ∧ (∀ k i, w'.frozen? ⟨k, i, none⟩ = w.frozen? ⟨k, i, none⟩) ∧
      ∀ B v, B ≤ g → Below B v w → Below B v w' := by
  have c0 : w.cell? ⟨g, 0, none⟩ = some o0 := by rw [h]; rfl
  have c1 : w.cell? ⟨g, 1, none⟩ = some o1 := by rw [h]; rfl
  have c2 : w.cell? ⟨g, 2, none⟩ = some o2 := by rw [h]; rfl
  have c3 : w.cell? ⟨g, 3, none⟩ = some o3 := by rw [h]; rfl
  refine ⟨_, rfl, by simp, ⟨?_, ?_, ?_, ?_⟩, fun i => by simp [World.frozen?_setCell], fun k i hk => ?_, fun k i => by simp [World.frozen?_setCell], fun B v hB hb => ?_⟩
  · rw [World.cell?_setCell_other _ _ _ _ (by simp), World.cell?_setCell_other _ _ _ _ (by simp), World.cell?_setCell_other _ _ _ _ (by simp), World.cell?_setCell_same _ _ _ c0]
  · rw [World.cell?_setCell_other _ _ _ _ (by simp), World.cell?_setCell_other _ _ _ _ (by simp), World.cell?_setCell_same _ _ _ ((World.cell?_setCell_other _ _ _ _ (by simp)).trans c1)]
  · rw [World.cell?_setCell_other _ _ _ _ (by simp), World.cell?_setCell_same _ _ _ ((World.cell?_setCell_other _ _ _ _ (by simp)).trans ((World.cell?_setCell_other _ _ _ _ (by simp)).trans c2))]
  · rw [World.cell?_setCell_same _ _ _ ((World.cell?_setCell_other _ _ _ _ (by simp)).trans ((World.cell?_setCell_other _ _ _ _ (by simp)).trans ((World.cell?_setCell_other _ _ _ _ (by simp)).trans c3)))]
  · rw [World.cell?_setCell_other _ _ _ _ (by simp), World.cell?_setCell_other _ _ _ _ (by simp), World.cell?_setCell_other _ _ _ _ (by simp), World.cell?_setCell_other _ _ _ _ (by simp)]
  · exact (((hb.setCell hB _).setCell hB _).setCell hB _).setCell hB _

/-- what Take answers -/
def tv (c f y t now : Int) : Value := .tuple #[.agg #[.int .i64 c, .int .i64 f, .int .i64 (takeH c f y t now), .int .i64 (takeT c f y t now)], .bool (takeOk c f y t now)]

theorem tv_stop {c f y t now : Int} (hr : rightB c f y t = false) : tv c f y t now = .tuple #[.agg #[.int .i64 c, .int .i64 f, .int .i64 y, .int .i64 t], .bool false] := by
  simp [tv, takeH, takeT, takeOk, hr]
theorem tv_none {c f y t now : Int} (hr : rightB c f y t = true) (h0 : atH c f y t now = 0) : tv c f y t now = .tuple #[.agg #[.int .i64 c, .int .i64 f, .int .i64 (atH c f y t now), .int .i64 (atT c f y t now)], .bool false] := by
  simp [tv, takeH, takeT, takeOk, hr, h0]
theorem tv_ok {c f y t now : Int} (hr : rightB c f y t = true) (h0 : atH c f y t now ≠ 0) : tv c f y t now = .tuple #[.agg #[.int .i64 c, .int .i64 f, .int .i64 (atH c f y t now - 1), .int .i64 (atT c f y t now)], .bool true] := by
  simp [tv, takeH, takeT, takeOk, hr, h0]

set_option maxHeartbeats 1000000 in
set_option maxRecDepth 100000 in
theorem take_any (c f y t now : Int) (w : World) :
    Calls Try.prog 12 #[.agg #[.int .i64 c, .int .i64 f, .int .i64 y, .int .i64 t], .int .i64 now] w fun e w' =>
      e = .returned (tv c f y t now) ∧ Below w.heap.size w w' := by
  by_cases hr : rightB c f y t = true
  · have HR := Lib.hid hr
    have ha := at_right (now := now) hr
    obtain ⟨⟨r1, r2⟩, ⟨r3, r4⟩, ⟨r5, r6⟩, ⟨r7, r8⟩⟩ := rightB_true.1 ha
    obtain ⟨Y, hY⟩ : ∃ Y, atH c f y t now = Y := ⟨_, rfl⟩
    obtain ⟨T, hT⟩ : ∃ T, atT c f y t now = T := ⟨_, rfl⟩
    rw [hY] at r5 r6
    rw [hT] at r7 r8
    have EY := Lib.hid hY
    have ET := Lib.hid hT
    by_cases h0 : Y = 0
    · have OUT := Lib.hid (tv_none hr (hY.trans h0))
      have h0' : (Y == 0) = true := by simp [h0]
      rw [hY, hT] at OUT
      clear hr ha hY hT
      have H0 := Lib.hid h0
      clear h0
      go_enter Try.func12, Try.ntmps12
      go_wp2_with fail
      refine (right_lit _ _ _ _ _ _ HR.out).mono ?_
      rintro e w1 ⟨rfl, b1⟩
      obtain ⟨k1, k2⟩ := bcell b1
      have hz : w.heap.size + 1 < w1.heap.size := by have := b1.size; simp at this; omega
      have c0 : w1.cell? ⟨w.heap.size, 0, none⟩ = some (.int .i64 c) := by rw [k1 _ _ (by simp; omega)]; go_simp
      have c1 : w1.cell? ⟨w.heap.size, 1, none⟩ = some (.int .i64 f) := by rw [k1 _ _ (by simp; omega)]; go_simp
      have c2 : w1.cell? ⟨w.heap.size, 2, none⟩ = some (.int .i64 y) := by rw [k1 _ _ (by simp; omega)]; go_simp
      have c3 : w1.cell? ⟨w.heap.size, 3, none⟩ = some (.int .i64 t) := by rw [k1 _ _ (by simp; omega)]; go_simp
      go_wp2_with fail
      refine (at_lit _ _ _ _ _ _ _ _ EY.out ET.out).mono ?_
      rintro e w2 ⟨rfl, b2⟩
      have f0 : ∀ i, w2.cell? ⟨w.heap.size, i, none⟩ = (#[Value.int .i64 c, .int .i64 f, .int .i64 y, .int .i64 t] : Array Value)[i]? := fun i => by
        rw [b2.cell (p := ⟨w.heap.size, i, none⟩) (by show w.heap.size < _; omega), k1 _ _ (by simp; omega)]; go_simp
      have f1 : ∀ i, w2.frozen? ⟨w.heap.size, i, none⟩ = false := fun i => by
        rw [b2.frozen (p := ⟨w.heap.size, i, none⟩) (by show w.heap.size < _; omega), k2 _ _ (by simp; omega)]; go_simp
      have f2 : ∀ i, w2.cell? ⟨w.heap.size + 1, i, none⟩ = (#[Value.int .i64 0, .int .i64 0, .int .i64 0, .int .i64 0] : Array Value)[i]? := fun i => by
        rw [b2.cell (p := ⟨w.heap.size + 1, i, none⟩) (by show w.heap.size + 1 < _; omega), k1 _ _ (by simp)]; go_simp
      have f3 : ∀ i, w2.frozen? ⟨w.heap.size + 1, i, none⟩ = false := fun i => by
        rw [b2.frozen (p := ⟨w.heap.size + 1, i, none⟩) (by show w.heap.size + 1 < _; omega), k2 _ _ (by simp)]; go_simp
      have hz2 : w.heap.size + 1 < w2.heap.size := by have := b2.size; omega
      have b3 : Below w.heap.size w w2 := (below_on (below2 _ _ _) b1).trans (b2.mono (by omega))
      clear k1 k2 c0 c1 c2 c3 b1 b2 hz
      go_upto_region 4 with (fail)
      obtain ⟨w3, hw3, s0, ⟨s1, s2, s3, s4⟩, s5, s6, s7, s8⟩ := set4 (.int .i64 c) (.int .i64 f) (.int .i64 Y) (.int .i64 T) f0
      rw [hw3]
      have HW := Lib.hid hw3
      have b4 := s8 _ _ (Nat.le_refl _) b3
      have g0 : ∀ i, w3.cell? ⟨w.heap.size + 1, i, none⟩ = (#[Value.int .i64 0, .int .i64 0, .int .i64 0, .int .i64 0] : Array Value)[i]? := fun i => by rw [s6 _ _ (by omega)]; exact f2 i
      have g1 : ∀ i, w3.frozen? ⟨w.heap.size + 1, i, none⟩ = false := fun i => by rw [s7]; exact f3 i
      have g2 : ∀ i, w3.frozen? ⟨w.heap.size, i, none⟩ = false := fun i => by rw [s7]; exact f1 i
      have hz3 : w.heap.size + 1 < w3.heap.size := by omega
      clear hw3 s0 s5 s6 s7 s8 f0 f1 f2 f3 hz2 b3
      go_wp2_with fail
      refine bodyPost_ret (v := .tuple #[.agg #[.int .i64 c, .int .i64 f, .int .i64 (Y), .int .i64 T], .bool false]) (by simp [results, Try.results12, go_sem, g0]) rfl ⟨congrArg Ending.returned OUT.out.symm, ?_⟩
      repeat (refine Below.setCell ?_ (by simp) _)
      exact b4
    · have OUT := Lib.hid (tv_ok hr (by rw [hY]; exact h0))
      have h0' : (Y == 0) = false := by simp [h0]
      rw [hY, hT] at OUT
      clear hr ha hY hT h0
      go_enter Try.func12, Try.ntmps12
      go_wp2_with fail
      refine (right_lit _ _ _ _ _ _ HR.out).mono ?_
      rintro e w1 ⟨rfl, b1⟩
      obtain ⟨k1, k2⟩ := bcell b1
      have hz : w.heap.size + 1 < w1.heap.size := by have := b1.size; simp at this; omega
      have c0 : w1.cell? ⟨w.heap.size, 0, none⟩ = some (.int .i64 c) := by rw [k1 _ _ (by simp; omega)]; go_simp
      have c1 : w1.cell? ⟨w.heap.size, 1, none⟩ = some (.int .i64 f) := by rw [k1 _ _ (by simp; omega)]; go_simp
      have c2 : w1.cell? ⟨w.heap.size, 2, none⟩ = some (.int .i64 y) := by rw [k1 _ _ (by simp; omega)]; go_simp
      have c3 : w1.cell? ⟨w.heap.size, 3, none⟩ = some (.int .i64 t) := by rw [k1 _ _ (by simp; omega)]; go_simp
      go_wp2_with fail
      refine (at_lit _ _ _ _ _ _ _ _ EY.out ET.out).mono ?_
      rintro e w2 ⟨rfl, b2⟩
      have f0 : ∀ i, w2.cell? ⟨w.heap.size, i, none⟩ = (#[Value.int .i64 c, .int .i64 f, .int .i64 y, .int .i64 t] : Array Value)[i]? := fun i => by
        rw [b2.cell (p := ⟨w.heap.size, i, none⟩) (by show w.heap.size < _; omega), k1 _ _ (by simp; omega)]; go_simp
      have f1 : ∀ i, w2.frozen? ⟨w.heap.size, i, none⟩ = false := fun i => by
        rw [b2.frozen (p := ⟨w.heap.size, i, none⟩) (by show w.heap.size < _; omega), k2 _ _ (by simp; omega)]; go_simp
      have f2 : ∀ i, w2.cell? ⟨w.heap.size + 1, i, none⟩ = (#[Value.int .i64 0, .int .i64 0, .int .i64 0, .int .i64 0] : Array Value)[i]? := fun i => by
        rw [b2.cell (p := ⟨w.heap.size + 1, i, none⟩) (by show w.heap.size + 1 < _; omega), k1 _ _ (by simp)]; go_simp
      have f3 : ∀ i, w2.frozen? ⟨w.heap.size + 1, i, none⟩ = false := fun i => by
        rw [b2.frozen (p := ⟨w.heap.size + 1, i, none⟩) (by show w.heap.size + 1 < _; omega), k2 _ _ (by simp)]; go_simp
      have hz2 : w.heap.size + 1 < w2.heap.size := by have := b2.size; omega
      have b3 : Below w.heap.size w w2 := (below_on (below2 _ _ _) b1).trans (b2.mono (by omega))
      clear k1 k2 c0 c1 c2 c3 b1 b2 hz
      go_upto_region 4 with (fail)
      obtain ⟨w3, hw3, s0, ⟨s1, s2, s3, s4⟩, s5, s6, s7, s8⟩ := set4 (.int .i64 c) (.int .i64 f) (.int .i64 Y) (.int .i64 T) f0
      rw [hw3]
      have HW := Lib.hid hw3
      have b4 := s8 _ _ (Nat.le_refl _) b3
      have g0 : ∀ i, w3.cell? ⟨w.heap.size + 1, i, none⟩ = (#[Value.int .i64 0, .int .i64 0, .int .i64 0, .int .i64 0] : Array Value)[i]? := fun i => by rw [s6 _ _ (by omega)]; exact f2 i
      have g1 : ∀ i, w3.frozen? ⟨w.heap.size + 1, i, none⟩ = false := fun i => by rw [s7]; exact f3 i
      have g2 : ∀ i, w3.frozen? ⟨w.heap.size, i, none⟩ = false := fun i => by rw [s7]; exact f1 i
      have hz3 : w.heap.size + 1 < w3.heap.size := by omega
      clear hw3 s0 s5 s6 s7 s8 f0 f1 f2 f3 hz2 b3
      go_wp2_with fail
      refine bodyPost_ret (v := .tuple #[.agg #[.int .i64 c, .int .i64 f, .int .i64 (Y - 1), .int .i64 T], .bool true]) (by simp [results, Try.results12, go_sem, g0]) rfl ⟨congrArg Ending.returned OUT.out.symm, ?_⟩
      repeat (refine Below.setCell ?_ (by simp) _)
      exact b4
  · have hr' : rightB c f y t = false := by simpa using hr
    have HR := Lib.hid hr'
    have OUT := Lib.hid (tv_stop (now := now) hr')
    clear hr hr'
    go_enter Try.func12, Try.ntmps12
    go_wp2_with fail
    refine (right_lit _ _ _ _ _ _ HR.out).mono ?_
    rintro e w1 ⟨rfl, b1⟩
    obtain ⟨k1, k2⟩ := bcell b1
    have hz : w.heap.size + 1 < w1.heap.size := by have := b1.size; simp at this; omega
    go_wp2_with fail
    refine bodyPost_ret (v := .tuple #[.agg #[.int .i64 c, .int .i64 f, .int .i64 y, .int .i64 t], .bool false]) (by simp [results, Try.results12, go_sem, k1]) rfl ⟨congrArg Ending.returned OUT.out.symm, ?_⟩
    repeat (refine Below.setCell ?_ (by simp) _)
    exact below_on (below2 _ _ _) b1

set_option maxHeartbeats 1000000 in
set_option maxRecDepth 100000 in
theorem reftake_any (c f y t now : Int) (w : World) :
    Calls Try.prog 13 #[.agg #[.int .i64 c, .int .i64 f, .int .i64 y, .int .i64 t], .int .i64 now] w fun e w' =>
      e = .returned (tv c f y t now) ∧ Below w.heap.size w w' := by
  by_cases hr : rightB c f y t = true
  · have HR := Lib.hid hr
    have ha := at_right (now := now) hr
    obtain ⟨⟨r1, r2⟩, ⟨r3, r4⟩, ⟨r5, r6⟩, ⟨r7, r8⟩⟩ := rightB_true.1 ha
    obtain ⟨Y, hY⟩ : ∃ Y, atH c f y t now = Y := ⟨_, rfl⟩
    obtain ⟨T, hT⟩ : ∃ T, atT c f y t now = T := ⟨_, rfl⟩
    rw [hY] at r5 r6
    rw [hT] at r7 r8
    have EY := Lib.hid hY
    have ET := Lib.hid hT
    by_cases h0 : Y = 0
    · have OUT := Lib.hid (tv_none hr (hY.trans h0))
      have h0' : (Y == 0) = true := by simp [h0]
      rw [hY, hT] at OUT
      clear hr ha hY hT
      have H0 := Lib.hid h0
      clear h0
      go_enter Try.func13, Try.ntmps13
      go_wp2_with fail
      refine (refright_lit _ _ _ _ _ _ HR.out).mono ?_
      rintro e w1 ⟨rfl, b1⟩
      obtain ⟨k1, k2⟩ := bcell b1
      have hz : w.heap.size + 1 < w1.heap.size := by have := b1.size; simp at this; omega
      have c0 : w1.cell? ⟨w.heap.size, 0, none⟩ = some (.int .i64 c) := by rw [k1 _ _ (by simp; omega)]; go_simp
      have c1 : w1.cell? ⟨w.heap.size, 1, none⟩ = some (.int .i64 f) := by rw [k1 _ _ (by simp; omega)]; go_simp
      have c2 : w1.cell? ⟨w.heap.size, 2, none⟩ = some (.int .i64 y) := by rw [k1 _ _ (by simp; omega)]; go_simp
      have c3 : w1.cell? ⟨w.heap.size, 3, none⟩ = some (.int .i64 t) := by rw [k1 _ _ (by simp; omega)]; go_simp
      go_wp2_with fail
      refine (refat_lit _ _ _ _ _ _ _ _ EY.out ET.out).mono ?_
      rintro e w2 ⟨rfl, b2⟩
      have f0 : ∀ i, w2.cell? ⟨w.heap.size, i, none⟩ = (#[Value.int .i64 c, .int .i64 f, .int .i64 y, .int .i64 t] : Array Value)[i]? := fun i => by
        rw [b2.cell (p := ⟨w.heap.size, i, none⟩) (by show w.heap.size < _; omega), k1 _ _ (by simp; omega)]; go_simp
      have f1 : ∀ i, w2.frozen? ⟨w.heap.size, i, none⟩ = false := fun i => by
        rw [b2.frozen (p := ⟨w.heap.size, i, none⟩) (by show w.heap.size < _; omega), k2 _ _ (by simp; omega)]; go_simp
      have f2 : ∀ i, w2.cell? ⟨w.heap.size + 1, i, none⟩ = (#[Value.int .i64 0, .int .i64 0, .int .i64 0, .int .i64 0] : Array Value)[i]? := fun i => by
        rw [b2.cell (p := ⟨w.heap.size + 1, i, none⟩) (by show w.heap.size + 1 < _; omega), k1 _ _ (by simp)]; go_simp
      have f3 : ∀ i, w2.frozen? ⟨w.heap.size + 1, i, none⟩ = false := fun i => by
        rw [b2.frozen (p := ⟨w.heap.size + 1, i, none⟩) (by show w.heap.size + 1 < _; omega), k2 _ _ (by simp)]; go_simp
      have hz2 : w.heap.size + 1 < w2.heap.size := by have := b2.size; omega
      have b3 : Below w.heap.size w w2 := (below_on (below2 _ _ _) b1).trans (b2.mono (by omega))
      clear k1 k2 c0 c1 c2 c3 b1 b2 hz
      go_upto_region 4 with (fail)
      obtain ⟨w3, hw3, s0, ⟨s1, s2, s3, s4⟩, s5, s6, s7, s8⟩ := set4 (.int .i64 c) (.int .i64 f) (.int .i64 Y) (.int .i64 T) f0
      rw [hw3]
      have HW := Lib.hid hw3
      have b4 := s8 _ _ (Nat.le_refl _) b3
      have g0 : ∀ i, w3.cell? ⟨w.heap.size + 1, i, none⟩ = (#[Value.int .i64 0, .int .i64 0, .int .i64 0, .int .i64 0] : Array Value)[i]? := fun i => by rw [s6 _ _ (by omega)]; exact f2 i
      have g1 : ∀ i, w3.frozen? ⟨w.heap.size + 1, i, none⟩ = false := fun i => by rw [s7]; exact f3 i
      have g2 : ∀ i, w3.frozen? ⟨w.heap.size, i, none⟩ = false := fun i => by rw [s7]; exact f1 i
      have hz3 : w.heap.size + 1 < w3.heap.size := by omega
      clear hw3 s0 s5 s6 s7 s8 f0 f1 f2 f3 hz2 b3
      go_wp2_with fail
      refine bodyPost_ret (v := .tuple #[.agg #[.int .i64 c, .int .i64 f, .int .i64 (Y), .int .i64 T], .bool false]) (by simp [results, Try.results13, go_sem, g0]) rfl ⟨congrArg Ending.returned OUT.out.symm, ?_⟩
      repeat (refine Below.setCell ?_ (by simp) _)
      exact b4
    · have OUT := Lib.hid (tv_ok hr (by rw [hY]; exact h0))
      have h0' : (Y == 0) = false := by simp [h0]
      rw [hY, hT] at OUT
      clear hr ha hY hT h0
      go_enter Try.func13, Try.ntmps13
      go_wp2_with fail
      refine (refright_lit _ _ _ _ _ _ HR.out).mono ?_
      rintro e w1 ⟨rfl, b1⟩
      obtain ⟨k1, k2⟩ := bcell b1
      have hz : w.heap.size + 1 < w1.heap.size := by have := b1.size; simp at this; omega
      have c0 : w1.cell? ⟨w.heap.size, 0, none⟩ = some (.int .i64 c) := by rw [k1 _ _ (by simp; omega)]; go_simp
      have c1 : w1.cell? ⟨w.heap.size, 1, none⟩ = some (.int .i64 f) := by rw [k1 _ _ (by simp; omega)]; go_simp
      have c2 : w1.cell? ⟨w.heap.size, 2, none⟩ = some (.int .i64 y) := by rw [k1 _ _ (by simp; omega)]; go_simp
      have c3 : w1.cell? ⟨w.heap.size, 3, none⟩ = some (.int .i64 t) := by rw [k1 _ _ (by simp; omega)]; go_simp
      go_wp2_with fail
      refine (refat_lit _ _ _ _ _ _ _ _ EY.out ET.out).mono ?_
      rintro e w2 ⟨rfl, b2⟩
      have f0 : ∀ i, w2.cell? ⟨w.heap.size, i, none⟩ = (#[Value.int .i64 c, .int .i64 f, .int .i64 y, .int .i64 t] : Array Value)[i]? := fun i => by
        rw [b2.cell (p := ⟨w.heap.size, i, none⟩) (by show w.heap.size < _; omega), k1 _ _ (by simp; omega)]; go_simp
      have f1 : ∀ i, w2.frozen? ⟨w.heap.size, i, none⟩ = false := fun i => by
        rw [b2.frozen (p := ⟨w.heap.size, i, none⟩) (by show w.heap.size < _; omega), k2 _ _ (by simp; omega)]; go_simp
      have f2 : ∀ i, w2.cell? ⟨w.heap.size + 1, i, none⟩ = (#[Value.int .i64 0, .int .i64 0, .int .i64 0, .int .i64 0] : Array Value)[i]? := fun i => by
        rw [b2.cell (p := ⟨w.heap.size + 1, i, none⟩) (by show w.heap.size + 1 < _; omega), k1 _ _ (by simp)]; go_simp
      have f3 : ∀ i, w2.frozen? ⟨w.heap.size + 1, i, none⟩ = false := fun i => by
        rw [b2.frozen (p := ⟨w.heap.size + 1, i, none⟩) (by show w.heap.size + 1 < _; omega), k2 _ _ (by simp)]; go_simp
      have hz2 : w.heap.size + 1 < w2.heap.size := by have := b2.size; omega
      have b3 : Below w.heap.size w w2 := (below_on (below2 _ _ _) b1).trans (b2.mono (by omega))
      clear k1 k2 c0 c1 c2 c3 b1 b2 hz
      go_upto_region 4 with (fail)
      obtain ⟨w3, hw3, s0, ⟨s1, s2, s3, s4⟩, s5, s6, s7, s8⟩ := set4 (.int .i64 c) (.int .i64 f) (.int .i64 Y) (.int .i64 T) f0
      rw [hw3]
      have HW := Lib.hid hw3
      have b4 := s8 _ _ (Nat.le_refl _) b3
      have g0 : ∀ i, w3.cell? ⟨w.heap.size + 1, i, none⟩ = (#[Value.int .i64 0, .int .i64 0, .int .i64 0, .int .i64 0] : Array Value)[i]? := fun i => by rw [s6 _ _ (by omega)]; exact f2 i
      have g1 : ∀ i, w3.frozen? ⟨w.heap.size + 1, i, none⟩ = false := fun i => by rw [s7]; exact f3 i
      have g2 : ∀ i, w3.frozen? ⟨w.heap.size, i, none⟩ = false := fun i => by rw [s7]; exact f1 i
      have hz3 : w.heap.size + 1 < w3.heap.size := by omega
      clear hw3 s0 s5 s6 s7 s8 f0 f1 f2 f3 hz2 b3
      go_wp2_with fail
      refine bodyPost_ret (v := .tuple #[.agg #[.int .i64 c, .int .i64 f, .int .i64 (Y - 1), .int .i64 T], .bool true]) (by simp [results, Try.results13, go_sem, g0]) rfl ⟨congrArg Ending.returned OUT.out.symm, ?_⟩
      repeat (refine Below.setCell ?_ (by simp) _)
      exact b4
  · have hr' : rightB c f y t = false := by simpa using hr
    have HR := Lib.hid hr'
    have OUT := Lib.hid (tv_stop (now := now) hr')
    clear hr hr'
    go_enter Try.func13, Try.ntmps13
    go_wp2_with fail
    refine (refright_lit _ _ _ _ _ _ HR.out).mono ?_
    rintro e w1 ⟨rfl, b1⟩
    obtain ⟨k1, k2⟩ := bcell b1
    have hz : w.heap.size + 1 < w1.heap.size := by have := b1.size; simp at this; omega
    go_wp2_with fail
    refine bodyPost_ret (v := .tuple #[.agg #[.int .i64 c, .int .i64 f, .int .i64 y, .int .i64 t], .bool false]) (by simp [results, Try.results13, go_sem, k1]) rfl ⟨congrArg Ending.returned OUT.out.symm, ?_⟩
    repeat (refine Below.setCell ?_ (by simp) _)
    exact below_on (below2 _ _ _) b1
end Go.Proofs.Ytikpbhfjmlfooaa
