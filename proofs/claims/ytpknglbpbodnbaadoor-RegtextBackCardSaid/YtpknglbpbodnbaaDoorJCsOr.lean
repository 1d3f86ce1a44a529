/-
  The contracts of Or, And, Not and Less of package charset. Conditions: the words fit.
-/
import Derived.Test.YtpknglbpbodnbaaDoorRows
import Derived.Test.YtpknglbpbodnbaaDoorJOnes
import Derived.Test.YtpknglbpbodnbaaDoorJKit
import Derived.StillTailTactics
import Derived.Laws.BitsAllLaws
import Derived.Lib.Zigzag
namespace Go.Proofs.YtpknglbpbodnbaaDoor
set_option linter.unusedVariables false
open Go.RowKit Go.Sort Cs

/-- a set's value -/
abbrev setV (s : Nat → Int) : Value := .agg #[.int .u64 (s 0), .int .u64 (s 1), .int .u64 (s 2), .int .u64 (s 3)]
/-- a block of four words -/
structure Four (w : World) (g : Nat) (f : Nat → Int) : Prop where
  cell : ∀ i, i < 4 → w.cell? ⟨g, i, none⟩ = some (.int .u64 (f i))
  free : ∀ i, w.frozen? ⟨g, i, none⟩ = false
theorem Four.new (w : World) (s : Nat → Int) (t : TypeId) : Four (w.alloc (.cells #[.int .u64 (s 0), .int .u64 (s 1), .int .u64 (s 2), .int .u64 (s 3)] t)) w.heap.size s :=
  ⟨fun i hi => by
    rw [newB]
    match i, hi with
    | 0, _ => rfl
    | 1, _ => rfl
    | 2, _ => rfl
    | 3, _ => rfl, newF _ _ _⟩
theorem Four.zero (w : World) (t : TypeId) : Four (w.alloc (.cells #[.int .u64 0, .int .u64 0, .int .u64 0, .int .u64 0] t)) w.heap.size noneS := Four.new w noneS t
theorem Four.old {w : World} {g : Nat} {f : Nat → Int} (h : Four w g f) (o : Obj) (hg : g < w.heap.size) : Four (w.alloc o) g f :=
  ⟨fun i hi => (World.cell?_alloc_past _ _ _ hg).trans (h.cell i hi), fun i => (World.frozen?_alloc_past _ _ _ hg).trans (h.free i)⟩
theorem Four.below {w w' : World} {g : Nat} {f : Nat → Int} (h : Four w g f) (hb : Below w.heap.size w w') (hg : g < w.heap.size) : Four w' g f :=
  ⟨fun i hi => (hb.cell (p := ⟨g, i, none⟩) hg).trans (h.cell i hi), fun i => (hb.frozen (p := ⟨g, i, none⟩) hg).trans (h.free i)⟩
theorem Four.grown {w w' : World} {g : Nat} {f : Nat → Int} {row : Option Nat} (h : Four w g f) (hb : w.grownBy w' row) (hg : g < w.heap.size) (hne : some g ≠ row) : Four w' g f := by
  have e := hb.block g hg hne
  refine ⟨fun i hi => (World.cell?_of_block (a := ⟨g, i, none⟩) e).trans (h.cell i hi), fun i => ?_⟩
  have := h.free i
  unfold World.frozen? at this ⊢
  simp only [e]
  exact this
theorem Four.drew {w : World} {g : Nat} {f : Nat → Int} (h : Four w g f) : Four w.drew g f := ⟨h.cell, h.free⟩
theorem Four.far {w : World} {g g' i : Nat} {f : Nat → Int} (h : Four w g f) (u : Value) (hg : g ≠ g') : Four (w.setCell ⟨g', i, none⟩ u) g f :=
  ⟨fun j hj => (World.cell?_setCell_other w ⟨g', i, none⟩ ⟨g, j, none⟩ u (fun e => by injection e with e1 _; exact hg e1.symm)).trans (h.cell j hj), fun j => by rw [World.frozen?_setCell]; exact h.free j⟩
theorem Four.set {w : World} {g i : Nat} {f : Nat → Int} (h : Four w g f) (v : Int) (hi : i < 4) : Four (w.setCell ⟨g, i, none⟩ (.int .u64 v)) g (fun j => if j = i then v else f j) :=
  ⟨fun j hj => by
    by_cases e : j = i
    · subst e
      rw [World.cell?_setCell_same w ⟨g, j, none⟩ _ (h.cell j hj), if_pos rfl]
    · rw [World.cell?_setCell_other w ⟨g, i, none⟩ ⟨g, j, none⟩ _ (fun e' => by injection e' with _ e2; exact e e2.symm), if_neg e]
      exact h.cell j hj, fun j => by rw [World.frozen?_setCell]; exact h.free j⟩
theorem Four.to {w : World} {g : Nat} {f f' : Nat → Int} (h : Four w g f) (e : ∀ i, i < 4 → f i = f' i) : Four w g f' := ⟨fun i hi => by rw [← e i hi]; exact h.cell i hi, h.free⟩

theorem Four.set4 {w : World} {g : Nat} {f : Nat → Int} (h : Four w g f) (f' : Nat → Int) :
    Four ((((w.setCell ⟨g, 0, none⟩ (.int .u64 (f' 0))).setCell ⟨g, 1, none⟩ (.int .u64 (f' 1))).setCell ⟨g, 2, none⟩ (.int .u64 (f' 2))).setCell ⟨g, 3, none⟩ (.int .u64 (f' 3))) g f' :=
  ((((h.set (f' 0) (i := 0) (by omega)).set (f' 1) (i := 1) (by omega)).set (f' 2) (i := 2) (by omega)).set (f' 3) (i := 3) (by omega)).to fun i hi => by
    obtain rfl | rfl | rfl | rfl : i = 0 ∨ i = 1 ∨ i = 2 ∨ i = 3 := by omega
    · simp
    · simp
    · simp
    · simp
theorem Four.far4 {w : World} {g g' : Nat} {f : Nat → Int} (h : Four w g f) (u0 u1 u2 u3 : Value) (hg : g ≠ g') :
    Four ((((w.setCell ⟨g', 0, none⟩ u0).setCell ⟨g', 1, none⟩ u1).setCell ⟨g', 2, none⟩ u2).setCell ⟨g', 3, none⟩ u3) g f :=
  (((h.far u0 hg).far u1 hg).far u2 hg).far u3 hg
theorem below_set4 {w w' : World} {g B : Nat} (h : Below B w w') (u0 u1 u2 u3 : Value) (hg : B ≤ g) :
    Below B w ((((w'.setCell ⟨g, 0, none⟩ u0).setCell ⟨g, 1, none⟩ u1).setCell ⟨g, 2, none⟩ u2).setCell ⟨g, 3, none⟩ u3) :=
  (((h.setCell (p := ⟨g, 0, none⟩) hg u0).setCell (p := ⟨g, 1, none⟩) hg u1).setCell (p := ⟨g, 2, none⟩) hg u2).setCell (p := ⟨g, 3, none⟩) hg u3
theorem or_u64 {a b : Int} (ha : 0 ≤ a ∧ a < 18446744073709551616) (hb : 0 ≤ b ∧ b < 18446744073709551616) : bits .or .u64 a b = ((a.toNat ||| b.toNat : Nat) : Int) := u64_or a b ha.1 ha.2 hb.1 hb.2
theorem and_u64 {a b : Int} (ha : 0 ≤ a ∧ a < 18446744073709551616) (hb : 0 ≤ b ∧ b < 18446744073709551616) : bits .and .u64 a b = ((a.toNat &&& b.toNat : Nat) : Int) := u64_and a b ha.1 ha.2 hb.1 hb.2

theorem not_u64 {a : Int} (ha : 0 ≤ a ∧ a < 18446744073709551616) : bits .xor .u64 (if IntKind.u64.signed = true then -1 else IntKind.u64.max) a = 18446744073709551615 - a := by
  have e : (if IntKind.u64.signed = true then (-1 : Int) else IntKind.u64.max) = 18446744073709551615 := by decide
  rw [e, u64_xor _ _ (by decide) (by decide) ha.1 ha.2]
  have := Lib.xor_ones64 a.toNat (by omega)
  have e2 : (18446744073709551615 : Int).toNat = 2 ^ 64 - 1 := by decide
  rw [e2, this]
  omega
theorem reg1 {w : World} {g : Nat} {f : Nat → Int} (h : Four w g f) (i : Nat) (hi : i < 4) (hg : g < w.heap.size) : ∀ d os, (Sort.grow (redrawn w d) os).cell? ⟨g, i, none⟩ = some (.int .u64 (f i)) :=
  fun d os => ((below_regrown w d os).cell (p := ⟨g, i, none⟩) hg).trans (h.cell i hi)
theorem setIn_u (s : Nat → Int) (hs : SetIn s) (i : Nat) : 0 ≤ s i ∧ s i < 18446744073709551616 := hs i

set_option maxHeartbeats 1000000 in
set_option maxRecDepth 100000 in
theorem or_any (s t : Nat → Int) (w : World) (hs : SetIn s) (ht : SetIn t) :
    Calls Tryd.prog 28 #[setV s, setV t] w fun e w' => e = .returned (setV (orS s t)) ∧ Below w.heap.size w w' := by
  unfold setV
  go_enter Tryd.func28, Tryd.ntmps28
  go_wp2_with fail
  have f1 := ((Four.new w s 24).old (.cells #[.int .u64 (t 0), .int .u64 (t 1), .int .u64 (t 2), .int .u64 (t 3)] 24) (by simp)).old (.cells #[.int .u64 0, .int .u64 0, .int .u64 0, .int .u64 0] 24) (by simp; omega)
  have f2 := (Four.new (w.alloc (.cells #[.int .u64 (s 0), .int .u64 (s 1), .int .u64 (s 2), .int .u64 (s 3)] 24)) t 24).old (.cells #[.int .u64 0, .int .u64 0, .int .u64 0, .int .u64 0] 24) (by simp)
  have f3 := Four.zero ((w.alloc (.cells #[.int .u64 (s 0), .int .u64 (s 1), .int .u64 (s 2), .int .u64 (s 3)] 24)).alloc (.cells #[.int .u64 (t 0), .int .u64 (t 1), .int .u64 (t 2), .int .u64 (t 3)] 24)) 24
  have b1 : Below w.heap.size w (((w.alloc (.cells #[.int .u64 (s 0), .int .u64 (s 1), .int .u64 (s 2), .int .u64 (s 3)] 24)).alloc (.cells #[.int .u64 (t 0), .int .u64 (t 1), .int .u64 (t 2), .int .u64 (t 3)] 24)).alloc (.cells #[.int .u64 0, .int .u64 0, .int .u64 0, .int .u64 0] 24)) :=
    (((Below.refl _ _).alloc (Nat.le_refl _) _).alloc (by simp) _).alloc (by simp; omega) _
  simp only [World.size_alloc] at f2 f3
  have F1 := Lib.hid f1
  have F2 := Lib.hid f2
  have F3 := Lib.hid f3
  generalize ((w.alloc (.cells #[.int .u64 (s 0), .int .u64 (s 1), .int .u64 (s 2), .int .u64 (s 3)] 24)).alloc (.cells #[.int .u64 (t 0), .int .u64 (t 1), .int .u64 (t 2), .int .u64 (t 3)] 24)).alloc (.cells #[.int .u64 0, .int .u64 0, .int .u64 0, .int .u64 0] 24) = w1 at *
  clear f1 f2 f3
  go_loopw [6] (fun c wr => ∃ k : Nat, k ≤ 4 ∧ c = .int .i64 k ∧ Hid (Four wr w.heap.size (fun j => if j < k then orS s t j else s j)) ∧ Hid (Four wr (w.heap.size + 1) t) ∧ Hid (Four wr (w.heap.size + 1 + 1) noneS) ∧ Below w.heap.size w wr) (fun c _ => 4 - (intOf c).toNat)
  case atStart => exact ⟨0, by omega, rfl, Lib.hid (F1.out.to (fun i _ => by simp)), F2, F3, b1⟩
  case round =>
    clear F1 F2 F3 b1
    obtain ⟨k, hk, rfl, G1, G2, G3, hB⟩ := hrel
    by_cases hlt : k < 4
    · have c1 := G1.out.cell k hlt
      have c2 := G2.out.cell k hlt
      rw [if_neg (by omega)] at c1
      have z1 := G1.out.free k
      have hov := or_u64 (hs k) (ht k)
      obtain ⟨v, hv⟩ : ∃ v, orS s t k = v := ⟨_, rfl⟩
      obtain ⟨a, ha⟩ : ∃ a, s k = a := ⟨_, rfl⟩
      obtain ⟨b, hb⟩ : ∃ b, t k = b := ⟨_, rfl⟩
      have hov' : bits .or .u64 (s k) (t k) = v := by rw [hov, ← hv]; rfl
      rw [ha, hb] at hov'
      rw [ha] at c1
      rw [hb] at c2
      have HV := Lib.hid hv
      clear hov hv ha hb
      go_wp2_with fail
      refine wp_region_still_tail 8 (by kernel_rfl) (by kernel_rfl) ?_
      simp only [List.take_succ_cons, List.take_zero, List.drop_succ_cons, List.drop_zero]
      repeat still_step
      refine wpStill_nil ?_
      change wpList _ _ _ _ _ wr.drew
      go_wp2_with fail
      have g1 := G1.out.drew.set v hlt
      have g2 := G2.out.drew.far (g' := w.heap.size) (i := k) (.int .u64 v) (by omega)
      have g3 := G3.out.drew.far (g' := w.heap.size) (i := k) (.int .u64 v) (by omega)
      have hB2 : Below w.heap.size w (wr.drew.setCell ⟨w.heap.size, k, none⟩ (.int .u64 v)) := Below.setCell (Below.drew hB) (Nat.le_refl _) _
      go_roundw
      case rel => exact ⟨k + 1, by omega, by simp, Lib.hid (g1.to fun i hi => by
        by_cases e : i = k
        · subst e; rw [if_pos rfl, if_pos (by omega)]; exact HV.out.symm
        · rw [if_neg e]; by_cases e2 : i < k
          · rw [if_pos e2, if_pos (by omega)]
          · rw [if_neg e2, if_neg (by omega)]), Lib.hid g2, Lib.hid g3, hB2⟩
      case measure => simp [intOf]; omega
    · have e : k = 4 := by omega
      subst e
      have g := G1.out.to (f' := orS s t) (fun i hi => by rw [if_pos hi])
      have c0 := g.cell 0 (by omega)
      have c1 := g.cell 1 (by omega)
      have c2 := g.cell 2 (by omega)
      have c3 := g.cell 3 (by omega)
      have r0 := G3.out.cell 0 (by omega)
      have r1 := G3.out.cell 1 (by omega)
      have r2 := G3.out.cell 2 (by omega)
      have r3 := G3.out.cell 3 (by omega)
      have z := G3.out.free
      clear g
      go_wp2_with fail
      refine bodyPost_ret (v := setV (orS s t)) (by simp [results, Tryd.results28, go_sem, setV, r0, r1, r2, r3]) rfl ⟨rfl, ?_⟩
      repeat (first | exact hB | refine Below.setCell ?_ (by simp <;> omega) _)

set_option maxHeartbeats 1000000 in
set_option maxRecDepth 100000 in
theorem not_any (s : Nat → Int) (w : World) (hs : SetIn s) :
    Calls Tryd.prog 82 #[setV s] w fun e w' => e = .returned (setV (notS s)) ∧ Below w.heap.size w w' := by
  unfold setV
  go_enter Tryd.func82, Tryd.ntmps82
  go_wp2_with fail
  have f1 := (Four.new w s 24).old (.cells #[.int .u64 0, .int .u64 0, .int .u64 0, .int .u64 0] 24) (by simp)
  have f3 := Four.zero (w.alloc (.cells #[.int .u64 (s 0), .int .u64 (s 1), .int .u64 (s 2), .int .u64 (s 3)] 24)) 24
  have b1 : Below w.heap.size w ((w.alloc (.cells #[.int .u64 (s 0), .int .u64 (s 1), .int .u64 (s 2), .int .u64 (s 3)] 24)).alloc (.cells #[.int .u64 0, .int .u64 0, .int .u64 0, .int .u64 0] 24)) :=
    ((Below.refl _ _).alloc (Nat.le_refl _) _).alloc (by simp) _
  simp only [World.size_alloc] at f3
  have F1 := Lib.hid f1
  have F3 := Lib.hid f3
  generalize (w.alloc (.cells #[.int .u64 (s 0), .int .u64 (s 1), .int .u64 (s 2), .int .u64 (s 3)] 24)).alloc (.cells #[.int .u64 0, .int .u64 0, .int .u64 0, .int .u64 0] 24) = w1 at *
  clear f1 f3
  go_loopw [4] (fun c wr => ∃ k : Nat, k ≤ 4 ∧ c = .int .i64 k ∧ Hid (Four wr w.heap.size (fun j => if j < k then notS s j else s j)) ∧ Hid (Four wr (w.heap.size + 1) noneS) ∧ Below w.heap.size w wr) (fun c _ => 4 - (intOf c).toNat)
  case atStart => exact ⟨0, by omega, rfl, Lib.hid (F1.out.to (fun i _ => by simp)), F3, b1⟩
  case round =>
    clear F1 F3 b1
    obtain ⟨k, hk, rfl, G1, G3, hB⟩ := hrel
    by_cases hlt : k < 4
    · have c1 := G1.out.cell k hlt
      rw [if_neg (by omega)] at c1
      have z1 := G1.out.free k
      have hs1 := hs k
      obtain ⟨a, ha⟩ : ∃ a, s k = a := ⟨_, rfl⟩
      rw [ha] at c1 hs1
      obtain ⟨v, hv⟩ : ∃ v, bits .xor .u64 (if IntKind.u64.signed = true then -1 else IntKind.u64.max) a = v := ⟨_, rfl⟩
      have hva : v = notS s k := by rw [← hv]; unfold notS; rw [ha]; exact not_u64 hs1
      have HA := Lib.hid hva
      clear ha hva
      go_wp2_with fail
      clear hv
      have g1 := G1.out.set v hlt
      have g3 := G3.out.far (g' := w.heap.size) (i := k) (.int .u64 v) (by omega)
      have hB2 : Below w.heap.size w (wr.setCell ⟨w.heap.size, k, none⟩ (.int .u64 v)) := Below.setCell hB (Nat.le_refl _) _
      go_roundw
      case rel => exact ⟨k + 1, by omega, by simp, Lib.hid (g1.to fun i hi => by
        by_cases e : i = k
        · subst e; rw [if_pos rfl, if_pos (by omega)]; exact HA.out
        · rw [if_neg e]; by_cases e2 : i < k
          · rw [if_pos e2, if_pos (by omega)]
          · rw [if_neg e2, if_neg (by omega)]), Lib.hid g3, hB2⟩
      case measure => simp [intOf]; omega
    · have e : k = 4 := by omega
      subst e
      have g := G1.out.to (f' := notS s) (fun i hi => by rw [if_pos hi])
      have c0 := g.cell 0 (by omega)
      have c1 := g.cell 1 (by omega)
      have c2 := g.cell 2 (by omega)
      have c3 := g.cell 3 (by omega)
      have r0 := G3.out.cell 0 (by omega)
      have r1 := G3.out.cell 1 (by omega)
      have r2 := G3.out.cell 2 (by omega)
      have r3 := G3.out.cell 3 (by omega)
      have z := G3.out.free
      clear g
      go_wp2_with fail
      refine bodyPost_ret (v := setV (notS s)) (by simp [results, Tryd.results82, go_sem, setV, r0, r1, r2, r3]) rfl ⟨rfl, ?_⟩
      repeat (first | exact hB | refine Below.setCell ?_ (by simp <;> omega) _)

end Go.Proofs.YtpknglbpbodnbaaDoor
