/-
  The walk of New: a new disk. Conditions: the crashes' cells.
-/
import Derived.Test.YtmjhomhganaceaaDkWrite
import Derived.Deep.RegionHeld3
namespace Go.Proofs.Ytmjhomhganaceaa
set_option linter.unusedVariables false
set_option linter.unusedSimpArgs false
open Go.RowKit Go.Maps Go.Sort

/-- crashes that came in -/
structure IsCr (w : World) (B : Nat) (A : Option Addr) (cs : List (Int × Int)) : Prop where
  place : cs = [] ∨ ∃ b off, A = some ⟨b, off, none⟩ ∧ b < B ∧ ∀ j x, cs[j]? = some x → w.cell? ⟨b, off + j * 2, none⟩ = some (.int .i64 x.1) ∧ w.cell? ⟨b, off + (j * 2 + 1), none⟩ = some (.int .i64 x.2)
  ins : ∀ x ∈ cs, (Lit.int .i64 x.1).wf = true ∧ (Lit.int .i64 x.2).wf = true
theorem IsCr.keep {w w' : World} {B : Nat} {A : Option Addr} {cs : List (Int × Int)} (h : IsCr w B A cs) (hk : ∀ b o, b < B → w'.cell? ⟨b, o, none⟩ = w.cell? ⟨b, o, none⟩) : IsCr w' B A cs :=
  ⟨h.place.imp id fun ⟨b, off, e, hb, hc⟩ => ⟨b, off, e, hb, fun j x hj => ⟨(hk _ _ hb).trans (hc j x hj).1, (hk _ _ hb).trans (hc j x hj).2⟩⟩, h.ins⟩

theorem crash_none {H : Type} : CrashMap (H := H) (.map []) (crashAt []) := fun t => ⟨rfl, fun k h => by cases h⟩
theorem crash_same {H : Type} {D : DataW H} {l : List (Int × Int)} {c : Int × Int} (h : CrashMap D (crashAt l)) (hs : (crashAt l c.1).isSome = true) : CrashMap D (crashAt (l ++ [c])) := by
  intro t
  have e : crashAt (l ++ [c]) t = crashAt l t := by
    rw [crashAt_snoc]
    cases hc : crashAt l t with
    | some k => rfl
    | none =>
      simp only
      rw [if_neg]
      rintro rfl
      rw [hc] at hs
      cases hs
  rw [e]
  exact h t
theorem key_ne {t u : Int} (h : t ≠ u) : Lit.int .i64 t ≠ Lit.int .i64 u := fun e => h (by injection e)
theorem crash_new {H : Type} {D : DataW H} {l : List (Int × Int)} {c : Int × Int} (h : CrashMap D (crashAt l)) (hM : IsMap D) (hs : crashAt l c.1 = none) (hk : keyOf Try.prog 3 (.int .i64 c.1) = some (.int .i64 c.1)) :
    CrashMap (D.put (.int .i64 c.1) (.lit (.int .i64 (clampK c.2 : Int)))) (crashAt (l ++ [c])) := by
  intro t
  by_cases e : t = c.1
  · subst e
    rw [crashAt_snoc, hs]
    simp only [if_true]
    refine ⟨has_put_same hM (lawI.key hk) _, fun k hk2 => ?_⟩
    injection hk2 with hk2
    rw [← hk2, atKey_put_same hM (lawI.key hk)]
  · have hne : Lit.int .i64 t ≠ Lit.int .i64 c.1 := key_ne e
    obtain ⟨h1, h2⟩ := h t
    have e2 : crashAt (l ++ [c]) t = crashAt l t := by
      rw [crashAt_snoc]
      cases crashAt l t with
      | some k => rfl
      | none => simp only; rw [if_neg (fun e' => e e'.symm)]
    rw [e2]
    exact ⟨(has_put_other hne _).trans h1, fun k hk2 => (atKey_put_other hne _ _).trans (h2 k hk2)⟩

theorem infoArr : (Try.prog.info? 54).map (fun i => (i.zero, i.size, i.bytes)) = some (some (.agg (Array.replicate 128 (.int .u8 0))), 128, 128) := by kernel_rfl
theorem zero_cells (n : Nat) : madeCells (Value.agg (Array.replicate 128 (.int .u8 0))).cells (n * 128) = (byteCells (noB n)).toArray := by
  have e : (Value.agg (Array.replicate 128 (.int .u8 0))).cells = Array.replicate 128 (Value.int .u8 0) := rfl
  rw [e]
  apply Array.ext
  · simp [madeCells, byteCells, noB]
  · intro i h1 h2
    simp [madeCells, byteCells, noB]
    have : i % 128 < 128 := Nat.mod_lt _ (by omega)
    rw [getElem!_pos _ _ (by simpa using this)]
    simp
theorem make_disk (n : Nat) (w : World) (hn : n ≤ 4096) : (Instr.makeSlice 33 (.int .i64 n) (.int .i64 n)).run Try.prog w = .ok (.slice (some ⟨w.heap.size, 0, none⟩) n n) (w.alloc (.cells (byteCells (noB n)).toArray 54)) := by
  obtain ⟨i0, hi, hz0, hz1, hz2⟩ := info_parts infoArr
  have := run_make w 33 54 i0 _ Try.underlying33 hi hz0 .i64 .i64 n n (by omega) (by omega) (by rw [hz2]; omega) (by omega)
  rw [hz1] at this
  simp only [Int.toNat_natCast] at this
  rw [this, zero_cells]

set_option maxHeartbeats 4000000 in
theorem new_bad (n : Int) (A : Option Addr) (len cap : Nat) (w : World) (hn : n < 1 ∨ 4096 < n) :
    Calls Try.prog 7 #[.int .i64 n, .slice A len cap] w fun e w' => e = .returned (.tuple #[.pointer none, .int .i64 7]) ∧ w' = w := by
  by_cases h1 : n < 1
  · have h1' : decide (n < 1) = true := decide_eq_true h1
    go_enter Try.func7, Try.ntmps7
    go_wp2_with fail
    go_ret2
    exact ⟨rfl, rfl⟩
  · have h1' : decide (n < 1) = false := decide_eq_false h1
    have h2 : 4096 < n := by omega
    have h2' : decide (4096 < n) = true := decide_eq_true h2
    go_enter Try.func7, Try.ntmps7
    go_wp2_with fail
    go_ret2
    exact ⟨rfl, rfl⟩

set_option maxHeartbeats 4000000 in
set_option maxRecDepth 100000 in
theorem new_any (n : Nat) (A : Option Addr) (cap : Nat) (cs : List (Int × Int)) (w : World) (hn1 : 1 ≤ n) (hn : n ≤ 4096) (hl : cs.length ≤ 1000) (hcr : IsCr w w.heap.size A cs) :
    Calls Try.prog 7 #[.int .i64 n, .slice A cs.length cap] w fun e w' =>
      ∃ d g m, e = .returned (.tuple #[.pointer (some ⟨d, 0, none⟩), .int .i64 0]) ∧ w.heap.size ≤ d ∧ w.heap.size ≤ g ∧ w.heap.size ≤ m ∧ DiskAt d g m n (noB n) (crashAt cs) 0 false w' ∧ Below w.heap.size w w' := by
  have hmm := @run_makeMap Try.prog
  have hmk := make_disk n (hn := hn)
  have h1' : decide ((n : Int) < 1) = false := decide_eq_false (by omega)
  have h2' : decide (4096 < (n : Int)) = false := decide_eq_false (by omega)
  have HCR := Lib.hid hcr
  clear hcr
  go_enter Try.func7, Try.ntmps7
  go_wp2_with fail
  have b1 : Below w.heap.size w (w.alloc (.cells (byteCells (noB n)).toArray 54)) := (Below.refl _ _).alloc (Nat.le_refl _) _
  have g1 := Blk.new w 54 (byteCells (noB n)).toArray
  have s1 : (w.alloc (.cells (byteCells (noB n)).toArray 54)).heap.size = w.heap.size + 1 := by simp
  generalize w.alloc (.cells (byteCells (noB n)).toArray 54) = w1 at *
  have m2 := World.ownsMap_made w1 Try.prog 3 (plainElem (H := Unit) Try.prog 3)
  have b2 : Below w.heap.size w (w1.alloc (.map #[] 0)) := b1.alloc (by omega) _
  have g2 := g1.alloc (.map #[] 0)
  have s2 : (w1.alloc (.map #[] 0)).heap.size = w.heap.size + 2 := by simp [s1]
  generalize w1.alloc (.map #[] 0) = w2 at *
  rw [s1] at m2
  have b3 := b2.alloc (o := .cells #[.slice (some ⟨w.heap.size, 0, none⟩) n n, .map (some (w.heap.size + 1)), .int .i64 0, .bool false] 36) (by omega)
  have g3 := g2.alloc (.cells #[.slice (some ⟨w.heap.size, 0, none⟩) n n, .map (some (w.heap.size + 1)), .int .i64 0, .bool false] 36)
  have d3 : Blk (w2.alloc (.cells #[.slice (some ⟨w.heap.size, 0, none⟩) n n, .map (some (w.heap.size + 1)), .int .i64 0, .bool false] 36)) w2.heap.size 36 (diskV w.heap.size n (w.heap.size + 1) 0 false) := Blk.new w2 _ _
  have m3 := m2.alloc (.cells #[.slice (some ⟨w.heap.size, 0, none⟩) n n, .map (some (w.heap.size + 1)), .int .i64 0, .bool false] 36)
  rw [s2] at d3
  have s3 : (w2.alloc (.cells #[.slice (some ⟨w.heap.size, 0, none⟩) n n, .map (some (w.heap.size + 1)), .int .i64 0, .bool false] 36)).heap.size = w.heap.size + 3 := by simp [s2]
  generalize w2.alloc (.cells #[.slice (some ⟨w.heap.size, 0, none⟩) n n, .map (some (w.heap.size + 1)), .int .i64 0, .bool false] 36) = w3 at *
  obtain ⟨B, hB⟩ : ∃ B, w.heap.size = B := ⟨_, rfl⟩
  rw [hB] at b3 g3 d3 m3 s3 HCR
  rw [hB]
  clear s1 s2 b1 b2 g1 g2 m2
  go_loopw [24] (fun c wr => ∃ (j : Nat) (D : DataW Unit), j ≤ cs.length ∧ c = .int .i64 j ∧ Blk wr (B + 1 + 1) 36 (diskV B n (B + 1) 0 false) ∧ Blk wr B 54 (byteCells (noB n)).toArray ∧
      wr.ownsMap Try.prog 3 (plainElem Try.prog 3) (B + 1) j D ∧ Hid (CrashMap D (crashAt (cs.take j))) ∧ Below B w wr ∧ B + 3 ≤ wr.heap.size) (fun c _ => cs.length - (intOf c).toNat)
  case atStart => exact ⟨0, _, by omega, rfl, d3, g3, m3, Lib.hid crash_none, b3, by omega⟩
  case round =>
    obtain ⟨j, D, hj, rfl, hd, hg, hm, hc, hb, hz⟩ := hrel
    by_cases hlt : j < cs.length
    · obtain ⟨⟨t, kp⟩, hx⟩ : ∃ x, cs[j]? = some x := ⟨_, List.getElem?_eq_getElem hlt⟩
      obtain ⟨hw1, hw2⟩ := HCR.out.ins _ (List.mem_of_getElem? hx)
      rcases HCR.out.place with h0 | ⟨b, off, hA, hbB, hcs⟩
      · rw [h0] at hlt; simp at hlt
      · obtain ⟨p0, p1⟩ := hcs j _ hx
        subst hA
        have m0 : wr.cell? ⟨b, off + j * 2, none⟩ = some (.int .i64 t) := (hb.cell (p := ⟨b, off + j * 2, none⟩) hbB).trans p0
        have m1 : wr.cell? ⟨b, off + (j * 2 + 1), none⟩ = some (.int .i64 kp) := (hb.cell (p := ⟨b, off + (j * 2 + 1), none⟩) hbB).trans p1
        have m1' : wr.cell? ⟨b, off + j * 2 + 1, none⟩ = some (.int .i64 kp) := by rw [Nat.add_assoc]; exact m1
        have htk : cs.take (j + 1) = cs.take j ++ [(t, kp)] := by rw [List.take_add_one, hx]; rfl
        have c1 : wr.cell? ⟨B + 1 + 1, 1, none⟩ = some (.map (some (B + 1))) := hd.cell 1
        have HX := Lib.hid hx
        have HTK := Lib.hid htk
        clear p0 p1 hcs hx htk
        go_wp2_with fail
        have n4 : ∀ i, (wr.alloc (.cells #[.int .i64 t, .int .i64 kp] 29)).cell? ⟨wr.heap.size, i, none⟩ = (#[Value.int .i64 t, .int .i64 kp] : Array Value)[i]? := newB wr _ _
        have q0 : (wr.alloc (.cells #[.int .i64 t, .int .i64 kp] 29)).cell? ⟨wr.heap.size, 0, none⟩ = some (.int .i64 t) := n4 0
        have q1 : (wr.alloc (.cells #[.int .i64 t, .int .i64 kp] 29)).cell? ⟨wr.heap.size, 1, none⟩ = some (.int .i64 kp) := n4 1
        have d4 := hd.alloc (.cells #[.int .i64 t, .int .i64 kp] 29)
        have g4 := hg.alloc (.cells #[.int .i64 t, .int .i64 kp] 29)
        have e4 := hm.alloc (.cells #[.int .i64 t, .int .i64 kp] 29)
        have b4 := hb.alloc (by omega) (.cells #[.int .i64 t, .int .i64 kp] 29)
        have s4 : B + 3 ≤ (wr.alloc (.cells #[.int .i64 t, .int .i64 kp] 29)).heap.size := by simp; omega
        have c4 : (wr.alloc (.cells #[.int .i64 t, .int .i64 kp] 29)).cell? ⟨B + 1 + 1, 1, none⟩ = some (.map (some (B + 1))) := d4.cell 1
        generalize wr.alloc (.cells #[.int .i64 t, .int .i64 kp] 29) = w4 at *
        have hl : ∀ q, (Instr.lookup 34 (.map (some (B + 1))) (.int .i64 t) true).run Try.prog (w4.drewN q) = .ok (.tuple #[.int .i64 (((crashAt (cs.take j) t).getD 0 : Nat) : Int), .bool (crashAt (cs.take j) t).isSome]) (w4.drewN q) :=
          fun q => look_run (w := w4.drewN q) e4 hc.out t hw1
        clear hd hg hm hb m0 m1 m1' n4 c1
        cases hcw : crashAt (cs.take j) t with
        | some kk =>
          rw [hcw] at hl
          have HCW := Lib.hid hcw
          clear hcw
          go_quiet (fail)
          go_wp2_with fail
          refine ⟨⟨j + 1, D, by omega, by go_num, d4.drewN _, g4.drewN _, (show (w4.drewN nq).ownsMap _ _ _ _ _ _ from e4).mono (by omega), Lib.hid ?_, ⟨b4.os, b4.tape, b4.output, b4.size, b4.block⟩, s4⟩, by simp [intOf]; omega⟩
          rw [HTK.out]
          exact crash_same hc.out (by rw [HCW.out]; rfl)
        | none =>
          rw [hcw] at hl
          have HCW := Lib.hid hcw
          clear hcw
          go_quiet (fail)
          go_wp2_with fail
          have hwk : (Lit.int .i64 (min (max kp 0) 128)).wf = true := WalkArith.wf_i64 (by omega)
          have e5 : (w4.drewN nq).ownsMap Try.prog 3 (plainElem Try.prog 3) (B + 1) j D := e4
          have d5 : Blk (w4.drewN nq) (B + 1 + 1) 36 (diskV B n (B + 1) 0 false) := d4
          have g5 : Blk (w4.drewN nq) B 54 (byteCells (noB n)).toArray := g4
          have b5 : Below B w (w4.drewN nq) := ⟨b4.os, b4.tape, b4.output, b4.size, b4.block⟩
          have s5 : B + 3 ≤ (w4.drewN nq).heap.size := s4
          have c5 : (w4.drewN nq).cell? ⟨B + 1 + 1, 1, none⟩ = some (.map (some (B + 1))) := c4
          have p0 : (w4.drewN nq).cell? ⟨wr.heap.size, 0, none⟩ = some (.int .i64 t) := q0
          have p1 : (w4.drewN nq).cell? ⟨wr.heap.size, 1, none⟩ = some (.int .i64 kp) := q1
          generalize w4.drewN nq = w5 at *
          clear e4 d4 g4 b4 s4 c4 q0 q1 hl
          refine wp_region_still_tail 10 (by kernel_rfl) (by kernel_rfl) ?_
          simp only [List.take_succ_cons, List.take_zero, List.drop_succ_cons, List.drop_zero]
          repeat still_step
          refine wpStill_nil ?_
          have e6 : w5.drew.ownsMap Try.prog 3 (plainElem Try.prog 3) (B + 1) j D := e5
          have d6 : Blk w5.drew (B + 1 + 1) 36 (diskV B n (B + 1) 0 false) := d5
          have g6 : Blk w5.drew B 54 (byteCells (noB n)).toArray := g5
          have b6 : Below B w w5.drew := b5.drew
          have s6 : B + 3 ≤ w5.drew.heap.size := s5
          change wpList _ _ _ _ _ w5.drew
          generalize w5.drew = w6 at *
          go_wp2_with (at_mapUpdate; refine wpList_mapUpdate_own _ rfl _ _ _ 34 rfl 3 3 lawI Try.underlying34 _ (B + 1) j D rfl e6 (by unfold maxLen; omega) _ _ (.int .i64 t) rfl rfl (keyOf_int_mk Try.underlying3 hw1) (.lit (.int .i64 (min (max kp 0) 128))) [] (plainElem_int Try.underlying3 hwk) ?_; intro w7 hown7 hgrow7)
          have hcn := crash_new (D := D) (l := cs.take j) (c := (t, kp)) hc.out e6.isMap HCW.out (keyOf_int_mk Try.underlying3 hw1)
          simp only at hcn
          rw [clampK_min, ← HTK.out] at hcn
          exact ⟨⟨j + 1, _, by omega, by go_num, d6.grown hgrow7 (by simp), g6.grown hgrow7 (by simp), hown7, Lib.hid hcn, b6.grown hgrow7 (by omega) (fun k e => by cases e; omega), by have := hgrow7.size; omega⟩, by simp [intOf]; omega⟩
    · obtain rfl : j = cs.length := by omega
      go_wp2_with fail
      go_ret2
      rw [List.take_length] at hc
      refine ⟨B + 1 + 1, B, B + 1, rfl, by omega, by omega, by omega, ⟨_, D, by omega, by simp [noB], hd, hg, hm, hc.out⟩, ?_⟩
      rw [hB]
      exact hb
end Go.Proofs.Ytmjhomhganaceaa
