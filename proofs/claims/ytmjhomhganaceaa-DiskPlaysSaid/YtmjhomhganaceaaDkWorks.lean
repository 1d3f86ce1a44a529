/-
  The walk of works: a torn write. Conditions: none.
-/
import Derived.Test.YtmjhomhganaceaaDkRefW
namespace Go.Proofs.Ytmjhomhganaceaa
set_option linter.unusedVariables false
set_option linter.unusedSimpArgs false
open Go.RowKit Go.Maps Go.Sort

theorem isCr_new (w : World) (t kp : Int) (ht : (Lit.int .i64 t).wf = true) (hk : (Lit.int .i64 kp).wf = true) :
    IsCr (w.alloc (.cells #[.int .i64 t, .int .i64 kp] 29)) (w.alloc (.cells #[.int .i64 t, .int .i64 kp] 29)).heap.size (some ⟨w.heap.size, 0, none⟩) [(t, kp)] := by
  refine ⟨.inr ⟨w.heap.size, 0, rfl, by simp, fun j x hj => ?_⟩, fun x hx => ?_⟩
  · rcases j with _ | j
    · simp at hj
      subst hj
      exact ⟨newB w _ _ 0, newB w _ _ 1⟩
    · simp at hj
  · simp at hx
    subst hx
    exact ⟨ht, hk⟩
theorem DiskAt.low {d g m n : Nat} {F : List UInt8} {cf : Int → Option Nat} {wr : Nat} {dn : Bool} {w : World} (h : DiskAt d g m n F cf wr dn w) : d < w.heap.size ∧ g < w.heap.size ∧ m < w.heap.size := by
  obtain ⟨k, D, h0, h4, h5, h6, h7, h8⟩ := h
  exact ⟨h5.lt, h6.lt, h7.lt⟩
theorem DiskAt.head {d g m n : Nat} {F : List UInt8} {cf : Int → Option Nat} {wr : Nat} {dn : Bool} {w : World} (h : DiskAt d g m n F cf wr dn w) : Blk w d 36 (diskV g n m wr dn) := by
  obtain ⟨k, D, h0, h4, h5, h6, h7, h8⟩ := h
  exact h5
theorem DiskAt.len {d g m n : Nat} {F : List UInt8} {cf : Int → Option Nat} {wr : Nat} {dn : Bool} {w : World} (h : DiskAt d g m n F cf wr dn w) : F.length = n * 128 := by
  obtain ⟨k, D, h0, h4, h5, h6, h7, h8⟩ := h
  exact h4
theorem DiskAt.drewN {d g m n : Nat} {F : List UInt8} {cf : Int → Option Nat} {wr : Nat} {dn : Bool} {w : World} (h : DiskAt d g m n F cf wr dn w) (q : Nat) : DiskAt d g m n F cf wr dn (w.drewN q) := by
  obtain ⟨k, D, h0, h4, h5, h6, h7, h8⟩ := h
  exact ⟨k, D, h0, h4, h5.drewN q, h6.drewN q, h7, h8⟩
theorem DiskAt.power {d g m n : Nat} {F : List UInt8} {cf : Int → Option Nat} {wr : Nat} {dn : Bool} {w : World} (h : DiskAt d g m n F cf wr dn w) : DiskAt d g m n F cf wr false (w.setCell ⟨d, 3, none⟩ (.bool false)) := by
  obtain ⟨k, D, h0, h4, h5, h6, h7, h8⟩ := h
  have hmd := blk_map_ne h7 h5
  refine ⟨k, D, h0, h4, ?_, h6.far (by simpa using h0) _, h7.setCell (a := ⟨d, 3, none⟩) (by simpa using hmd) _, h8⟩
  have := h5.set_ 3 (.bool false)
  simpa [diskV] using this
theorem power_disk (d g m n : Nat) (F : List UInt8) (cf : Int → Option Nat) (wr : Nat) (dn : Bool) (w : World) (h : DiskAt d g m n F cf wr dn w) :
    Calls Try.prog 9 #[.pointer (some ⟨d, 0, none⟩)] w fun e w' => e = .returned (.tuple #[]) ∧ DiskAt d g m n F cf wr false w' ∧ Only [d, g] w w' := by
  refine (power_any d g m n wr dn w h.head).mono ?_
  rintro e w' ⟨rfl, rfl⟩
  exact ⟨rfl, h.power, (Only.refl _ w).setCell (by simp) _⟩
theorem read_disk (d g m n : Nat) (F : List UInt8) (cf : Int → Option Nat) (wr : Nat) (dn : Bool) (a : Int) (w : World) (h : DiskAt d g m n F cf wr dn w) (hn : n ≤ 4096) :
    Calls Try.prog 10 #[.pointer (some ⟨d, 0, none⟩), .int .i64 a] w fun e w' =>
      e = .returned (.tuple #[.string (readS n F dn a), .int .i64 (readyE n dn a)]) ∧ DiskAt d g m n F cf wr dn w' ∧ Only [d, g] w w' := by
  refine (read_any d g m n F cf wr dn a w h hn).mono ?_
  rintro e w' ⟨rfl, q, rfl⟩
  exact ⟨rfl, h.drewN q, (Only.refl _ w).drewN q⟩

/-- a row that is being filled with x -/
def xs (j : Nat) : List UInt8 := List.replicate j 120 ++ List.replicate (128 - j) 0
theorem xs_set (j : Nat) (hj : j < 128) : (byteCells (xs j)).toArray.setIfInBounds j (.int .u8 120) = (byteCells (xs (j + 1))).toArray := by
  have e : (xs j).set j 120 = xs (j + 1) := by
    unfold xs
    rw [List.set_append_right _ _ (by simp), List.length_replicate, Nat.sub_self]
    obtain ⟨k, hk⟩ : ∃ k, 128 - j = k + 1 := ⟨127 - j, by omega⟩
    rw [hk, List.replicate_succ, List.set_cons_zero, List.replicate_succ', show 128 - (j + 1) = k by omega]
    simp
  rw [← e]
  simp [byteCells, List.map_set]
theorem xs_len : (xs 128).length = 128 := by unfold xs; rw [List.length_append, List.length_replicate, List.length_replicate]
theorem noB_len (n : Nat) : (noB n).length = n * 128 := by unfold noB; rw [List.length_replicate]
def X : ByteArray := txt (xs 128)
theorem X_size : X.size = 128 := by rw [X, txt_size, xs_len]

/-- what stands behind a torn write of block 1 -/
def R : ByteArray := txt (List.replicate 3 120 ++ List.replicate 125 0)
theorem R_size : R.size = 128 := by rw [R, txt_size]; simp
theorem R_head : R.extract 0 4 = txt [120, 120, 120, 0] := by rw [R, extract_txt]; congr 1
theorem cfW0 : crashAt [(1, 3)] ((0 : Nat) : Int) = none := rfl
theorem cfW1 : crashAt [(1, 3)] ((1 : Nat) : Int) = some 3 := by simp [crashAt, clampK]; rfl
def F1 : List UInt8 := tear (noB 2) 0 (xs 128)
def F2 : List UInt8 := tear F1 128 ((xs 128).take 3)
theorem w1F : writeF 2 (noB 2) false (crashAt [(1, 3)]) 0 0 X = F1 := by
  have hB : writeB 2 false 0 X = true := by simp [writeB, readyE, X_size]
  rw [writeF, hB, if_pos rfl, cfW0, F1, X, list_txt]
  congr 1
theorem w2F : writeF 2 F1 false (crashAt [(1, 3)]) 1 1 X = F2 := by
  have hB : writeB 2 false 1 X = true := by simp [writeB, readyE, X_size]
  rw [writeF, hB, if_pos rfl, cfW1, F2, X, list_txt]
  congr 1
theorem F1_len : F1.length = 2 * 128 := by rw [F1, tear_len _ _ _ (by rw [xs_len, noB_len]; omega), noB_len]
theorem R_read : readS 2 F2 false 1 = R := by
  have h1 : blk F2 1 = X.extract 0 3 ++ (blk F1 1).extract 3 128 := by
    have := blk_tear F1 2 1 1 3 X F1_len (by omega) (by omega) X_size (by omega)
    rw [if_pos rfl] at this
    rw [← this, F2, X, list_txt]
  have h2 : blk F1 1 = blk (noB 2) 1 := by
    have := blk_tear (noB 2) 2 0 1 128 X (noB_len 2) (by omega) (by omega) X_size (by omega)
    rw [if_neg (by omega)] at this
    rw [← this, F1, X, list_txt, List.take_of_length_le (by rw [xs_len]; omega)]
  have h3 : readS 2 F2 false 1 = blk F2 1 := by simp [readS, readyE]
  rw [h3, h1, h2, noB_blk 2 1 (by omega), X, extract_txt, extract_txt, txt_append, R]
  congr 1

theorem writeE_ok (n : Nat) (cf : Int → Option Nat) (wr i : Nat) (s : ByteArray) (hi : i < n) (hs : s.size = 128) : writeE n false cf wr i s = if (cf wr).isSome then 20 else 0 := by
  have e : readyE n false (i : Int) = 0 := by simp [readyE]; omega
  simp [writeE, e, hs]

set_option maxHeartbeats 4000000 in
set_option maxRecDepth 100000 in
theorem works_any (w : World) : Calls Try.prog 5 #[] w fun e w' => e = .returned (.bool true) ∧ Below w.heap.size w w' := by
  have hmk : ∀ w, (Instr.makeSlice 51 (.int .i64 128) (.int .i64 128)).run Try.prog w = .ok (.slice (some ⟨w.heap.size, 0, none⟩) 128 128) (w.alloc (.cells (byteCells (zeros 128)).toArray 5)) := make_row 128 (by omega)
  go_enter Try.func5, Try.ntmps5
  go_wp2_with (go_at_call 7; refine (new_any 2 (some ⟨w.heap.size, 0, none⟩) 1 [(1, 3)] _ (by omega) (by omega) (by simp) (isCr_new w 1 3 rfl rfl)).mono ?_; rintro e w1 ⟨d, g, m, rfl, hd, hg, hm, hdisk, hb⟩)
  obtain ⟨B, hB⟩ : ∃ B, w.heap.size = B := ⟨_, rfl⟩
  have b1 : Below B w w1 := by
    rw [← hB]
    exact ((Below.refl _ _).alloc (Nat.le_refl _) _).trans (hb.mono (by simp))
  simp at hd hg hm
  rw [hB] at hd hg hm
  rw [hB]
  clear hb
  have D0 := Lib.hid (And.intro hdisk b1)
  obtain ⟨l1, l2, l3⟩ := hdisk.low
  clear hdisk b1
  obtain ⟨gx, hgx⟩ : ∃ gx, w1.heap.size = gx := ⟨_, rfl⟩
  rw [hgx] at l1 l2 l3
  have hmk1 := hmk w1
  rw [hgx] at hmk1
  have D1 : Hid (DiskAt d g m 2 (noB 2) (crashAt [(1, 3)]) 0 false (w1.alloc (.cells (byteCells (zeros 128)).toArray 5)) ∧ Below B w (w1.alloc (.cells (byteCells (zeros 128)).toArray 5)) ∧ Blk (w1.alloc (.cells (byteCells (zeros 128)).toArray 5)) gx 5 (byteCells (xs 0)).toArray) := Lib.hid ⟨D0.out.1.keep ((Below.refl _ _).alloc (Nat.le_refl _) _), D0.out.2.alloc (by omega) _, by rw [← hgx]; exact Blk.new w1 _ _⟩
  clear hmk D0
  go_wp2_with fail
  generalize w1.alloc (.cells (byteCells (zeros 128)).toArray 5) = w2 at *
  go_loopw [4] (fun c wr => ∃ j : Nat, j ≤ 128 ∧ c = .int .i64 j ∧ Blk wr gx 5 (byteCells (xs j)).toArray ∧ Hid (DiskAt d g m 2 (noB 2) (crashAt [(1, 3)]) 0 false wr ∧ Below B w wr)) (fun c _ => 128 - (intOf c).toNat)
  case atStart => exact ⟨0, by omega, rfl, D1.out.2.2, Lib.hid ⟨D1.out.1, D1.out.2.1⟩⟩
  case round =>
    obtain ⟨j, hj, rfl, hx, hD⟩ := hrel
    by_cases hlt : j < 128
    · have z1 := hx.cell j
      have z2 := hx.frozen j
      rw [List.getElem?_toArray, byteCells, List.getElem?_map, List.getElem?_eq_getElem (by simp [xs]; omega)] at z1
      simp only [Option.map_some] at z1
      go_wp2_with fail
      refine ⟨⟨j + 1, by omega, by go_num, ?_, Lib.hid ?_⟩, by simp [intOf]; omega⟩
      · rw [← xs_set j hlt]
        exact hx.set_ j _
      · have ho := (Only.refl [gx] wr).setCell (a := ⟨gx, j, none⟩) (by simp) (.int .u8 120)
        exact ⟨hD.out.1.only ho (by simp; omega) (by simp; omega) (by simp; omega), hD.out.2.trans (ho.below (by have := hD.out.2.size; omega) (by simp; omega))⟩
    · obtain rfl : j = 128 := by omega
      have hcv := conv_row (c := 128) hx xs_len
      have HB := Lib.hid hD.out.2
      have hlo := hD.out.1.low
      have hne1 : gx ∉ [d, g] := by simp; omega
      have hne2 : ∀ k ∈ [d, g], B ≤ k := by simp; omega
      go_wp2_with fail
      refine (write_any d g m 2 (noB 2) (crashAt [(1, 3)]) 0 false 0 X wr hD.out.1 (by omega) (by omega) (fun t k h => crashAt_le h) (by rw [X_size]; unfold maxLen; omega)).mono ?_
      rintro e w3 ⟨rfl, h3, o3⟩
      have e3 : writeE 2 false (crashAt [(1, 3)]) 0 0 X = 0 := by
        have := writeE_ok 2 (crashAt [(1, 3)]) 0 0 X (by omega) X_size
        rw [cfW0] at this
        exact this
      have e3n : writeN 2 false 0 0 X = 1 := by simp [writeN, writeB, readyE, X_size]
      have e3d : writeD 2 false (crashAt [(1, 3)]) 0 0 X = false := by
        have := cfW0
        simp at this
        simp [writeD, writeB, readyE, X_size, this]
      rw [w1F, e3n, e3d] at h3
      rw [e3]
      have hx3 := hx.only o3 hne1
      have hcv3 := conv_row (c := 128) hx3 xs_len
      have P3 := Lib.hid (And.intro h3 (HB.out.trans (o3.below (by have := HB.out.size; omega) hne2)))
      clear h3 o3 e3 e3n e3d hcv hD HB hx
      go_wp2_with fail
      refine (write_any d g m 2 F1 (crashAt [(1, 3)]) 1 false 1 X w3 P3.out.1 (by omega) (by omega) (fun t k h => crashAt_le h) (by rw [X_size]; unfold maxLen; omega)).mono ?_
      rintro e w4 ⟨rfl, h4, o4⟩
      have e4 : writeE 2 false (crashAt [(1, 3)]) 1 1 X = 20 := by
        have := writeE_ok 2 (crashAt [(1, 3)]) 1 1 X (by omega) X_size
        rw [cfW1] at this
        exact this
      have e4n : writeN 2 false 1 1 X = 2 := by simp [writeN, writeB, readyE, X_size]
      have e4d : writeD 2 false (crashAt [(1, 3)]) 1 1 X = true := by
        have := cfW1
        simp at this
        simp [writeD, writeB, readyE, X_size, this]
      rw [w2F, e4n, e4d] at h4
      rw [e4]
      have P4 := Lib.hid (And.intro h4 (P3.out.2.trans (o4.below (by have := P3.out.2.size; omega) hne2)))
      clear h4 o4 e4 e4n e4d hcv3 P3 hx3
      go_wp2_with fail
      refine (read_disk d g m 2 F2 (crashAt [(1, 3)]) 2 true 0 w4 P4.out.1 (by omega)).mono ?_
      rintro e w5 ⟨rfl, h5, o5⟩
      have e5 : readyE 2 true 0 = 20 := by simp [readyE]
      rw [e5]
      generalize readS 2 F2 true 0 = s5
      have P5 := Lib.hid (And.intro h5 (P4.out.2.trans (o5.below (by have := P4.out.2.size; omega) hne2)))
      clear h5 o5 e5 P4
      go_wp2_with fail
      refine (power_disk d g m 2 F2 (crashAt [(1, 3)]) 2 true w5 P5.out.1).mono ?_
      rintro e w6 ⟨rfl, h6, o6⟩
      have P6 := Lib.hid (And.intro h6 (P5.out.2.trans (o6.below (by have := P5.out.2.size; omega) hne2)))
      clear h6 o6 P5
      go_wp2_with fail
      refine (read_disk d g m 2 F2 (crashAt [(1, 3)]) 2 false 1 w6 P6.out.1 (by omega)).mono ?_
      rintro e w7 ⟨rfl, h7, o7⟩
      have e7 : readyE 2 false 1 = 0 := by simp [readyE]
      rw [e7, R_read]
      have P7 := Lib.hid (And.intro h7 (P6.out.2.trans (o7.below (by have := P6.out.2.size; omega) hne2)))
      have r1 := R_size
      have r2 := R_head
      have r3 := txt_toList [120, 120, 120, 0]
      generalize R = R' at *
      clear h7 o7 e7 P6
      go_wp2_with fail
      refine (writes_any d g m 2 2 false w7 P7.out.1.head).mono ?_
      rintro e w8 ⟨rfl, rfl⟩
      go_wp2_with fail
      go_ret
      refine ⟨rfl, ?_⟩
      rw [hB]
      exact P7.out.2
end Go.Proofs.Ytmjhomhganaceaa
