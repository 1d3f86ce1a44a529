/-
  The walks of Write and Read. Conditions: the disk's memory.
-/
import Derived.Test.YtmjhomhganaceaaDkWalk
import Derived.OwnWalk
import Derived.Outline
import Derived.Lib.SlBuf
namespace Go.Proofs.Ytmjhomhganaceaa
set_option linter.unusedVariables false
set_option linter.unusedSimpArgs false
open Go.RowKit Go.Maps Go.Sort

theorem byteCells_take (l : List UInt8) (n : Nat) : (byteCells l).take n = byteCells (l.take n) := by simp [byteCells, List.map_take]
theorem byteCells_drop (l : List UInt8) (n : Nat) : (byteCells l).drop n = byteCells (l.drop n) := by simp [byteCells, List.map_drop]
/-- what Write tells -/
def writeE (n : Nat) (dn : Bool) (cf : Int → Option Nat) (wr : Nat) (a : Int) (s : ByteArray) : Int :=
  if readyE n dn a ≠ 0 then readyE n dn a else if s.size ≠ 128 then 7 else if (cf wr).isSome then 20 else 0
/-- is anything written? -/
def writeB (n : Nat) (dn : Bool) (a : Int) (s : ByteArray) : Bool := decide (readyE n dn a = 0 ∧ s.size = 128)
def writeF (n : Nat) (F : List UInt8) (dn : Bool) (cf : Int → Option Nat) (wr : Nat) (a : Int) (s : ByteArray) : List UInt8 :=
  if writeB n dn a s then tear F (a.toNat * 128) (s.data.toList.take ((cf wr).getD 128)) else F
def writeN (n : Nat) (dn : Bool) (wr : Nat) (a : Int) (s : ByteArray) : Nat := if writeB n dn a s then wr + 1 else wr
def writeD (n : Nat) (dn : Bool) (cf : Int → Option Nat) (wr : Nat) (a : Int) (s : ByteArray) : Bool := if writeB n dn a s then (cf wr).isSome else dn

theorem infoU8 : (Try.prog.info? 5).map (·.size) = some 1 := by kernel_rfl
theorem arrLen : Try.prog.arrayLen 54 = 128 := by kernel_rfl
theorem elemArr : Try.prog.elem 54 = 5 := by kernel_rfl
theorem slice_arr (a : Addr) (kk : Nat) (hk : kk ≤ 128) (w : World) : (Instr.sliceAt 54 (.pointer (some a)) none (some (.int .i64 kk)) none).run Try.prog w = .ok (.slice (some a) kk 128) w := by
  rw [run_sliceAt_array_h w 54 a (by kernel_rfl) .i64 kk (by omega) (by rw [arrLen]; omega), elemArr, arrLen, Try.sizeOf5]
  simp [Result.andThen, slicedAt, Addr.add]
theorem readyE_zero {n : Nat} {dn : Bool} {a : Int} (h : readyE n dn a = 0) : dn = false ∧ 0 ≤ a ∧ a < n := by
  unfold readyE at h
  cases dn
  · simp only [Bool.false_eq_true, if_false] at h
    split at h
    · omega
    · exact ⟨rfl, by omega, by omega⟩
  · simp at h
theorem readyE_some (n : Nat) (dn : Bool) (a : Int) : ∃ e, readyE n dn a = e := ⟨_, rfl⟩

/-- the memory behind a write -/
theorem write_world (d g m n k : Nat) (F : List UInt8) (wr q i kk : Nat) (D : DataW Unit) (s : ByteArray) (w : World) (hgd : g ≠ d) (hF : F.length = n * 128) (hin : i < n) (hk : kk ≤ 128) (hs : s.size = 128)
    (hd : Blk w d 36 (diskV g n m wr false)) (hg : Blk w g 54 (byteCells F).toArray) (hm : w.ownsMap Try.prog 3 (plainElem Try.prog 3) m k D) (W : World)
    (hW : W = ((w.drewN q).setCell ⟨d, 2, none⟩ (.int .i64 ((wr : Int) + 1))).setRow g ((byteCells F).toArray.toList.take (i * 128) ++ byteCells (s.data.toList.take kk) ++ (byteCells F).toArray.toList.drop (i * 128 + kk)).toArray) :
    (tear F (i * 128) (s.data.toList.take kk)).length = n * 128 ∧ Blk W d 36 (diskV g n m (wr + 1) false) ∧ Blk W g 54 (byteCells (tear F (i * 128) (s.data.toList.take kk))).toArray ∧ W.ownsMap Try.prog 3 (plainElem Try.prog 3) m k D ∧ Only [d, g] w W := by
  have hmd := blk_map_ne hm hd
  have hmg := blk_map_ne hm hg
  have hle : (i + 1) * 128 ≤ n * 128 := Nat.mul_le_mul_right _ hin
  have hl : (s.data.toList.take kk).length = kk := by rw [List.length_take, ← size_lst]; omega
  have e : (byteCells F).toArray.toList.take (i * 128) ++ byteCells (s.data.toList.take kk) ++ (byteCells F).toArray.toList.drop (i * 128 + kk) = byteCells (tear F (i * 128) (s.data.toList.take kk)) := by
    unfold tear
    rw [hl, List.toList_toArray, byteCells_take, byteCells_drop, byteCells_append, byteCells_append]
  rw [e] at hW
  subst hW
  have hd2 : Blk ((w.drewN q).setCell ⟨d, 2, none⟩ (.int .i64 ((wr : Int) + 1))) d 36 (diskV g n m (wr + 1) false) := by
    have := (hd.drewN q).set_ 2 (.int .i64 ((wr : Int) + 1))
    simpa [diskV] using this
  have hg2 : Blk ((w.drewN q).setCell ⟨d, 2, none⟩ (.int .i64 ((wr : Int) + 1))) g 54 (byteCells F).toArray := (hg.drewN q).far (by simpa using hgd) _
  have ho : Only [d, g] w ((w.drewN q).setCell ⟨d, 2, none⟩ (.int .i64 ((wr : Int) + 1))) := ((Only.refl _ w).drewN q).setCell (by simp) _
  have ho2 := ho.setRow (g := g) (by simp) (byteCells (tear F (i * 128) (s.data.toList.take kk))).toArray
  refine ⟨by rw [tear_len _ _ _ (by rw [hl, hF]; omega), hF], ?_, setRow_heap _ g _ _ _ _ hg2, map_only hm ho2 (by simp; omega), ho2⟩
  exact (setRow_other _ g d _ (by omega)).trans hd2

set_option maxHeartbeats 4000000 in
set_option maxRecDepth 100000 in
theorem write_any (d g m n : Nat) (F : List UInt8) (cf : Int → Option Nat) (wr : Nat) (dn : Bool) (a : Int) (s : ByteArray) (w : World) (h : DiskAt d g m n F cf wr dn w) (hn : n ≤ 4096) (hwr : wr < 1000000) (hcf : ∀ t k, cf t = some k → k ≤ 128) (hs : s.size ≤ maxLen) :
    Calls Try.prog 8 #[.pointer (some ⟨d, 0, none⟩), .int .i64 a, .string s] w fun e w' =>
      e = .returned (.int .i64 (writeE n dn cf wr a s)) ∧ DiskAt d g m n (writeF n F dn cf wr a s) cf (writeN n dn wr a s) (writeD n dn cf wr a s) w' ∧ Only [d, g] w w' := by
  obtain ⟨k, D, hgd, hF, hd, hg, hm, hc⟩ := h
  have hr := ready_any d g m n wr dn a w hd hn
  by_cases h1 : readyE n dn a = 0
  · obtain ⟨rfl, ha0, han⟩ := readyE_zero h1
    rw [h1] at hr
    by_cases h2 : s.size = 128
    · have hmd := blk_map_ne hm hd
      have hmg := blk_map_ne hm hg
      have c0 := hd.cell 0
      have c1 := hd.cell 1
      have c2 := hd.cell 2
      have c3 := hd.cell 3
      have f2 := hd.frozen 2
      have f3 := hd.frozen 3
      simp [diskV] at c0 c1 c2 c3
      have hl : ∀ q, (Instr.lookup 34 (.map (some m)) (.int .i64 wr) true).run Try.prog (w.drewN q) = .ok (.tuple #[.int .i64 (((cf wr).getD 0 : Nat) : Int), .bool (cf wr).isSome]) (w.drewN q) :=
        fun q => look_run (w := w.drewN q) hm hc wr (WalkArith.wf_i64 (by omega))
      obtain ⟨i, rfl⟩ : ∃ i : Nat, a = i := ⟨a.toNat, by omega⟩
      have hin : i < n := by omega
      have h2' : ((s.size : Int) == 128) = true := by rw [h2]; rfl
      have h2'' : ((s.size : Int) != 128) = false := by rw [h2]; rfl
      have HD := Lib.hid hd
      have HG := Lib.hid hg
      have HM := Lib.hid hm
      have HR := Lib.hid hr
      have H1 := Lib.hid h1
      have H2 := Lib.hid h2
      have HF := Lib.hid hF
      clear hd hg hm hr h1 h2 hF
      cases hcw : cf wr with
      | none =>
        rw [hcw] at hl
        have HCW := Lib.hid hcw
        clear hcw
        go_enter Try.func8, Try.ntmps8
        go_wp2_with (go_at_call 18; refine HR.out.mono ?_; rintro e w' ⟨rfl, rfl⟩)
        go_quiet (fail)
        rename_i q
        go_wp2_with fail
        rw [run_copy_start _ _ _ _ 5 g (i * 128) 128 128 s _ _ Try.underlying51 infoU8 ((HG.out.drewN nq).far (by simpa using hgd) _) (by rw [H2.out]; omega) (by rw [List.size_toArray, byteCells_len, HF.out]; have : (i + 1) * 128 ≤ n * 128 := Nat.mul_le_mul_right _ hin; omega)]
        simp only [Result.andThen]
        rw [Oper.upon_value]
        generalize hW : World.setRow _ _ _ = W
        obtain ⟨x1, x2, x3, x4, x5⟩ := write_world d g m n k F wr nq i 128 D s w' hgd HF.out hin (by omega) H2.out HD.out HG.out HM.out W hW.symm
        clear hW
        go_wp2_with fail
        go_ret
        have hB : writeB n false (i : Int) s = true := decide_eq_true ⟨H1.out, H2.out⟩
        simp only [writeE, writeF, writeN, writeD, hB, H1.out, H2.out, HCW.out, if_true, ne_eq, not_true, if_false]
        exact ⟨rfl, ⟨k, D, hgd, x1, x2, x3, x4, hc⟩, x5⟩
      | some kk =>
        have hkk := hcf _ _ hcw
        rw [hcw] at hl
        have HCW := Lib.hid hcw
        clear hcw
        have hsl := slice_arr ⟨g, i * 128, none⟩ kk hkk
        go_enter Try.func8, Try.ntmps8
        go_wp2_with (go_at_call 18; refine HR.out.mono ?_; rintro e w' ⟨rfl, rfl⟩)
        go_quiet (fail)
        go_wp2_with fail
        rw [run_copy_start _ _ _ _ 5 g (i * 128) kk 128 s _ _ Try.underlying51 infoU8 ((HG.out.drewN nq).far (by simpa using hgd) _) (by rw [H2.out]; omega) (by rw [List.size_toArray, byteCells_len, HF.out]; have : (i + 1) * 128 ≤ n * 128 := Nat.mul_le_mul_right _ hin; omega)]
        simp only [Result.andThen]
        rw [Oper.upon_value]
        generalize hW : World.setRow _ _ _ = W
        obtain ⟨x1, x2, x3, x4, x5⟩ := write_world d g m n k F wr nq i kk D s w' hgd HF.out hin hkk H2.out HD.out HG.out HM.out W hW.symm
        clear hW
        have y3 := x2.cell 3
        have z3 := x2.frozen 3
        simp [diskV] at y3
        have X2 := Lib.hid x2
        have X1 := Lib.hid x1
        clear x2 x1
        go_wp2_with fail
        go_ret
        have hB : writeB n false (i : Int) s = true := decide_eq_true ⟨H1.out, H2.out⟩
        simp only [writeE, writeF, writeN, writeD, hB, H1.out, H2.out, HCW.out, if_true, ne_eq, not_true, if_false]
        have v2 : Blk (W.setCell ⟨d, 3, none⟩ (.bool true)) d 36 (diskV g n m (wr + 1) true) := by
          have := X2.out.set_ 3 (.bool true)
          simpa [diskV] using this
        have vo := (Only.refl [d, g] W).setCell (a := ⟨d, 3, none⟩) (by simp) (.bool true)
        exact ⟨rfl, ⟨k, D, hgd, X1.out, v2, x3.far (by simpa using hgd) _, map_only x4 vo (by simp; omega), hc⟩, x5.trans vo⟩
    · have h2' : ((s.size : Int) == 128) = false := beq_eq_false_iff_ne.2 (by omega)
      have h2'' : ((s.size : Int) != 128) = true := by rw [bne, h2']; rfl
      have HD := Lib.hid hd
      have HR := Lib.hid hr
      have H1 := Lib.hid h1
      have H2 := Lib.hid h2
      clear hd hr h1 h2
      go_enter Try.func8, Try.ntmps8
      go_wp2_with (go_at_call 18; refine HR.out.mono ?_; rintro e w' ⟨rfl, rfl⟩)
      go_ret
      have hB : writeB n false a s = false := decide_eq_false (fun h => H2.out h.2)
      simp only [writeE, writeF, writeN, writeD, hB, H1.out, H2.out, if_true, ne_eq, not_true, if_false, not_false_eq_true]
      exact ⟨rfl, ⟨k, D, hgd, hF, HD.out, hg, hm, hc⟩, Only.refl _ _⟩
  · obtain ⟨E, hE⟩ := readyE_some n dn a
    rw [hE] at hr h1
    have h1' : (E == 0) = false := beq_eq_false_iff_ne.2 h1
    have h1'' : (E != 0) = true := by rw [bne, h1']; rfl
    have HD := Lib.hid hd
    have HR := Lib.hid hr
    have H1 := Lib.hid h1
    have HE := Lib.hid hE
    clear hd hr h1 hE
    go_enter Try.func8, Try.ntmps8
    go_wp2_with (go_at_call 18; refine HR.out.mono ?_; rintro e w' ⟨rfl, rfl⟩)
    go_ret
    have hB : writeB n dn a s = false := decide_eq_false (fun h => H1.out (HE.out ▸ h.1))
    simp only [writeE, writeF, writeN, writeD, hB, HE.out, H1.out, if_true, ne_eq, not_true, if_false, not_false_eq_true]
    exact ⟨rfl, ⟨k, D, hgd, hF, HD.out, hg, hm, hc⟩, Only.refl _ _⟩

/-- what Read tells -/
def readS (n : Nat) (F : List UInt8) (dn : Bool) (a : Int) : ByteArray := if readyE n dn a = 0 then blk F a.toNat else ⟨#[]⟩
set_option maxHeartbeats 4000000 in
set_option maxRecDepth 100000 in
theorem read_any (d g m n : Nat) (F : List UInt8) (cf : Int → Option Nat) (wr : Nat) (dn : Bool) (a : Int) (w : World) (h : DiskAt d g m n F cf wr dn w) (hn : n ≤ 4096) :
    Calls Try.prog 10 #[.pointer (some ⟨d, 0, none⟩), .int .i64 a] w fun e w' =>
      e = .returned (.tuple #[.string (readS n F dn a), .int .i64 (readyE n dn a)]) ∧ ∃ q, w' = w.drewN q := by
  obtain ⟨k, D, hgd, hF, hd, hg, hm, hc⟩ := h
  have hr := ready_any d g m n wr dn a w hd hn
  by_cases h1 : readyE n dn a = 0
  · obtain ⟨rfl, ha0, han⟩ := readyE_zero h1
    rw [h1] at hr
    obtain ⟨i, rfl⟩ : ∃ i : Nat, a = i := ⟨a.toNat, by omega⟩
    have hin : i < n := by omega
    have c0 := hd.cell 0
    simp [diskV] at c0
    have hle : (i + 1) * 128 ≤ n * 128 := Nat.mul_le_mul_right _ hin
    have hbl : (blk F i).data.toList.length = 128 := by rw [← size_lst, blk_size F n i hF hin]
    have hcv : (convert 51 9 (.slice (some ⟨g, i * 128, none⟩) 128 128)).run Try.prog w = .ok (.string (blk F i)) w := by
      have h3 := run_convert_bytes_back (P := Try.prog) w 51 9 5 ⟨g, i * 128, none⟩ 128 (blk F i).data.toList Try.underlying51 Try.underlying5 Try.underlying9 (fun j hj => by
        rw [add_lit0, hg.cell, List.getElem?_toArray]
        rw [hbl] at hj
        have h4 := blk_at F i j
        rw [if_pos hj, List.getElem?_eq_getElem (by omega)] at h4
        simp only [byteCells, List.getElem?_map, ← h4, Option.map_some])
      rw [hbl] at h3
      rw [h3]
    have HG := Lib.hid hg
    have HR := Lib.hid hr
    have H1 := Lib.hid h1
    clear hg hr h1 hbl hd hm
    go_enter Try.func10, Try.ntmps10
    go_wp2_with (go_at_call 18; refine HR.out.mono ?_; rintro e w' ⟨rfl, rfl⟩)
    go_ret2
    exact ⟨by rw [readS, if_pos H1.out, H1.out]; rfl, 0, rfl⟩
  · obtain ⟨E, hE⟩ := readyE_some n dn a
    rw [hE] at hr h1
    have h1' : (E == 0) = false := beq_eq_false_iff_ne.2 h1
    have h1'' : (E != 0) = true := by rw [bne, h1']; rfl
    have HR := Lib.hid hr
    have H1 := Lib.hid h1
    have HE := Lib.hid hE
    clear hr h1 hE hd
    go_enter Try.func10, Try.ntmps10
    go_wp2_with (go_at_call 18; refine HR.out.mono ?_; rintro e w' ⟨rfl, rfl⟩)
    go_ret2
    exact ⟨by rw [readS, HE.out, if_neg H1.out]; rfl, 0, rfl⟩
set_option maxHeartbeats 4000000 in
theorem read_nil (a : Int) (w : World) :
    Calls Try.prog 10 #[.pointer none, .int .i64 a] w fun e w' => e = .returned (.tuple #[.string ⟨#[]⟩, .int .i64 21]) ∧ w' = w := by
  go_enter Try.func10, Try.ntmps10
  go_wp2_with (go_at_call 18; refine (ready_nil _ _).mono ?_; rintro e w' ⟨rfl, rfl⟩)
  go_ret2
  exact ⟨rfl, rfl⟩
set_option maxHeartbeats 4000000 in
theorem write_nil (a : Int) (s : ByteArray) (w : World) :
    Calls Try.prog 8 #[.pointer none, .int .i64 a, .string s] w fun e w' => e = .returned (.int .i64 21) ∧ w' = w := by
  go_enter Try.func8, Try.ntmps8
  go_wp2_with (go_at_call 18; refine (ready_nil _ _).mono ?_; rintro e w' ⟨rfl, rfl⟩)
  go_ret
  exact ⟨rfl, rfl⟩
set_option maxHeartbeats 4000000 in
theorem write_zero (d : Nat) (a : Int) (s : ByteArray) (w : World) (hd : Blk w d 36 #[.slice none 0 0, .map none, .int .i64 0, .bool false]) :
    Calls Try.prog 8 #[.pointer (some ⟨d, 0, none⟩), .int .i64 a, .string s] w fun e w' => e = .returned (.int .i64 21) ∧ w' = w := by
  go_enter Try.func8, Try.ntmps8
  go_wp2_with (go_at_call 18; refine (ready_zero d _ _ hd).mono ?_; rintro e w' ⟨rfl, rfl⟩)
  go_ret
  exact ⟨rfl, rfl⟩
end Go.Proofs.Ytmjhomhganaceaa
