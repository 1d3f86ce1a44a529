/-
  The walk of the reference's New. Conditions: none.
-/
import Derived.Test.YtmjhomhganaceaaDkRef
namespace Go.Proofs.Ytmjhomhganaceaa
set_option linter.unusedVariables false
set_option linter.unusedSimpArgs false
open Go.RowKit Go.Maps Go.Sort

theorem infoStr : (Try.prog.info? 9).map (fun i => (i.zero, i.size, i.bytes)) = some (some (.string ⟨#[]⟩), 1, 16) := by kernel_rfl
theorem strAt_own {w : World} {B n : Nat} {v : Value} {bs : List ByteArray} (h : w.ownsRow B 9 1 v n (bs.map Value.string)) (hn : 1 ≤ n) : StrAt w v n bs := by
  have hl : bs.length = n := by have := h.1; simpa using this
  rcases h.2 with ⟨_, h0⟩ | ⟨g, cap, cur, rfl, _, hg, hnc, _, hcs, htake⟩
  · omega
  · refine ⟨hl, g, cap, cur, rfl, hnc, hg, ?_⟩
    simpa using htake

theorem own_ge {w : World} {B : Nat} {e : TypeId} {size n j : Nat} {v : Value} {xs : List Value} (h : w.ownsRow B e size v n xs) (hj : v.ownBlock = some j) : B ≤ j := by
  rcases h.2 with ⟨rfl, _⟩ | ⟨g, cap, cur, rfl, hBg, _⟩
  · simp [Value.ownBlock] at hj
  · have : g = j := by simpa [Value.ownBlock] using hj
    omega
theorem grown_set (w : World) (a : Addr) (u : Value) : w.grownBy (w.setCell a u) (some a.block) :=
  ⟨rfl, rfl, rfl, by simp, fun k _ hk => heap_setCell_other w a k u (fun e => hk (by simp [e]))⟩
set_option maxHeartbeats 4000000 in
set_option maxRecDepth 100000 in
theorem refnew_any (n : Nat) (A : Option Addr) (lenA capA : Nat) (w : World) (hn1 : 1 ≤ n) (hn : n ≤ 4096) :
    Calls Try.prog 13 #[.int .i64 n, .slice A lenA capA] w fun e w' =>
      ∃ v, e = .returned (.agg #[v, .slice A lenA capA, .int .i64 0, .bool false]) ∧ StrAt w' v n (List.replicate n (txt (zeros 128))) ∧ Below w.heap.size w w' := by
  have hmk : ∀ w, (Instr.makeSlice 51 (.int .i64 128) (.int .i64 128)).run Try.prog w = .ok (.slice (some ⟨w.heap.size, 0, none⟩) 128 128) (w.alloc (.cells (byteCells (zeros 128)).toArray 5)) := make_row 128 (by omega)
  have hcv := conv_new (n := 128) (c := 128) (l := zeros 128) (hn := by simp [zeros])
  obtain ⟨i0, hi, hz0, hz1, hz2⟩ := info_parts infoStr
  generalize txt (zeros 128) = Z at *
  go_enter Try.func13, Try.ntmps13
  go_wp2_with fail
  obtain ⟨B, hB⟩ : ∃ B, w.heap.size = B := ⟨_, rfl⟩
  have t4 := (Blk.new w 44 #[.slice none 0 0, .slice none 0 0, .int .i64 0, .bool false]).alloc (.cells #[.slice none 0 0, .slice none 0 0, .int .i64 0, .bool false] 44)
  have t5 := Blk.new (w.alloc (.cells #[.slice none 0 0, .slice none 0 0, .int .i64 0, .bool false] 44)) 44 #[.slice none 0 0, .slice none 0 0, .int .i64 0, .bool false]
  have b0 : Below w.heap.size w ((w.alloc (.cells #[.slice none 0 0, .slice none 0 0, .int .i64 0, .bool false] 44)).alloc (.cells #[.slice none 0 0, .slice none 0 0, .int .i64 0, .bool false] 44)) := ((Below.refl _ _).alloc (Nat.le_refl _) _).alloc (by simp) _
  have e5 : (w.alloc (.cells #[.slice none 0 0, .slice none 0 0, .int .i64 0, .bool false] 44)).heap.size = w.heap.size + 1 := by simp
  have e6 : ((w.alloc (.cells #[.slice none 0 0, .slice none 0 0, .int .i64 0, .bool false] 44)).alloc (.cells #[.slice none 0 0, .slice none 0 0, .int .i64 0, .bool false] 44)).heap.size = w.heap.size + 2 := by simp
  rw [e5] at t5
  generalize (w.alloc (.cells #[.slice none 0 0, .slice none 0 0, .int .i64 0, .bool false] 44)).alloc (.cells #[.slice none 0 0, .slice none 0 0, .int .i64 0, .bool false] 44) = w0 at *
  rw [hB] at t4 t5 b0 e6
  rw [hB]
  clear e5
  go_loopw [6] (fun c wr => ∃ (k : Nat) (Av : Option Addr) (cv : Nat), k ≤ n ∧ c = .int .i64 k ∧ Blk wr B 44 #[.slice none 0 0, .slice none 0 0, .int .i64 0, .bool false] ∧ Blk wr (B + 1) 44 #[.slice Av k cv, .slice none 0 0, .int .i64 0, .bool false] ∧
      wr.ownsRow B 9 1 (.slice Av k cv) k ((List.replicate k Z).map Value.string) ∧ Below B w wr ∧ B + 2 ≤ wr.heap.size) (fun c _ => n - (intOf c).toNat)
  case atStart => exact ⟨0, _, _, by omega, rfl, t4, t5, World.ownsRow_nil _ _ _ _, b0, by omega⟩
  case round =>
    obtain ⟨k, Av, cv, hk, rfl, h4, h5, hown, hb, hz⟩ := hrel
    by_cases hlt : k < n
    · have c0 : wr.cell? ⟨B + 1, 0, none⟩ = some (.slice Av k cv) := h5.cell 0
      have f0 := h5.frozen 0
      have hlt5 : B + 1 < wr.heap.size := by omega
      have hv5 := own_blk_ne hown h5 (by decide)
      have hv4 := own_blk_ne hown h4 (by decide)
      have hown2 := (hown.alloc (.cells (byteCells (zeros 128)).toArray 5)).alloc (.cells #[.string Z] 9)
      go_wp2_with (at_builtin; refine wpList_append_own _ rfl _ _ 42 rfl B 9 i0 (.string ⟨#[]⟩) 1 16 Try.underlying42 hi hz0 hz1 hz2 rfl (by decide) _ _ _ rfl hown2 ⟨wr.heap.size + 1, 0, none⟩ 1 1 [.string Z] rfl rfl (by
        have := one_new (w := wr.alloc (.cells (byteCells (zeros 128)).toArray 5)) (v := .string Z) (t := 9)
        simpa using this) (fun u hu => by simp at hu; subst hu; rfl) (by unfold maxLen; omega) (by omega) (by simp; omega) ?_; intro v' w5 hown5 hgrow5 _; obtain ⟨g5, cap5, rfl, hB5, hlt5'⟩ := hown5.form (by omega); have h55 := ((h5.alloc (.cells (byteCells (zeros 128)).toArray 5)).alloc (.cells #[.string Z] 9)).grown hgrow5 (fun e => hv5 e.symm); have c55 : w5.cell? ⟨B + 1, 0, none⟩ = some (.slice Av k cv) := h55.cell 0; have f55 := h55.frozen 0)
      have h45 := ((h4.alloc (.cells (byteCells (zeros 128)).toArray 5)).alloc (.cells #[.string Z] 9)).grown hgrow5 (fun e => hv4 e.symm)
      have hne := own_blk_ne hown5 h55 (by decide)
      have b5 := ((hb.alloc (o := .cells (byteCells (zeros 128)).toArray 5) (by omega)).alloc (o := .cells #[.string Z] 9) (by simp; omega)).grown hgrow5 (by simp; omega) (fun j e => own_ge hown (show (Value.slice Av k cv).ownBlock = some j from e))
      have s5 := hgrow5.size
      simp at s5
      refine ⟨⟨k + 1, _, cap5, by omega, by go_num, h45.far (by simp) _, by simpa using h55.set_ 0 _, ?_, b5.setCell (by simp) _, by simp [World.setCell]; omega⟩, by simp [intOf]; omega⟩
      have e1 : (List.replicate (k + 1) Z).map Value.string = (List.replicate k Z).map Value.string ++ [.string Z] := by rw [List.replicate_succ']; simp
      rw [e1]
      exact hown5.kept (grown_set _ _ _) (.inr hne)
    · obtain rfl : k = n := by omega
      have c0 : wr.cell? ⟨B + 1, 0, none⟩ = some (.slice Av k cv) := h5.cell 0
      have c1 : wr.cell? ⟨B + 1, 1, none⟩ = some (.slice none 0 0) := h5.cell 1
      have c2 : wr.cell? ⟨B + 1, 2, none⟩ = some (.int .i64 0) := h5.cell 2
      have c3 : wr.cell? ⟨B + 1, 3, none⟩ = some (.bool false) := h5.cell 3
      have f1 := h5.frozen 1
      have y0 : wr.cell? ⟨B, 0, none⟩ = some (.slice none 0 0) := h4.cell 0
      have y1 : wr.cell? ⟨B, 1, none⟩ = some (.slice none 0 0) := h4.cell 1
      have y2 : wr.cell? ⟨B, 2, none⟩ = some (.int .i64 0) := h4.cell 2
      have y3 : wr.cell? ⟨B, 3, none⟩ = some (.bool false) := h4.cell 3
      have z0 := h4.frozen 0
      have z1 := h4.frozen 1
      have z2 := h4.frozen 2
      have z3 := h4.frozen 3
      go_wp2_with fail
      have ho : Only [B, B + 1] wr (((((wr.setCell ⟨B + 1, 1, none⟩ (.slice A lenA capA)).setCell ⟨B, 0, none⟩ (.slice Av k cv)).setCell ⟨B, 1, none⟩ (.slice A lenA capA)).setCell ⟨B, 2, none⟩ (.int .i64 0)).setCell ⟨B, 3, none⟩ (.bool false)) :=
        (((((Only.refl _ wr).setCell (by simp) _).setCell (by simp) _).setCell (by simp) _).setCell (by simp) _).setCell (by simp) _
      have hst := (strAt_own hown hn1).only ho (fun g cs hm hb9 => by
        simp at hm
        rcases hm with rfl | rfl
        · exact Blk.ne_ hb9 h4 (by decide) rfl
        · exact Blk.ne_ hb9 h5 (by decide) rfl)
      have hb6 := hb.trans (ho.below (by omega) (fun g hm => by simp at hm; omega))
      have r4 : Blk (((((wr.setCell ⟨B + 1, 1, none⟩ (.slice A lenA capA)).setCell ⟨B, 0, none⟩ (.slice Av k cv)).setCell ⟨B, 1, none⟩ (.slice A lenA capA)).setCell ⟨B, 2, none⟩ (.int .i64 0)).setCell ⟨B, 3, none⟩ (.bool false)) B 44 #[.slice Av k cv, .slice A lenA capA, .int .i64 0, .bool false] := by
        have := ((((h4.far (p := ⟨B + 1, 1, none⟩) (by simp) (.slice A lenA capA)).set_ 0 (.slice Av k cv)).set_ 1 (.slice A lenA capA)).set_ 2 (.int .i64 0)).set_ 3 (.bool false)
        simpa using this
      generalize ((((wr.setCell ⟨B + 1, 1, none⟩ (.slice A lenA capA)).setCell ⟨B, 0, none⟩ (.slice Av k cv)).setCell ⟨B, 1, none⟩ (.slice A lenA capA)).setCell ⟨B, 2, none⟩ (.int .i64 0)).setCell ⟨B, 3, none⟩ (.bool false) = w6 at *
      have v0 : w6.cell? ⟨B, 0, none⟩ = some (.slice Av k cv) := r4.cell 0
      have v1 : w6.cell? ⟨B, 1, none⟩ = some (.slice A lenA capA) := r4.cell 1
      have v2 : w6.cell? ⟨B, 2, none⟩ = some (.int .i64 0) := r4.cell 2
      have v3 : w6.cell? ⟨B, 3, none⟩ = some (.bool false) := r4.cell 3
      refine bodyPost_ret (v := .agg #[.slice Av k cv, .slice A lenA capA, .int .i64 0, .bool false]) (by simp [results, Try.results13, go_sem, v0, v1, v2, v3]) rfl ?_
      rw [hB]
      exact ⟨_, rfl, hst, hb6⟩
end Go.Proofs.Ytmjhomhganaceaa
