/-
  The walk of Copy: a disk apart. Conditions: the disk's memory.
-/
import Derived.Test.YtmjhomhganaceaaDkNew
import Derived.Shelf.SlMaps.Clone
namespace Go.Proofs.Ytmjhomhganaceaa
set_option linter.unusedVariables false
set_option linter.unusedSimpArgs false
open Go.RowKit Go.Maps Go.Sort

set_option maxHeartbeats 2000000 in
theorem clone_any (b k : Nat) (D : DataW Unit) (w : World) (hown : w.ownsMap Try.prog 3 (plainElem Try.prog 3) b k D) :
    Calls Try.prog 19 #[.map (some b)] w fun e w' =>
      e = .returned (.map (some w.heap.size)) ∧ w'.ownsMap Try.prog 3 (plainElem Try.prog 3) w.heap.size k D ∧ Below w.heap.size w w' ∧ w.heap.size < w'.heap.size := by
  have hlt := hown.lt
  obtain ⟨es, clock, hb, F, hs, hD⟩ := hown
  have hq := fun w => run_eql_map_nil_sl (P := Try.prog) w 34 _ _ (some b) Try.underlying34
  go_enter Try.func19, Try.ntmps19
  go_wp2_with fail
  rw [run_callFunc_extern Try.func20 (by kernel_rfl) (by kernel_rfl) (by kernel_rfl) (e := Extern.MapsClone.clone) (by kernel_rfl), run_maps_clone_sl w 34 hb]
  simp only [Result.andThen]
  rw [Oper.upon_value]
  go_wp2_with fail
  rw [run_typeAssert_map_sl _ 34 20 _ _ _ Try.underlying34]
  simp only [Result.andThen]
  rw [Oper.upon_value]
  go_wp2_with fail
  go_ret
  exact ⟨rfl, ⟨es, clock, (MapKept.heap_alloc w _).1, F, hs, hD⟩, (Below.refl _ w).alloc (Nat.le_refl _) _, by simp⟩

theorem neq_blocks (a : Option Addr) (n c : Nat) (w : World) : (binOp .neq 33 (.slice a n c) (.slice none 0 0)).run Try.prog w = .ok (.bool (!a.isNone)) w := run_neq_slice_nil_any w _ _ a n c 0 0 Try.underlying33
theorem infoArr1 : (Try.prog.info? 54).map (·.size) = some 128 := by kernel_rfl
set_option maxHeartbeats 4000000 in
set_option maxRecDepth 100000 in
theorem copy_any (d g m n : Nat) (F : List UInt8) (cf : Int → Option Nat) (wr : Nat) (dn : Bool) (w : World) (h : DiskAt d g m n F cf wr dn w) (hn : n ≤ 4096) :
    Calls Try.prog 11 #[.pointer (some ⟨d, 0, none⟩)] w fun e w' =>
      ∃ d' g' m', e = .returned (.pointer (some ⟨d', 0, none⟩)) ∧ w.heap.size ≤ d' ∧ w.heap.size ≤ g' ∧ w.heap.size ≤ m' ∧ DiskAt d' g' m' n F cf wr dn w' ∧ Below w.heap.size w w' := by
  obtain ⟨k, D, hgd, hF, hd, hg, hm, hc⟩ := h
  have hdl := hd.lt
  have hgl := hg.lt
  have hml := hm.lt
  have hq := neq_blocks (some ⟨g, 0, none⟩) n n
  simp only [Option.isNone_some] at hq
  have hmk := make_disk n (hn := hn)
  have c0 : w.cell? ⟨d, 0, none⟩ = some (.slice (some ⟨g, 0, none⟩) n n) := hd.cell 0
  have c1 : w.cell? ⟨d, 1, none⟩ = some (.map (some m)) := hd.cell 1
  have c2 : w.cell? ⟨d, 2, none⟩ = some (.int .i64 wr) := hd.cell 2
  have c3 : w.cell? ⟨d, 3, none⟩ = some (.bool dn) := hd.cell 3
  go_enter Try.func11, Try.ntmps11
  go_wp2_with fail
  have n1 : Blk (w.alloc (.cells #[.slice (some ⟨g, 0, none⟩) n n, .map (some m), .int .i64 wr, .bool dn] 36)) w.heap.size 36 (diskV g n m wr dn) := Blk.new w _ _
  have d1 := hd.alloc (.cells #[.slice (some ⟨g, 0, none⟩) n n, .map (some m), .int .i64 wr, .bool dn] 36)
  have g1 := hg.alloc (.cells #[.slice (some ⟨g, 0, none⟩) n n, .map (some m), .int .i64 wr, .bool dn] 36)
  have m1 := hm.alloc (.cells #[.slice (some ⟨g, 0, none⟩) n n, .map (some m), .int .i64 wr, .bool dn] 36)
  have b1 : Below w.heap.size w (w.alloc (.cells #[.slice (some ⟨g, 0, none⟩) n n, .map (some m), .int .i64 wr, .bool dn] 36)) := (Below.refl _ _).alloc (Nat.le_refl _) _
  have s1 : (w.alloc (.cells #[.slice (some ⟨g, 0, none⟩) n n, .map (some m), .int .i64 wr, .bool dn] 36)).heap.size = w.heap.size + 1 := by simp
  generalize w.alloc (.cells #[.slice (some ⟨g, 0, none⟩) n n, .map (some m), .int .i64 wr, .bool dn] 36) = w1 at *
  obtain ⟨N, hN⟩ : ∃ N, w.heap.size = N := ⟨_, rfl⟩
  rw [hN] at n1 b1 s1 hdl hgl hml
  rw [hN]
  refine (clone_any m k D w1 m1).mono ?_
  rintro e w2 ⟨rfl, m2, b2, s2⟩
  rw [s1] at m2 s2
  rw [s1]
  have n2 := n1.below b2 n1.lt
  have d2 := d1.below b2 d1.lt
  have g2 := g1.below b2 g1.lt
  have hb2 : Below N w w2 := b1.trans (b2.mono (by omega))
  have x0 : w2.cell? ⟨N, 0, none⟩ = some (.slice (some ⟨g, 0, none⟩) n n) := n2.cell 0
  have x1 : w2.cell? ⟨N, 1, none⟩ = some (.map (some m)) := n2.cell 1
  have x2 := n2.frozen 1
  have y0 : w2.cell? ⟨d, 0, none⟩ = some (.slice (some ⟨g, 0, none⟩) n n) := d2.cell 0
  have hdN : d ≠ N := by omega
  have hdN' : N ≠ d := by omega
  have hN2 : N < w2.heap.size := by omega
  have hd2 : d < w2.heap.size := d2.lt
  have x3 := n2.frozen 0
  clear c0 c1 c2 c3 n1 d1 g1 m1 b1 s1 b2 hd hg hm
  go_wp2_with fail
  obtain ⟨G, hG⟩ : ∃ G, w2.heap.size = G := ⟨_, rfl⟩
  have n3 : Blk ((w2.setCell ⟨N, 1, none⟩ (.map (some (N + 1)))).setCell ⟨N, 0, none⟩ (.slice (some ⟨w2.heap.size, 0, none⟩) n n)) N 36 (diskV w2.heap.size n (N + 1) wr dn) := by
    have := (n2.set_ 1 (.map (some (N + 1)))).set_ 0 (.slice (some ⟨w2.heap.size, 0, none⟩) n n)
    simpa [diskV] using this
  have d3 := (d2.far (p := ⟨N, 1, none⟩) (by simpa using hdN) (.map (some (N + 1)))).far (p := ⟨N, 0, none⟩) (by simpa using hdN) (.slice (some ⟨w2.heap.size, 0, none⟩) n n)
  have g3 := (g2.far (p := ⟨N, 1, none⟩) (by show g ≠ N; omega) (.map (some (N + 1)))).far (p := ⟨N, 0, none⟩) (by show g ≠ N; omega) (.slice (some ⟨w2.heap.size, 0, none⟩) n n)
  have m3 := (m2.setCell (a := ⟨N, 1, none⟩) (by show N + 1 ≠ N; omega) (.map (some (N + 1)))).setCell (a := ⟨N, 0, none⟩) (by show N + 1 ≠ N; omega) (.slice (some ⟨w2.heap.size, 0, none⟩) n n)
  have b3 : Below N w ((w2.setCell ⟨N, 1, none⟩ (.map (some (N + 1)))).setCell ⟨N, 0, none⟩ (.slice (some ⟨w2.heap.size, 0, none⟩) n n)) := (hb2.setCell (Nat.le_refl _) _).setCell (Nat.le_refl _) _
  have s3 : ((w2.setCell ⟨N, 1, none⟩ (.map (some (N + 1)))).setCell ⟨N, 0, none⟩ (.slice (some ⟨w2.heap.size, 0, none⟩) n n)).heap.size = G := by simpa [World.setCell] using hG
  rw [hG] at n3 d3 g3 m3 b3 s3
  rw [hG]
  generalize (w2.setCell ⟨N, 1, none⟩ (.map (some (N + 1)))).setCell ⟨N, 0, none⟩ (.slice (some ⟨G, 0, none⟩) n n) = w3 at *
  have n4 := n3.alloc (.cells (byteCells (noB n)).toArray 54)
  have d4 := d3.alloc (.cells (byteCells (noB n)).toArray 54)
  have g4 := g3.alloc (.cells (byteCells (noB n)).toArray 54)
  have m4 := m3.alloc (.cells (byteCells (noB n)).toArray 54)
  have b4 := b3.alloc (o := .cells (byteCells (noB n)).toArray 54) (by omega)
  have e4 := Blk.new w3 54 (byteCells (noB n)).toArray
  rw [s3] at e4
  generalize w3.alloc (.cells (byteCells (noB n)).toArray 54) = w4 at *
  have x4 : w4.cell? ⟨N, 0, none⟩ = some (.slice (some ⟨G, 0, none⟩) n n) := n4.cell 0
  have y4 : w4.cell? ⟨d, 0, none⟩ = some (.slice (some ⟨g, 0, none⟩) n n) := d4.cell 0
  clear x0 x1 x2 x3 y0 n3 d3 g3 m3 b3 n2 d2 g2 m2 hb2
  refine wp_region_still_tail 6 (by kernel_rfl) (by kernel_rfl) ?_
  simp only [List.take_succ_cons, List.take_zero, List.drop_succ_cons, List.drop_zero]
  repeat still_step
  refine wpStill_nil ?_
  change wpList _ _ _ _ _ w4.drew
  go_wp2_with fail
  rw [run_copy_all w4.drew _ _ _ 54 G n ⟨g, 0, none⟩ n n 128 (byteCells (noB n)).toArray 54 (byteCells F) Try.underlying33 infoArr1 e4.drew (by rw [byteCells_len, hF]) (fun j v hj => by
    rw [add_lit0, Nat.zero_add]
    exact (g4.drew.cell j).trans (by rw [List.getElem?_toArray]; exact hj)) (by rw [byteCells_len, hF]; simp [byteCells, noB]) (byteCells_one _)]
  simp only [Result.andThen]
  rw [Oper.upon_value]
  have ho := (Only.refl [G] w4.drew).setRow (g := G) (by simp) (byteCells F).toArray
  have n5 := n4.drew.only ho (by simp; omega)
  have m5 := map_only (show w4.drew.ownsMap Try.prog 3 (plainElem Try.prog 3) (N + 1) k D from m4) ho (by simp; omega)
  have e5 : Blk (w4.drew.setRow G (byteCells F).toArray) G 54 (byteCells F).toArray := setRow_heap _ G _ _ _ _ e4.drew
  have b5 : Below N w (w4.drew.setRow G (byteCells F).toArray) := below_setRow b4.drew (by omega) _
  generalize w4.drew.setRow G (byteCells F).toArray = w5 at *
  go_wp2_with fail
  go_ret
  rw [← hN] at *
  exact ⟨_, _, _, rfl, by omega, by omega, by omega, ⟨k, D, by omega, hF, n5, e5, m5, hc⟩, b5⟩
theorem copy_nil (w : World) :
    Calls Try.prog 11 #[.pointer none] w fun e w' => e = .returned (.pointer none) ∧ w' = w := by
  go_enter Try.func11, Try.ntmps11
  go_wp2_with fail
  go_ret
  exact ⟨rfl, rfl⟩
end Go.Proofs.Ytmjhomhganaceaa
