/-
  The contracts of the two closures that tell keys. Conditions: what they captured.
-/
import Derived.Test.YtcajlldecdjdlaaBlNumber
import Derived.StillTailTactics
namespace Go.Proofs.Ytcajlldecdjdlaa
set_option linter.unusedVariables false
open Go.RowKit Go.Maps Go.Sort

theorem has_nat (s : Nat → Int) (k : Nat) (B : Bool) (w : World) (hk : k < 256) (hs : SetIn s) (hB : hasS s k = B) :
    Calls Try.prog 19 #[.agg #[.int .u64 (s 0), .int .u64 (s 1), .int .u64 (s 2), .int .u64 (s 3)], .int .u8 k] w fun e w' => e = .returned (.bool B) ∧ Below w.heap.size w w' := by
  subst hB; exact has_any s k w (by omega) (by omega) hs
theorem refhas_nat (s : Nat → Int) (k : Nat) (B : Bool) (w : World) (hk : k < 256) (hs : SetIn s) (hB : hasS s k = B) :
    Calls Try.prog 22 #[.agg #[.int .u64 (s 0), .int .u64 (s 1), .int .u64 (s 2), .int .u64 (s 3)], .int .i64 k] w fun e w' => e = .returned (.bool B) ∧ Below w.heap.size w w' := by
  subst hB; exact refhas_any s k w (by omega) (by omega) hs

def bitI (b : Bool) : Int := if b then 1 else 0

set_option maxHeartbeats 1000000 in
set_option maxRecDepth 100000 in
theorem ofkey_any (s : Nat → Int) (hs : SetIn s) (S O g : Nat) (k : Nat) (hk : k < 256) (z : Int) (W : World)
    (hS : ∀ i, W.cell? ⟨S, i, none⟩ = (#[Value.int .u64 (s 0), .int .u64 (s 1), .int .u64 (s 2), .int .u64 (s 3)] : Array Value)[i]?)
    (hO : W.cell? ⟨O, 0, none⟩ = some (.slice (some ⟨g, 0, none⟩) 256 256)) (hz : W.cell? ⟨g, k, none⟩ = some (.int .i64 z)) (lS : S < W.heap.size) (lO : O < W.heap.size) (lg : g < W.heap.size) :
    Calls Try.prog 18 #[.int .i64 k, .pointer (some ⟨S, 0, none⟩), .pointer (some ⟨O, 0, none⟩)] W fun e W' => e = .returned (pairV (z, bitI (hasS s k))) ∧ Below W.heap.size W W' := by
  obtain ⟨B, hB⟩ : ∃ B, hasS s k = B := ⟨_, rfl⟩
  have hk' : (k : Int) < 256 := by omega
  have EB := Lib.hid hB
  clear hB
  go_enter Try.func18, Try.ntmps18
  go_wp2_with fail
  refine (has_nat s k B _ hk hs EB.out).mono ?_
  rintro e w1 ⟨rfl, b1⟩
  obtain ⟨k1, k2⟩ := bcell b1
  have hO1 : w1.cell? ⟨O, 0, none⟩ = some (.slice (some ⟨g, 0, none⟩) 256 256) := by rw [k1 _ _ (by simp; omega)]; go_simp
  have hz1 : w1.cell? ⟨g, k, none⟩ = some (.int .i64 z) := by rw [k1 _ _ (by simp; omega)]; go_simp
  have r0 := keepB b1 (newB W _ _) (by simp)
  have r1 := keepF b1 (newF W #[Value.int .i64 0, .int .i64 0] 38) (by simp)
  have B1 : Below W.heap.size W w1 := (Below.alloc (Below.refl _ _) (by omega) _).trans (b1.mono (by simp))
  have z1 : W.heap.size < w1.heap.size := by have := b1.size; simp at this; omega
  have BB : B = true ∨ B = false := by cases B <;> simp
  clear k1 k2 b1
  rcases BB with rfl | rfl
  all_goals
    go_wp2_with fail
    refine bodyPost_ret (v := pairV (z, bitI (hasS s k))) (by rw [EB.out]; simp [results, Try.results18, go_sem, pairV, bitI, r0]) rfl ⟨rfl, ?_⟩
    repeat (first | exact B1 | refine Below.setCell ?_ (by simp) _ | refine Below.alloc ?_ (by simp; omega) _)

set_option maxHeartbeats 1000000 in
set_option maxRecDepth 100000 in
theorem meetkey_any (A B ga oa gb ob la ca lb cb : Nat) (k : Nat) (hk : k < 256) (y z : Int) (W : World) (h1 : la = 256) (h2 : lb = 256)
    (hA : W.cell? ⟨A, 0, none⟩ = some (.slice (some ⟨ga, oa, none⟩) la ca)) (hB : W.cell? ⟨B, 0, none⟩ = some (.slice (some ⟨gb, ob, none⟩) lb cb))
    (hy : W.cell? ⟨ga, oa + k, none⟩ = some (.int .i64 y)) (hz : W.cell? ⟨gb, ob + k, none⟩ = some (.int .i64 z)) (lA : A < W.heap.size) (lB : B < W.heap.size) (lga : ga < W.heap.size) (lgb : gb < W.heap.size) :
    Calls Try.prog 21 #[.int .i64 k, .pointer (some ⟨A, 0, none⟩), .pointer (some ⟨B, 0, none⟩)] W fun e W' => e = .returned (pairV (y, z)) ∧ Below W.heap.size W W' := by
  have hk' : (k : Int) < 256 := by omega
  subst h1 h2
  go_enter Try.func21, Try.ntmps21
  go_wp2_with fail
  have a1 : (W.alloc (.cells #[.int .i64 0, .int .i64 0] 38)).cell? ⟨A, 0, none⟩ = some (.slice (some ⟨ga, oa, none⟩) 256 ca) := by go_simp
  have a2 : (W.alloc (.cells #[.int .i64 0, .int .i64 0] 38)).cell? ⟨B, 0, none⟩ = some (.slice (some ⟨gb, ob, none⟩) 256 cb) := by go_simp
  have a3 : (W.alloc (.cells #[.int .i64 0, .int .i64 0] 38)).cell? ⟨ga, oa + k, none⟩ = some (.int .i64 y) := by go_simp
  have a4 : (W.alloc (.cells #[.int .i64 0, .int .i64 0] 38)).cell? ⟨gb, ob + k, none⟩ = some (.int .i64 z) := by go_simp
  have r0 := newB W #[.int .i64 0, .int .i64 0] 38
  have r1 := newF W #[.int .i64 0, .int .i64 0] 38
  have hb : Below W.heap.size W (W.alloc (.cells #[.int .i64 0, .int .i64 0] 38)) := Below.alloc (Below.refl _ _) (by omega) _
  generalize W.alloc (.cells #[.int .i64 0, .int .i64 0] 38) = w1 at *
  refine wp_region_still_tail 9 (by kernel_rfl) (by kernel_rfl) ?_
  simp only [List.take_succ_cons, List.take_zero, List.drop_succ_cons, List.drop_zero]
  repeat still_step
  refine wpStill_nil ?_
  change wpList _ _ _ _ _ w1.drew
  go_wp2_with fail
  refine bodyPost_ret (v := pairV (y, z)) (by simp [results, Try.results21, go_sem, pairV, r0]) rfl ⟨rfl, ?_⟩
  repeat (first | exact hb | refine Below.setCell ?_ (by simp) _ | refine Below.drew ?_)
end Go.Proofs.Ytcajlldecdjdlaa
