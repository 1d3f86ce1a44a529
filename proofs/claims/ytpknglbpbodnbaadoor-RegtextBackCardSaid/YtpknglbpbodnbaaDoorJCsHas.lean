/-
  The contracts of Has of package charset and of its reference. Conditions: none but what each says.
-/
import Derived.Test.YtpknglbpbodnbaaDoorRows
import Derived.Test.YtpknglbpbodnbaaDoorJCsOr
import Derived.Lib.Zigzag
namespace Go.Proofs.YtpknglbpbodnbaaDoor
set_option linter.unusedVariables false
open Go.RowKit Cs

set_option maxHeartbeats 1000000 in
set_option maxRecDepth 100000 in
theorem has_any (s : Nat → Int) (b : Int) (w : World) (h0 : 0 ≤ b) (h1 : b < 256) (hs : SetIn s) :
    Calls Tryd.prog 31 #[setV s, .int .u8 b] w fun e w' => e = .returned (.bool (hasS s b.toNat)) ∧ Below w.heap.size w w' := by
  obtain ⟨q, hq, hq'⟩ : ∃ q, b / 64 = q ∧ (q = 0 ∨ q = 1 ∨ q = 2 ∨ q = 3) := ⟨b / 64, rfl, by omega⟩
  obtain ⟨r, hr⟩ : ∃ r, b % 64 = r := ⟨_, rfl⟩
  have hr0 : 0 ≤ r := by omega
  have hr1 : r < 64 := by omega
  obtain ⟨x, hx⟩ : ∃ x, s q.toNat = x := ⟨_, rfl⟩
  have hres : hasS s b.toNat = decide (x / 2 ^ r.toNat % 2 = 1) := by
    have e1 : b.toNat / 64 = q.toNat := by omega
    have e2 : b.toNat % 64 = r.toNat := by omega
    unfold hasS
    rw [e1, e2, hx]
  rw [hres]
  have hxr := hs q.toNat
  rw [hx] at hxr
  clear hres
  unfold setV
  have hy : bits .and .u64 (x / 2 ^ r.toNat) 1 = x / 2 ^ r.toNat % 2 := by
    have h2 : (0 : Int) < 2 ^ r.toNat := Int.pow_pos (by omega)
    refine Lib.u64_and1 _ (Int.ediv_nonneg hxr.1 (by omega)) (Int.lt_of_le_of_lt (Int.ediv_le_self _ hxr.1) hxr.2)
  rcases hq' with rfl | rfl | rfl | rfl
  all_goals simp at hx
  all_goals
    have hX := Lib.hid hx
    rw [hx]
    clear hx
    go_enter Tryd.func31, Tryd.ntmps31
    go_wp2_with fail
    go_ret
    refine ⟨rfl, ?_⟩
    repeat (first | exact Below.refl _ _ | refine Below.alloc ?_ (by simp) _)

theorem half_on (x : Int) (k : Nat) : x / 2 ^ k / 2 = x / 2 ^ (k + 1) := by
  rw [Int.pow_succ, Int.ediv_ediv_of_nonneg (Int.le_of_lt (Int.pow_pos (by omega)))]

set_option maxHeartbeats 1000000 in
set_option maxRecDepth 100000 in
theorem refhas_any (s : Nat → Int) (b : Int) (w : World) (h0 : 0 ≤ b) (h1 : b < 256) (hs : SetIn s) :
    Calls Tryd.prog 33 #[setV s, .int .i64 b] w fun e w' => e = .returned (.bool (hasS s b.toNat)) ∧ Below w.heap.size w w' := by
  obtain ⟨q, hq, hq'⟩ : ∃ q, b / 64 = q ∧ (q = 0 ∨ q = 1 ∨ q = 2 ∨ q = 3) := ⟨b / 64, rfl, by omega⟩
  obtain ⟨r, hr⟩ : ∃ r, b % 64 = r := ⟨_, rfl⟩
  have hr0 : 0 ≤ r := by omega
  have hr1 : r < 64 := by omega
  obtain ⟨x, hx⟩ : ∃ x, s q.toNat = x := ⟨_, rfl⟩
  have hres : hasS s b.toNat = decide (x / 2 ^ r.toNat % 2 = 1) := by
    have e1 : b.toNat / 64 = q.toNat := by omega
    have e2 : b.toNat % 64 = r.toNat := by omega
    unfold hasS
    rw [e1, e2, hx]
  rw [hres]
  have hxr := hs q.toNat
  rw [hx] at hxr
  clear hres
  unfold setV
  rcases hq' with rfl | rfl | rfl | rfl
  all_goals simp at hx
  all_goals
    have hX := Lib.hid hx
    rw [hx]
    clear hx
    go_enter Tryd.func33, Tryd.ntmps33
    go_wp2_with fail
    go_loopw [5, 6] (fun y v wr => ∃ k : Nat, (k : Int) ≤ r ∧ y = .int .u64 (x / 2 ^ k) ∧ v = .int .i64 k ∧ Below w.heap.size w wr) (fun y v wr => 64 - (intOf v).toNat)
    case atStart => exact ⟨0, hr0, by simp, rfl, Below.alloc (Below.refl _ _) (by simp) _⟩
    case round =>
      obtain ⟨k, hk, rfl, rfl, hB⟩ := hrel
      obtain ⟨y, hy⟩ : ∃ y, x / 2 ^ k = y := ⟨_, rfl⟩
      have h2 : (0 : Int) < 2 ^ k := Int.pow_pos (by omega)
      have hy0 : 0 ≤ y := by rw [← hy]; exact Int.ediv_nonneg hxr.1 (by omega)
      have hy1 : y < 18446744073709551616 := by rw [← hy]; exact Int.lt_of_le_of_lt (Int.ediv_le_self _ hxr.1) hxr.2
      rw [hy]
      have HY := Lib.hid hy
      clear hy h2
      by_cases hlt : (k : Int) < r
      · go_wp2_with fail
        go_roundw
        case rel => exact ⟨k + 1, by omega, by rw [← half_on, HY.out], by simp, hB⟩
        case measure => simp [intOf]; omega
      · go_wp2_with fail
        go_ret
        have e : r.toNat = k := by omega
        refine ⟨?_, hB⟩
        rw [e, HY.out]
        rfl

theorem or_pow {a : Int} (ha : 0 ≤ a ∧ a < 18446744073709551616) (r : Nat) (hr : r < 64) : bits .or .u64 a (IntKind.u64.wrap (2 ^ r)) = ((a.toNat ||| 2 ^ r : Nat) : Int) := by
  have h1 : (2 : Int) ^ r = ((2 ^ r : Nat) : Int) := by push_cast; rfl
  have h2 := pow64 r hr
  rw [h1]
  generalize 2 ^ r = p at *
  rw [IntWalk.u64_in _ (by omega), or_u64 ha (by omega), Int.toNat_natCast]

set_option maxHeartbeats 1000000 in
set_option maxRecDepth 100000 in
theorem of_any (lo hi : Nat) (w : World) (h0 : lo < 256) (h1 : hi < 256) :
    Calls Tryd.prog 27 #[.int .u8 lo, .int .u8 hi] w fun e w' => e = .returned (setV (ofS lo hi)) ∧ Below w.heap.size w w' := by
  go_enter Tryd.func27, Tryd.ntmps27
  go_wp2_with fail
  have f1 := Four.zero (w.alloc (.cells #[.int .u64 0, .int .u64 0, .int .u64 0, .int .u64 0] 24)) 24
  have f3 := (Four.zero w 24).old (.cells #[.int .u64 0, .int .u64 0, .int .u64 0, .int .u64 0] 24) (by simp)
  have b1 : Below w.heap.size w ((w.alloc (.cells #[.int .u64 0, .int .u64 0, .int .u64 0, .int .u64 0] 24)).alloc (.cells #[.int .u64 0, .int .u64 0, .int .u64 0, .int .u64 0] 24)) :=
    ((Below.refl _ _).alloc (Nat.le_refl _) _).alloc (by simp) _
  simp only [World.size_alloc] at f1
  have F1 := Lib.hid f1
  have F3 := Lib.hid f3
  generalize (w.alloc (.cells #[.int .u64 0, .int .u64 0, .int .u64 0, .int .u64 0] 24)).alloc (.cells #[.int .u64 0, .int .u64 0, .int .u64 0, .int .u64 0] 24) = w1 at *
  clear f1 f3
  go_loopw [6] (fun c wr => ∃ n b : Nat, b = lo + n ∧ n ≤ hi + 1 - lo ∧ b ≤ 256 ∧ c = .int .i64 b ∧ Hid (Four wr (w.heap.size + 1) (spanS lo n)) ∧ Hid (Four wr w.heap.size noneS) ∧ Below w.heap.size w wr) (fun c _ => 256 - (intOf c).toNat)
  case atStart => exact ⟨0, lo, rfl, by omega, by omega, rfl, F1, F3, b1⟩
  case round =>
    clear F1 F3 b1
    obtain ⟨n, b, hbn, hn, hb, rfl, G1, G3, hB⟩ := hrel
    have HBN := Lib.hid hbn
    clear hbn
    by_cases hlt : b ≤ hi
    · obtain ⟨q, hq⟩ : ∃ q : Nat, b / 64 = q := ⟨_, rfl⟩
      obtain ⟨r, hr⟩ : ∃ r : Nat, b % 64 = r := ⟨_, rfl⟩
      have hq4 : q < 4 := by omega
      have hr4 : r < 64 := by omega
      have eq1 : (b : Int) / 64 = (q : Int) := by omega
      have er1 : (b : Int).tmod 64 = (r : Int) := by rw [Int.tmod_eq_emod_of_nonneg (by omega)]; omega
      have hd : decide ((b : Int) ≤ hi) = true := by simp; omega
      have hq5 : (q : Int) < 4 := by omega
      have hr5 : (r : Int) < 64 := by omega
      have wq : IntKind.i64.wrap (q : Int) = q := IntWalk.i64_in _ (by omega)
      have wr' : IntKind.i64.wrap (r : Int) = r := IntWalk.i64_in _ (by omega)
      have c1 := G1.out.cell q hq4
      have z1 := G1.out.free q
      have hs1 := spanIn lo n q
      obtain ⟨a, ha⟩ : ∃ a, spanS lo n q = a := ⟨_, rfl⟩
      rw [ha] at c1 hs1
      obtain ⟨v, hv⟩ : ∃ v, bits .or .u64 a (IntKind.u64.wrap (2 ^ r)) = v := ⟨_, rfl⟩
      have hstep : ∀ i, i < 4 → (if i = q then v else spanS lo n i) = spanS lo (n + 1) i := by
        intro i hi
        show _ = addS (spanS lo n) (lo + n) i
        unfold addS
        rw [← HBN.out, hq]
        by_cases e : i = q
        · subst e
          rw [if_pos rfl, if_pos rfl, ← hv, hr, ha]
          exact or_pow hs1 r hr4
        · rw [if_neg e, if_neg e]
      have HS := Lib.hid hstep
      clear ha hq hr hstep
      go_wp2_with fail
      refine wp_region_still_tail 9 (by kernel_rfl) (by kernel_rfl) ?_
      simp only [List.take_succ_cons, List.take_zero, List.drop_succ_cons, List.drop_zero]
      repeat still_step
      refine wpStill_nil ?_
      change wpList _ _ _ _ _ wr.drew
      go_wp2_with fail
      have g1 := G1.out.drew.set v hq4
      have g3 := G3.out.drew.far (g' := w.heap.size + 1) (i := q) (.int .u64 v) (by omega)
      have hB2 : Below w.heap.size w (wr.drew.setCell ⟨w.heap.size + 1, q, none⟩ (.int .u64 v)) := Below.setCell (Below.drew hB) (by show w.heap.size ≤ w.heap.size + 1; omega) _
      go_roundw
      case rel => exact ⟨n + 1, b + 1, by rw [HBN.out]; omega, by have := HBN.out; omega, by omega, by simp, Lib.hid (g1.to HS.out), Lib.hid g3, hB2⟩
      case measure => simp [intOf]; omega
    · have hd : decide ((b : Int) ≤ hi) = false := by simp; omega
      have e : n = hi + 1 - lo := by have := HBN.out; omega
      have g := G1.out
      rw [e, show spanS lo (hi + 1 - lo) = ofS lo hi from rfl] at g
      clear e
      have c0 := g.cell 0 (by omega)
      have c1 := g.cell 1 (by omega)
      have c2 := g.cell 2 (by omega)
      have c3 := g.cell 3 (by omega)
      have r0 := G3.out.cell 0 (by omega)
      have r1 := G3.out.cell 1 (by omega)
      have r2 := G3.out.cell 2 (by omega)
      have r3 := G3.out.cell 3 (by omega)
      have z := G3.out.free
      clear g
      go_wp2_with fail
      refine bodyPost_ret (v := setV (ofS lo hi)) (by simp [results, Tryd.results27, go_sem, setV, r0, r1, r2, r3]) rfl ⟨rfl, ?_⟩
      repeat (first | exact hB | refine Below.setCell ?_ (by simp <;> omega) _)
end Go.Proofs.YtpknglbpbodnbaaDoor
