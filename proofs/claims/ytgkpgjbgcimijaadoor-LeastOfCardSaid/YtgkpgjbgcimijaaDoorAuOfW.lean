/-
  LeastOf: the walk of the law. Conditions: the automaton lies in memory; the table of powers lies as laid.
-/
import Derived.Test.YtgkpgjbgcimijaaDoorAuRefOf
import Derived.Test.YtgkpgjbgcimijaaDoorAuOpenT
namespace Go.Proofs.YtgkpgjbgcimijaaDoor
set_option linter.unusedVariables false
set_option linter.unusedSimpArgs false
open Go.RowKit Go.Maps Go.Sort Go.ChangeShapes Go.WideShapes

structure OneD (w W : World) (va : Array Value) (D : DfaI) : Prop where
  a : DfaAt W (.agg va) D
  qa : Blk W w.heap.size 26 va
  T : Pow10 W
  bl : Below w.heap.size w W
section
variable {w W W' : World} {ca : Array Value} {D : DfaI}
theorem OneD.below (h : OneD w W ca D) (hb : Below W.heap.size W W') : OneD w W' ca D :=
  ⟨h.a.below hb, h.qa.below hb h.qa.lt, h.T.below hb (Nat.le_refl _), h.bl.trans (hb.mono h.bl.size)⟩
theorem OneD.mk_ (ha : DfaAt w (.agg ca) D) (hT : Pow10 w) : OneD w (w.alloc (.cells ca 26)) ca D := by
  have b0 := (Below.refl w.heap.size w).alloc (Nat.le_refl _) (.cells ca 26)
  exact ⟨ha.below b0, Blk.new w 26 _, hT.below b0 (Nat.le_refl _), b0⟩
end
theorem reachD_lt {D : DfaI} (n : Nat) (h : n ∈ reachD D) : n < D.next.length := by
  unfold reachD at h
  split at h
  · rename_i hr
    have hR := rightD_iff.1 hr
    have := ((reachL_mem hR.ok).1 h).lt hR.ok
    have e : D.aut.many = D.next.length := D.nx_len
    omega
  · cases h
set_option maxHeartbeats 8000000 in
set_option maxRecDepth 1000000 in
theorem law_of (va : Value) (D : DfaI) (w : World) (ha : DfaAt w va D) (hD : D.In) (hT : Pow10 w) :
    Calls Tryd.prog 3 #[va] w fun e w' => e = .returned (.bool true) ∧ Below w.heap.size w w' := by
  obtain ⟨S, af, ab, an, F, B, M, cf, cb, cn, hS, hF, hB, hM, rfl⟩ := ha.form
  have hM9 := hD.many
  rw [hM] at hM9
  have HI := Lib.hid (And.intro hD hM)
  have h0 := OneD.mk_ ha hT
  clear ha hT hD hF hB hM hS
  obtain ⟨⟨y0, y1, y2, y3⟩, -⟩ := h0.qa.c4
  have H0 := Lib.hid h0
  clear h0
  go_enter Tryd.func3, Tryd.ntmps3
  go_wp2_with fail
  generalize w.alloc (.cells #[.int .i64 S, .slice af F cf, .slice ab B cb, .slice an M cn] 26) = W at *
  clear y0 y1 y2 y3
  refine (great_any _ D W H0.out.a HI.out.1).mono ?_
  rintro e w1 ⟨rfl, bx⟩
  have H1 := Lib.hid (H0.out.below bx)
  clear bx H0
  obtain ⟨⟨y0, y1, y2, y3⟩, -⟩ := H1.out.qa.c4
  cases hg1 : greatD D with
  | true =>
    clear hg1
    go_wp2_with fail
    refine (works_any w1 H1.out.T).mono ?_
    rintro e w' ⟨rfl, b'⟩
    go_wp2_with fail
    go_ret
    exact ⟨rfl, H1.out.bl.trans (b'.mono H1.out.bl.size)⟩
  | false =>
  by_cases h20 : 20 < M
  · have k1 : decide (20 < (M : Int)) = true := decide_eq_true (by omega)
    go_wp2_with fail
    refine (works_any w1 H1.out.T).mono ?_
    rintro e w' ⟨rfl, b'⟩
    go_wp2_with fail
    go_ret
    exact ⟨rfl, H1.out.bl.trans (b'.mono H1.out.bl.size)⟩
  have k1 : decide (20 < (M : Int)) = false := decide_eq_false (by omega)
  go_wp2_with fail
  refine wp_region_T [] (by kernel_rfl) ?_
  intro W bb
  have lc : ∀ {p : Addr} {v : Value}, w1.cell? p = some v → ∀ d os, (Sort.grow (redrawn W d) os).cell? p = some v := fun {p v} hp d os => ((bb.trans ((below_regrown W d os).mono bb.size)).cell (World.block_lt_of_cell? w1 p hp)).trans hp
  have q0 := lc y0
  have q1 := lc y1
  have q2 := lc y2
  have q3 := lc y3
  clear lc y0 y1 y2 y3
  have bA : Below W.heap.size W W := Below.refl _ _
  have G : OneD w W #[.int .i64 S, .slice af F cf, .slice ab B cb, .slice an M cn] D := H1.out.below bb
  have hRl : (reachD D).length ≤ 9223372036854775807 := by
    have := nodup_sub (reachD D) (List.range M) (by
      unfold reachD
      split
      · exact reachL_nodup _
      · exact List.nodup_nil) fun n hn => by have := reachD_lt n hn; rw [HI.out.2] at this; simpa using this
    simp at this
    omega
  have hRi : (intsOf (reachD D)).length ≤ 9223372036854775807 := by simpa [intsOf] using hRl
  clear bb H1
  refine stepsQ [0, 2] (by kernel_rfl) (by kernel_rfl) (by kernel_rfl) (Grown.of_below bA) ?_
  simp only [atIdx, List.filterMap_cons, List.filterMap_nil, List.getElem?_toArray, List.getElem_toArray, List.getElem?_cons_zero, List.getElem?_cons_succ, List.getElem_cons_zero, List.getElem_cons_succ]
  iterate 2 (show wpQuiet _ _ _ _ (_ :: _) _; go_big_quiet_step (fail))
  refine wpQuiet_nil ?_
  show stepT _ _ _ _ _ _ _ _ _
  refine stepS (i := 1) rfl (by kernel_rfl) ?_
  intro K hK
  go_simp
  refine (of_any _ D _ G.a HI.out.1 G.T).mono ?_
  rintro e w8 ⟨rv1, rfl, hl1, bx⟩
  have G' := G.below bx
  replace bA := bA.trans (bx.mono bA.size)
  clear G bx
  have G := G'
  clear G'
  refine hK _ _ ⟨fun _ => Grown.of_below bA, ?_⟩
  clear hK K
  refine stepS (i := 3) rfl (by kernel_rfl) ?_
  intro K hK
  go_simp
  refine (refof_any _ D _ G.a HI.out.1).mono ?_
  rintro e w9 ⟨rv2, rfl, hl2, bx⟩
  replace hl1 := hl1.below bx
  have G' := G.below bx
  replace bA := bA.trans (bx.mono bA.size)
  clear G bx
  have G := G'
  clear G'
  refine hK _ _ ⟨fun _ => Grown.of_below bA, ?_⟩
  clear hK K
  refine stepS (i := 4) rfl (by kernel_rfl) ?_
  intro K hK
  go_simp
  refine (refsame_any _ _ _ _ _ hl1 hl2 (ofD_in D) (ofD_in D)).mono ?_
  rintro e w10 ⟨rfl, bx⟩
  rw [eqD_refl]
  clear hl1 hl2
  have G' := G.below bx
  replace bA := bA.trans (bx.mono bA.size)
  clear G bx
  have G := G'
  clear G'
  refine hK _ _ ⟨fun _ => Grown.of_below bA, ?_⟩
  clear hK K
  refine stepsQ [5, 6, 8] (by kernel_rfl) (by kernel_rfl) (by kernel_rfl) (Grown.of_below bA) ?_
  simp only [atIdx, List.filterMap_cons, List.filterMap_nil, List.getElem?_toArray, List.getElem_toArray, List.getElem?_cons_zero, List.getElem?_cons_succ, List.getElem_cons_zero, List.getElem_cons_succ]
  iterate 3 (show wpQuiet _ _ _ _ (_ :: _) _; go_big_quiet_step (fail))
  refine wpQuiet_nil ?_
  show stepT _ _ _ _ _ _ _ _ _
  refine stepS (i := 7) rfl (by kernel_rfl) ?_
  intro K hK
  go_simp
  refine (reached_any _ D _ G.a HI.out.1).mono ?_
  rintro e w11 ⟨rv3, rfl, hl3, bx⟩
  have G' := G.below bx
  replace bA := bA.trans (bx.mono bA.size)
  clear G bx
  have G := G'
  clear G'
  refine hK _ _ ⟨fun _ => Grown.of_below bA, ?_⟩
  clear hK K
  refine stepS (i := 9) rfl (by kernel_rfl) ?_
  intro K hK
  go_simp
  refine (refreached_any _ D _ G.a HI.out.1).mono ?_
  rintro e w12 ⟨rv4, rfl, hl4, bx⟩
  have hn3 := (NatsAt.of_own hl3).intsAt.below bx
  have G' := G.below bx
  replace bA := bA.trans (bx.mono bA.size)
  clear G bx
  have G := G'
  clear G'
  refine hK _ _ ⟨fun _ => Grown.of_below bA, ?_⟩
  clear hK K
  refine stepS (i := 10) rfl (by kernel_rfl) ?_
  intro K hK
  go_simp
  refine (sameints_any _ _ (intsOf (reachD D)) (intsOf (reachD D)) _ hn3 (NatsAt.of_own hl4).intsAt hRi hRi).mono ?_
  rintro e w13 ⟨rfl, bx⟩
  rw [decide_eq_true (rfl : intsOf (reachD D) = intsOf (reachD D))]
  clear hn3 hl3 hl4
  have G' := G.below bx
  replace bA := bA.trans (bx.mono bA.size)
  clear G bx
  have G := G'
  clear G'
  refine hK _ _ ⟨fun _ => Grown.of_below bA, ?_⟩
  clear hK K
  refine stepsQ [11, 12] (by kernel_rfl) (by kernel_rfl) (by kernel_rfl) (Grown.of_below bA) ?_
  simp only [atIdx, List.filterMap_cons, List.filterMap_nil, List.getElem?_toArray, List.getElem_toArray, List.getElem?_cons_zero, List.getElem?_cons_succ, List.getElem_cons_zero, List.getElem_cons_succ]
  iterate 2 (show wpQuiet _ _ _ _ (_ :: _) _; go_big_quiet_step (fail))
  refine wpQuiet_nil ?_
  show stepT _ _ _ _ _ _ _ _ _
  refine stepS (i := 13) rfl (by kernel_rfl) ?_
  intro K hK
  go_simp
  refine (works_any _ G.T).mono ?_
  rintro e w14 ⟨rfl, bx⟩
  have G' := G.below bx
  replace bA := bA.trans (bx.mono bA.size)
  clear G bx
  have G := G'
  clear G'
  refine hK _ _ ⟨fun _ => Grown.of_below bA, ?_⟩
  clear hK K
  refine stepsQ [14, 15] (by kernel_rfl) (by kernel_rfl) (by kernel_rfl) (Grown.of_below bA) ?_
  simp only [atIdx, List.filterMap_cons, List.filterMap_nil, List.getElem?_toArray, List.getElem_toArray, List.getElem?_cons_zero, List.getElem?_cons_succ, List.getElem_cons_zero, List.getElem_cons_succ]
  iterate 2 (show wpQuiet _ _ _ _ (_ :: _) _; go_big_quiet_step (fail))
  refine wpQuiet_nil ?_
  show stepT _ _ _ _ _ _ _ _ _
  refine stepT_end (by kernel_rfl) ?_
  go_wp2_with fail
  go_ret
  exact ⟨rfl, G.bl⟩

namespace leastOfW
set_option maxRecDepth 100000 in
theorem walkRaw {H : Type} (enc : TypeId × Value → H) (v0 : Value) (W : World) {base : Nat} {d0 : DataW H} {p0 : List MemPlace}
    (wv0 : Value.okWide Tryd.prog W .any base 26 v0) (h0 : DataW.Trod enc Tryd.prog W 0 (fun _ => true) true 26 v0 d0 p0) (_lt0 : ∀ x ∈ p0, x.block < W.heap.size)
    (hL : laidMet Tryd.prog Rows.leastOfRow.laid W) :
    Calls Tryd.prog 3 #[v0] W fun e w' => e = .returned (.bool true) ∧ Below W.heap.size W w' := by
  obtain ⟨D, hD, hI⟩ := open_dfa wv0 h0
  exact law_of v0 D W hD hI (pow_in hL (by simp [Rows.leastOfRow]))
end leastOfW
end Go.Proofs.YtgkpgjbgcimijaaDoor
