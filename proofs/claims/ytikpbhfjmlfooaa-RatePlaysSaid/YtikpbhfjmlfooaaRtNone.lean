/-
  RateNone: rates that New did not give. Conditions: texts no longer than they can be.
-/
import Derived.Test.YtikpbhfjmlfooaaRtWorks
namespace Go.Proofs.Ytikpbhfjmlfooaa
set_option linter.unusedVariables false
set_option linter.unusedSimpArgs false
open Go.RowKit Go.Maps Go.Sort

def zeroR : Array Value := #[.map none, .map none, .int .i64 0]
structure OfZ (B rp : Nat) (t c : ByteArray) (w w' : World) : Prop where
  rates : Blk w' rp 65 #[.map none, .map none, .int .i64 0]
  who : Blk w' B 77 #[.string t, .string c]
  res : Blk w' (B + 1) 23 #[.int .i64 0, .int .i64 0, .int .i64 0, .int .i64 0]
  below : Below B w w'
  room : B + 2 ≤ w'.heap.size
  old : rp < B
theorem OfZ.only {B rp : Nat} {t c : ByteArray} {w w1 w2 : World} {S : List Nat} (h : OfZ B rp t c w w1) (ho : Only S w1 w2) (hS : ∀ i ∈ S, B + 2 ≤ i) : OfZ B rp t c w w2 := by
  have o1 := h.old
  have hr := h.room
  have ns : ∀ i, i < B + 2 → i ∉ S := fun i hi hm => by have := hS i hm; omega
  exact ⟨h.rates.only ho (ns _ (by omega)), h.who.only ho (ns _ (by omega)), h.res.only ho (ns _ (by omega)), h.below.trans (ho.below (by omega) (fun i hi => by have := hS i hi; omega)), by have := ho.size; omega, h.old⟩
theorem OfZ.start {rp : Nat} (t c : ByteArray) {w : World} (h : Blk w rp 65 #[.map none, .map none, .int .i64 0]) :
    OfZ w.heap.size rp t c w ((w.alloc (.cells #[.string t, .string c] 77)).alloc (.cells #[.int .i64 0, .int .i64 0, .int .i64 0, .int .i64 0] 23)) :=
  ⟨(h.alloc _).alloc _, (Blk.new w _ _).alloc _, by have := Blk.new (w.alloc (.cells #[.string t, .string c] 77)) 23 #[.int .i64 0, .int .i64 0, .int .i64 0, .int .i64 0]; simpa using this, ((Below.refl _ _).alloc (Nat.le_refl _) _).alloc (by simp) _, by simp, h.lt⟩
def OfZC (B rp : Nat) (t c : ByteArray) (w : World) (s6 s7 : Value) (W : World) : Prop := ∃ p : Nat, s6 = .pointer (some ⟨p, 0, none⟩) ∧ s7 = .bool false ∧ OfZ B rp t c w W

set_option maxRecDepth 100000 in
set_option maxHeartbeats 4000000 in
theorem rof_zero (rp : Nat) (t c : ByteArray) (w : World) (h : Blk w rp 65 #[.map none, .map none, .int .i64 0]) (ht : t.size ≤ maxLen) (hc : c.size ≤ maxLen) :
    Calls Try.prog 45 #[.pointer (some ⟨rp, 0, none⟩), .agg #[.string t, .string c]] w fun e w' => e = .returned (.tuple #[bktV (0, 0, 0, 0), .bool false]) ∧ Below w.heap.size w w' := by
  have h0 := OfZ.start t c h
  clear h
  go_enter Try.func45, Try.ntmps45
  go_wp2_with fail
  generalize (w.alloc (.cells #[.string t, .string c] 77)).alloc (.cells #[.int .i64 0, .int .i64 0, .int .i64 0, .int .i64 0] 23) = w0 at *
  have H0 := Lib.hid h0
  have hroom := h0.room
  clear h0
  obtain ⟨B, hB⟩ : ∃ B, w.heap.size = B := ⟨_, rfl⟩
  rw [hB] at H0 hroom
  rw [hB]
  have HB := Lib.hid hB
  clear hB
  go_cut [6, 7] (fun s6 s7 W => OfZC B rp t c w s6 s7 W)
  case first =>
    refine wp_region_split [0, 1, 2, 3, 4, 5] 10 6 [7, 8, 9] [11, 12] 31 (zeroCl 0) 6 _ _ ?_ (by kernel_rfl) (by kernel_rfl) (by kernel_rfl) (by kernel_rfl) (by kernel_rfl) (by kernel_rfl) rfl rfl rfl rfl rfl (by decide) (by decide) (by kernel_rfl) (by kernel_rfl) (by kernel_rfl) ?_ ?_ ?_
    case refine_2 =>
      intro ρ w1
      simp [execOp, go_sem, zeroCl]
    case refine_3 =>
      intro w1 b1
      have G : ∀ d os, OfZ B rp t c w (Sort.grow (redrawn w1 d) os) := fun d os => H0.out.only (Only.of_below (S := []) (b1.trans ((below_regrown w1 d os).mono b1.size))) (by simp)
      have m0 := fun d os => (G d os).rates.c3.1.1
      have m1 := fun d os => (G d os).who.c2.1.2
      clear G
      simp only [atIdx, List.filterMap_cons, List.filterMap_nil, List.getElem?_toArray, List.getElem?_cons_zero, List.getElem?_cons_succ]
      iterate 6 (show wpQuiet _ _ _ _ (_ :: _) _; go_big_quiet_step (fail))
      refine wpQuiet_nil ?_
      rfl
    case refine_4 =>
      intro w1 b1
      have h1 := H0.out.only (Only.of_below (S := []) b1) (by simp)
      have hl := cls_look_nil w1 c hc
      have h1r := h1.room
      refine callAt_value (v := .tuple #[clsV .empty 0 0, .bool false]) ?hrun ?_
      case hrun =>
        simp only [List.getElem?_toArray, List.getElem_toArray, List.getElem_cons_zero, List.getElem_cons_succ]
        simp [execOp, go_sem, hl]
      refine ⟨?_, ?_⟩
      · intro p h2 h3 h4
        simp only [atIdx, List.cons_append, List.nil_append, List.filterMap_cons, List.filterMap_nil, List.getElem?_toArray, List.getElem?_cons_zero, List.getElem?_cons_succ]
        show wpList _ _ _ (_ :: _) _ _
        have hpz : Blk w1 p 31 #[.string ⟨#[]⟩, .int .i64 0, .int .i64 0] := h4
        obtain ⟨⟨y0, y1, y2⟩, x0, x1, x2⟩ := hpz.c3
        simp only [clsV]
        go_wp2_with (fail)
        refine onlyNormal_ok ?_
        go_wp2_with (fail)
        go_meet
        case rel => exact ⟨p, rfl, rfl, h1.only (only_set3 w1 p _ _ _) (by simp; omega)⟩
      · simp only [atIdx, List.cons_append, List.nil_append, List.filterMap_cons, List.filterMap_nil, List.getElem?_toArray, List.getElem?_cons_zero, List.getElem?_cons_succ]
        show wpList _ _ _ (_ :: _) _ _
        simp only [clsV]
        go_wp2_with (fail)
        refine onlyNormal_ok ?_
        go_wp2_with (fail)
        go_meet
        case rel => exact ⟨w1.heap.size, rfl, rfl, h1.only (Only.of_below (S := []) ((Below.refl _ _).alloc (Nat.le_refl _) _)) (by simp)⟩
  case rest =>
    obtain ⟨p, rfl, rfl, h1⟩ := hcut
    have H1 := Lib.hid h1
    have hr1 := h1.room
    clear H0 h1
    obtain ⟨⟨e0, e1, e2, e3⟩, f0, f1, f2, f3⟩ := H1.out.res.c4
    go_wp2_with (fail)
    have hbl := blk_set4 H1.out.res (.int .i64 0) (.int .i64 0) (.int .i64 0) (.int .i64 0)
    have hbw := H1.out.below.trans ((only_set4 wc (B + 1) (.int .i64 0) (.int .i64 0) (.int .i64 0) (.int .i64 0)).below (B := B) (by omega) (by simp))
    generalize (((wc.setCell ⟨B + 1, 0, none⟩ (.int .i64 0)).setCell ⟨B + 1, 1, none⟩ (.int .i64 0)).setCell ⟨B + 1, 2, none⟩ (.int .i64 0)).setCell ⟨B + 1, 3, none⟩ (.int .i64 0) = W at *
    obtain ⟨⟨v0, v1, v2, v3⟩, -⟩ := hbl.c4
    clear e0 e1 e2 e3 f0 f1 f2 f3
    refine bodyPost_ret (v := .tuple #[bktV (0, 0, 0, 0), .bool false]) ?_ rfl ⟨rfl, by rw [HB.out]; exact hbw⟩
    simp [results, Try.results45, go_sem, v0, v1, v2, v3, bktV]
theorem left_zero : leftOf (0, 0, 0, 0) = fun now => atH 0 0 0 0 now := rfl
theorem at_zero (now : Int) : atH 0 0 0 0 now = 0 := by
  unfold atH
  split
  · omega
  · rfl
set_option maxHeartbeats 1000000 in
theorem rleft_zero (rp : Nat) (t c : ByteArray) (now : Int) (w : World) (h : Blk w rp 65 #[.map none, .map none, .int .i64 0]) (ht : t.size ≤ maxLen) (hc : c.size ≤ maxLen) :
    Calls Try.prog 37 #[.pointer (some ⟨rp, 0, none⟩), .string t, .string c, .int .i64 now] w fun e w' => e = .returned (.int .i64 0) ∧ Below w.heap.size w w' := by
  obtain ⟨T, hT⟩ : ∃ T, atT 0 0 0 0 now = T := ⟨_, rfl⟩
  have HYT := Lib.hid (And.intro (at_zero now) hT)
  have hf := fun w => field_have w 0 0 0 T
  have H := Lib.hid h
  clear hT h
  go_enter Try.func37, Try.ntmps37
  go_wp2_with fail
  refine (rof_zero rp t c w H.out ht hc).mono ?_
  rintro e w1 ⟨rfl, b1⟩
  simp only [bktV]
  go_wp2_with fail
  refine (at_lit 0 0 0 0 now 0 T _ HYT.out.1 HYT.out.2).mono ?_
  rintro e w2 ⟨rfl, b2⟩
  go_wp2_with fail
  go_ret
  exact ⟨rfl, b1.trans (((Below.refl _ _).alloc (Nat.le_refl _) _).trans (b2.mono (by simp)) |>.mono b1.size)⟩
theorem rleft_none (t c : ByteArray) (now : Int) (w : World) : Calls Try.prog 37 #[.pointer none, .string t, .string c, .int .i64 now] w fun e w' => e = .returned (.int .i64 0) ∧ Below w.heap.size w w' := by
  have h := rleft_nil t c now w
  rw [left_zero] at h
  simp only [at_zero] at h
  exact h

namespace rateNoneW
set_option maxRecDepth 100000 in
set_option maxHeartbeats 2000000 in
theorem walk (t c : ByteArray) (now : Int) (W : World) (ht : t.size ≤ maxLen) (hc : c.size ≤ maxLen) (hn : (Lit.int .i64 now).wf = true) :
    Calls Try.prog 11 #[.string t, .string c, .int .i64 now] W fun e w' => e = .returned (.bool true) ∧ Below W.heap.size W w' := by
  go_enter Try.func11, Try.ntmps11
  go_wp2_with fail
  refine (rbegin_nil now _).mono ?_
  rintro e w1 ⟨rfl, hw1⟩
  have q1 := Blk.new W 65 #[.map none, .map none, .int .i64 0]
  have b1 : Below W.heap.size W (W.alloc (.cells #[.map none, .map none, .int .i64 0] 65)) := (Below.refl _ _).alloc (Nat.le_refl _) _
  rw [← hw1] at q1 b1
  have s1 : W.heap.size < w1.heap.size := q1.lt
  clear hw1
  have m0 := q1.c3.1.1
  have H1 := Lib.hid (And.intro q1 b1)
  clear q1 b1
  obtain ⟨R, hR⟩ : ∃ R, W.heap.size = R := ⟨_, rfl⟩
  rw [hR] at H1 m0 s1
  rw [hR]
  have HR := Lib.hid hR
  clear hR
  go_wp2_with fail
  refine (rbegin_zero R now w1 m0).mono ?_
  rintro e w2 ⟨rfl, rfl⟩
  go_wp2_with fail
  refine (rtake_nil t c now _).mono ?_
  rintro e w3 ⟨rfl, rfl⟩
  go_wp2_with fail
  refine (rtake_zero R t c now _ m0).mono ?_
  rintro e w4 ⟨rfl, rfl⟩
  go_wp2_with fail
  refine (rleft_none t c now _).mono ?_
  rintro e w5 ⟨rfl, b5⟩
  go_wp2_with fail
  refine (rleft_zero R t c now _ (H1.out.1.below b5 H1.out.1.lt) ht hc).mono ?_
  rintro e w6 ⟨rfl, b6⟩
  go_wp2_with fail
  refine (rworks_any _).mono ?_
  rintro e w7 ⟨rfl, b7⟩
  go_wp2_with fail
  go_ret
  refine ⟨rfl, ?_⟩
  rw [HR.out]
  have h5 := H1.out.2.trans (b5.mono (by omega))
  have h6 := h5.trans (b6.mono (by have := b5.size; omega))
  exact h6.trans (b7.mono (by have := b5.size; have := b6.size; omega))
end rateNoneW
end Go.Proofs.Ytikpbhfjmlfooaa
