/-
  The walk of the law CharsetTurns: it returns true. Conditions: the library's table lies as laid.
-/
import Derived.Test.YtifokkclkmdclaaDoorCsWorks
import Derived.Test.YtifokkclkmdclaaDoorAlloc2
import Derived.Test.YtifokkclkmdclaaDoorCsOpen
namespace Go.Proofs.YtifokkclkmdclaaDoor
set_option linter.unusedVariables false
open Go.RowKit Go.Sort Cs

theorem turn_not (s : Nat → Int) : ∀ i, i < 4 → notS (notS s) i = s i := fun i _ => by unfold notS; omega
theorem turn_morgan (s t : Nat → Int) (hs : SetIn s) (ht : SetIn t) : ∀ i, i < 4 → notS (orS s t) i = andS (notS s) (notS t) i :=
  ext _ _ (notIn (orIn hs ht)) (andIn (notIn hs)) fun b hb => by
    rw [has_not _ _ (orIn hs ht), has_or _ _ _ hs ht, has_and _ _ _ (notIn hs) (notIn ht), has_not _ _ hs, has_not _ _ ht]
    cases hasS s b <;> cases hasS t b <;> rfl
theorem turn_parts (s t : Nat → Int) (hs : SetIn s) (ht : SetIn t) : ∀ i, i < 4 → orS (andS s t) (lessS s t) i = s i :=
  ext _ _ (orIn (andIn hs) (lessIn hs)) hs fun b hb => by
    rw [has_or _ _ _ (andIn hs) (lessIn hs), has_and _ _ _ hs ht, has_less _ _ _ hs ht]
    cases hasS s b <;> cases hasS t b <;> rfl
theorem turn_count (s t : Nat → Int) (hs : SetIn s) (ht : SetIn t) : cnt (andS s t) 256 + cnt (lessS s t) 256 = cnt s 256 :=
  cnt_add _ _ _ 256 fun b hb => by
    rw [has_and _ _ _ hs ht, has_less _ _ _ hs ht]
    cases hasS s b <;> cases hasS t b <;> rfl
theorem turn_or (s t : Nat → Int) (hs : SetIn s) (ht : SetIn t) : ∀ i, i < 4 → orS s t i = orS t s i :=
  ext _ _ (orIn hs ht) (orIn ht hs) fun b hb => by
    rw [has_or _ _ _ hs ht, has_or _ _ _ ht hs]
    cases hasS s b <;> cases hasS t b <;> rfl
theorem turn_text (s : Nat → Int) (hs : SetIn s) : ∀ i, i < 4 → textS (bytesTo s 256) i = s i :=
  ext _ _ (textIn _) hs fun b hb => by
    rw [has_text, Bool.eq_iff_iff, List.any_eq_true]
    unfold bytesTo
    constructor
    · rintro ⟨c, hc, hcb⟩
      obtain ⟨d, hd, rfl⟩ := List.mem_map.1 hc
      obtain ⟨hd1, hd2⟩ := List.mem_filter.1 hd
      have hd3 : d < 256 := List.mem_range.1 hd1
      simp at hcb
      have : d = b := by omega
      subst this
      exact hd2
    · intro h
      refine ⟨UInt8.ofNat b, List.mem_map.2 ⟨b, List.mem_filter.2 ⟨List.mem_range.2 hb, h⟩, rfl⟩, ?_⟩
      simp
      omega

theorem texts_of (l : List UInt8) (w : World) (hl : l.length ≤ 256) :
    Calls Tryd.prog 17 #[.string (txt l)] w fun e w' => e = .returned (setV (textS l)) ∧ Below w.heap.size w w' := by
  refine (texts_any (txt l) w (by rw [txt_size]; unfold maxLen; omega)).mono fun e w' ⟨h1, h2⟩ => ⟨?_, h2⟩
  rw [h1]
  rfl

/-- a new variable that is a set -/
theorem alloc_set (o : Oper) (h : o.op = .alloc 24) (ρ : Operand → Value) (w : World) :
    (execOp ρ o).run Tryd.prog w = .ok (.value (.pointer (some ⟨w.heap.size, 0, none⟩))) (w.alloc (.cells #[.int .u64 0, .int .u64 0, .int .u64 0, .int .u64 0] 24)) := by
  simp [execOp, h, go_sem]
def zeroC (_ : TypeId) : Array Value := #[.int .u64 0, .int .u64 0, .int .u64 0, .int .u64 0]
theorem four_blk {w : World} {g : Nat} {t : TypeId} (h : w.heap[g]? = some (.cells #[.int .u64 0, .int .u64 0, .int .u64 0, .int .u64 0] t (0, 0))) : Four w g noneS :=
  ⟨fun i hi => by
    rw [cell_of_row w g i _ t (0, 0) h]
    obtain rfl | rfl | rfl | rfl : i = 0 ∨ i = 1 ∨ i = 2 ∨ i = 3 := by omega
    · rfl
    · rfl
    · rfl
    · rfl, fun i => by simp [World.frozen?, h]⟩

namespace charsetTurnsW
set_option maxHeartbeats 4000000 in
set_option maxRecDepth 100000 in
theorem walk (s t : Nat → Int) (w : World) (hs : SetIn s) (ht : SetIn t) (hT : TabIn w) :
    Calls Tryd.prog 5 #[setV s, setV t] w fun e w' => e = .returned (.bool true) ∧ Below w.heap.size w w' := by
  have HT := Lib.hid hT
  have HS := Lib.hid hs
  have HTT := Lib.hid ht
  clear hT hs ht
  go_enter Tryd.func5, Tryd.ntmps5
  go_wp2_with fail
  have f1 := (Four.new w s 24).old (.cells #[.int .u64 (t 0), .int .u64 (t 1), .int .u64 (t 2), .int .u64 (t 3)] 24) (by simp)
  have f2 := Four.new (w.alloc (.cells #[.int .u64 (s 0), .int .u64 (s 1), .int .u64 (s 2), .int .u64 (s 3)] 24)) t 24
  have b1 : Below w.heap.size w ((w.alloc (.cells #[.int .u64 (s 0), .int .u64 (s 1), .int .u64 (s 2), .int .u64 (s 3)] 24)).alloc (.cells #[.int .u64 (t 0), .int .u64 (t 1), .int .u64 (t 2), .int .u64 (t 3)] 24)) := ((Below.refl _ _).alloc (Nat.le_refl _) _).alloc (by simp) _
  simp only [World.size_alloc] at f2
  have hz : w.heap.size + 2 ≤ ((w.alloc (.cells #[.int .u64 (s 0), .int .u64 (s 1), .int .u64 (s 2), .int .u64 (s 3)] 24)).alloc (.cells #[.int .u64 (t 0), .int .u64 (t 1), .int .u64 (t 2), .int .u64 (t 3)] 24)).heap.size := by simp
  generalize (w.alloc (.cells #[.int .u64 (s 0), .int .u64 (s 1), .int .u64 (s 2), .int .u64 (s 3)] 24)).alloc (.cells #[.int .u64 (t 0), .int .u64 (t 1), .int .u64 (t 2), .int .u64 (t 3)] 24) = w1 at *
  have F1 := Lib.hid f1
  have F2 := Lib.hid f2
  clear f1 f2
  refine wp_region_alloc 8 zeroC ?_ (by kernel_rfl) (by kernel_rfl) (by kernel_rfl) (by kernel_rfl) (by kernel_rfl) ?_ ?_ ?_
  case refine_2 =>
    intro o T hm hT
    have : T = 24 := by simp [allocsOf] at hm; rcases hm with h | h <;> exact h.2
    subst this
    exact alloc_set o hT
  case refine_3 =>
    intro w2 b2
    have g1 := F1.out.below b2 (by omega)
    have g2 := F2.out.below b2 (by omega)
    have hz2 : w.heap.size + 2 ≤ w2.heap.size := by have := b2.size; omega
    have s0 := reg1 g1 0 (by omega) (by omega)
    have s1 := reg1 g1 1 (by omega) (by omega)
    have s2 := reg1 g1 2 (by omega) (by omega)
    have s3 := reg1 g1 3 (by omega) (by omega)
    have t0 := reg1 g2 0 (by omega) (by omega)
    have t1 := reg1 g2 1 (by omega) (by omega)
    have t2 := reg1 g2 2 (by omega) (by omega)
    have t3 := reg1 g2 3 (by omega) (by omega)
    simp only [List.map_cons, List.map_nil, shade, isAlloc, Option.isNone_none, Option.isSome_some, Bool.and_true, if_true, Bool.false_eq_true, if_false, List.take_succ_cons, List.take_zero]
    repeat (go_big_quiet_step (fail))
    go_big_quiet_step ((go_at_call 7; exact Calls.regrown_of (and_any s t _ HS.out HTT.out)))
    repeat (go_big_quiet_step (fail))
    go_big_quiet_step ((go_at_call 8; exact Calls.regrown_of (less_any s t _ HS.out HTT.out)))
    repeat (go_big_quiet_step (fail))
    refine wpQuiet_nil ?_
    rfl
  intro β w2 b2 hβ hne
  have p5 := hβ 5 24 (by simp [allocsOf])
  have p6 := hβ 6 24 (by simp [allocsOf])
  have p56 := hne 5 24 6 24 (by simp [allocsOf]) (by simp [allocsOf]) (by decide)
  clear hβ hne
  change wpList _ _ _ _ (putAll [(5, 24), (6, 24)] β _) _
  simp only [putAll, List.foldl_cons, List.foldl_nil]
  generalize β 5 = p at *
  generalize β 6 = q at *
  have G5 := four_blk p5.2
  have G6 := four_blk p6.2
  have g1 := F1.out.below b2 (by omega)
  have g2 := F2.out.below b2 (by omega)
  have l5 := p5.1
  have l6 := p6.1
  have c0 := G5.cell 0 (by omega)
  have c1 := G5.cell 1 (by omega)
  have c2 := G5.cell 2 (by omega)
  have c3 := G5.cell 3 (by omega)
  have d0 := G6.cell 0 (by omega)
  have d1 := G6.cell 1 (by omega)
  have d2 := G6.cell 2 (by omega)
  have d3 := G6.cell 3 (by omega)
  have z5 := G5.free
  have z6 := G6.free
  clear p5 p6
  go_wp2_with fail
  have hz2 : w.heap.size + 2 ≤ w2.heap.size := by have := b2.size; omega
  have lp : p < w2.heap.size := World.block_lt_of_cell? w2 _ c0
  have lq : q < w2.heap.size := World.block_lt_of_cell? w2 _ d0
  have k5 := (G5.set4 (andS s t)).far4 (g' := q) (.int .u64 (lessS s t 0)) (.int .u64 (lessS s t 1)) (.int .u64 (lessS s t 2)) (.int .u64 (lessS s t 3)) p56
  have k6 := (G6.far4 (g' := p) (.int .u64 (andS s t 0)) (.int .u64 (andS s t 1)) (.int .u64 (andS s t 2)) (.int .u64 (andS s t 3)) (fun e => p56 e.symm)).set4 (lessS s t)
  have k1 := (g1.far4 (g' := p) (.int .u64 (andS s t 0)) (.int .u64 (andS s t 1)) (.int .u64 (andS s t 2)) (.int .u64 (andS s t 3)) (by omega)).far4 (g' := q) (.int .u64 (lessS s t 0)) (.int .u64 (lessS s t 1)) (.int .u64 (lessS s t 2)) (.int .u64 (lessS s t 3)) (by omega)
  have k2 := (g2.far4 (g' := p) (.int .u64 (andS s t 0)) (.int .u64 (andS s t 1)) (.int .u64 (andS s t 2)) (.int .u64 (andS s t 3)) (by omega)).far4 (g' := q) (.int .u64 (lessS s t 0)) (.int .u64 (lessS s t 1)) (.int .u64 (lessS s t 2)) (.int .u64 (lessS s t 3)) (by omega)
  have kB := below_set4 (g := q) (below_set4 (g := p) (b1.trans (b2.mono b1.size)) (.int .u64 (andS s t 0)) (.int .u64 (andS s t 1)) (.int .u64 (andS s t 2)) (.int .u64 (andS s t 3)) (by omega)) (.int .u64 (lessS s t 0)) (.int .u64 (lessS s t 1)) (.int .u64 (lessS s t 2)) (.int .u64 (lessS s t 3)) (by omega)
  have ks : (((((((w2.setCell ⟨p, 0, none⟩ (.int .u64 (andS s t 0))).setCell ⟨p, 1, none⟩ (.int .u64 (andS s t 1))).setCell ⟨p, 2, none⟩ (.int .u64 (andS s t 2))).setCell ⟨p, 3, none⟩ (.int .u64 (andS s t 3))).setCell ⟨q, 0, none⟩ (.int .u64 (lessS s t 0))).setCell ⟨q, 1, none⟩ (.int .u64 (lessS s t 1))).setCell ⟨q, 2, none⟩ (.int .u64 (lessS s t 2))).heap.size = w2.heap.size := by simp
  have ks' : ((((((((w2.setCell ⟨p, 0, none⟩ (.int .u64 (andS s t 0))).setCell ⟨p, 1, none⟩ (.int .u64 (andS s t 1))).setCell ⟨p, 2, none⟩ (.int .u64 (andS s t 2))).setCell ⟨p, 3, none⟩ (.int .u64 (andS s t 3))).setCell ⟨q, 0, none⟩ (.int .u64 (lessS s t 0))).setCell ⟨q, 1, none⟩ (.int .u64 (lessS s t 1))).setCell ⟨q, 2, none⟩ (.int .u64 (lessS s t 2))).setCell ⟨q, 3, none⟩ (.int .u64 (lessS s t 3))).heap.size ≥ w2.heap.size := by simp
  generalize hw3 : (((((((w2.setCell ⟨p, 0, none⟩ (.int .u64 (andS s t 0))).setCell ⟨p, 1, none⟩ (.int .u64 (andS s t 1))).setCell ⟨p, 2, none⟩ (.int .u64 (andS s t 2))).setCell ⟨p, 3, none⟩ (.int .u64 (andS s t 3))).setCell ⟨q, 0, none⟩ (.int .u64 (lessS s t 0))).setCell ⟨q, 1, none⟩ (.int .u64 (lessS s t 1))).setCell ⟨q, 2, none⟩ (.int .u64 (lessS s t 2))).setCell ⟨q, 3, none⟩ (.int .u64 (lessS s t 3)) = w3 at *
  clear hw3 ks G5 G6 g1 g2 c0 c1 c2 c3 d0 d1 d2 d3 z5 z6 F1 F2 b1
  have T3 : ∀ d os, TabIn (Sort.grow (redrawn w3 d) os) := fun d os => (HT.out.below kB).below (below_regrown w3 d os)
  have HT3 := Lib.hid T3
  have s0 := reg1 k1 0 (by omega) (by omega)
  have s1 := reg1 k1 1 (by omega) (by omega)
  have s2 := reg1 k1 2 (by omega) (by omega)
  have s3 := reg1 k1 3 (by omega) (by omega)
  have t0 := reg1 k2 0 (by omega) (by omega)
  have t1 := reg1 k2 1 (by omega) (by omega)
  have t2 := reg1 k2 2 (by omega) (by omega)
  have t3 := reg1 k2 3 (by omega) (by omega)
  have x0 := reg1 k5 0 (by omega) (by omega)
  have x1 := reg1 k5 1 (by omega) (by omega)
  have x2 := reg1 k5 2 (by omega) (by omega)
  have x3 := reg1 k5 3 (by omega) (by omega)
  have y0 := reg1 k6 0 (by omega) (by omega)
  have y1 := reg1 k6 1 (by omega) (by omega)
  have y2 := reg1 k6 2 (by omega) (by omega)
  have y3 := reg1 k6 3 (by omega) (by omega)
  have e1 := run_eq_set (notS (notS s)) s true ⟨fun _ => turn_not s, fun _ => rfl⟩
  have e2 := run_eq_set (notS (orS s t)) (andS (notS s) (notS t)) true ⟨fun _ => turn_morgan s t HS.out HTT.out, fun _ => rfl⟩
  have e3 := run_eq_set (orS (andS s t) (lessS s t)) s true ⟨fun _ => turn_parts s t HS.out HTT.out, fun _ => rfl⟩
  have e4 := run_eq_set (orS s t) (orS t s) true ⟨fun _ => turn_or s t HS.out HTT.out, fun _ => rfl⟩
  have e5 := run_eq_set (textS (bytesTo s 256)) s true ⟨fun _ => turn_text s HS.out, fun _ => rfl⟩
  obtain ⟨N, hN⟩ : ∃ N, cnt s 256 = N := ⟨_, rfl⟩
  obtain ⟨N1, hN1⟩ : ∃ N, cnt (andS s t) 256 = N := ⟨_, rfl⟩
  obtain ⟨N2, hN2⟩ : ∃ N, cnt (lessS s t) 256 = N := ⟨_, rfl⟩
  have hsum : (N1 : Int) + N2 = N := by have := turn_count s t HS.out HTT.out; omega
  have hle : N ≤ 256 := by rw [← hN]; exact cnt_le s 256
  have hwrap : IntKind.i64.wrap ((N1 : Int) + N2) = N := by rw [hsum]; exact IntWalk.i64_in _ (by omega)
  have C1 := Lib.hid hN1
  have C2 := Lib.hid hN2
  have C3 := Lib.hid hN
  have hlen : (bytesTo s 256).length ≤ 256 := by rw [bytesTo_len]; exact cnt_le s 256
  have HL := Lib.hid hlen
  clear hN hN1 hN2 hsum hle hlen k1 k2 k5 k6 l5 l6 lp lq p56
  refine wp_region_quiet_below (by kernel_rfl) (by kernel_rfl) ?_
  repeat (go_big_quiet_step (fail))
  go_big_quiet_step ((go_at_call 9; exact Calls.regrown_of (not_any s _ HS.out)))
  repeat (go_big_quiet_step (fail))
  go_big_quiet_step ((go_at_call 9; exact Calls.regrown_of (not_any (notS s) _ (notIn HS.out))))
  repeat (go_big_quiet_step (fail))
  go_big_quiet_step ((go_at_call 6; exact Calls.regrown_of (or_any s t _ HS.out HTT.out)))
  repeat (go_big_quiet_step (fail))
  go_big_quiet_step ((go_at_call 9; exact Calls.regrown_of (not_any (orS s t) _ (orIn HS.out HTT.out))))
  repeat (go_big_quiet_step (fail))
  go_big_quiet_step ((go_at_call 9; exact Calls.regrown_of (not_any s _ HS.out)))
  repeat (go_big_quiet_step (fail))
  go_big_quiet_step ((go_at_call 9; exact Calls.regrown_of (not_any t _ HTT.out)))
  repeat (go_big_quiet_step (fail))
  go_big_quiet_step ((go_at_call 7; exact Calls.regrown_of (and_any (notS s) (notS t) _ (notIn HS.out) (notIn HTT.out))))
  repeat (go_big_quiet_step (fail))
  go_big_quiet_step ((go_at_call 6; exact Calls.regrown_of (or_any (andS s t) (lessS s t) _ (andIn HS.out) (lessIn HS.out))))
  repeat (go_big_quiet_step (fail))
  go_big_quiet_step ((go_at_call 15; exact Calls.regrown_of (count_lit (andS s t) N1 _ (andIn HS.out) C1.out)))
  repeat (go_big_quiet_step (fail))
  go_big_quiet_step ((go_at_call 15; exact Calls.regrown_of (count_lit (lessS s t) N2 _ (lessIn HS.out) C2.out)))
  repeat (go_big_quiet_step (fail))
  go_big_quiet_step ((go_at_call 15; exact Calls.regrown_of (count_lit s N _ HS.out C3.out)))
  repeat (go_big_quiet_step (fail))
  go_big_quiet_step ((go_at_call 6; exact Calls.regrown_of (or_any s t _ HS.out HTT.out)))
  repeat (go_big_quiet_step (fail))
  go_big_quiet_step ((go_at_call 6; exact Calls.regrown_of (or_any t s _ HTT.out HS.out)))
  repeat (go_big_quiet_step (fail))
  go_big_quiet_step ((go_at_call 14; exact Calls.regrown_of (text_any s _ HS.out (HT3.out _ _))))
  repeat (go_big_quiet_step (fail))
  go_big_quiet_step ((go_at_call 17; exact Calls.regrown_of (texts_of (bytesTo s 256) _ HL.out)))
  repeat (go_big_quiet_step (fail))
  go_big_quiet_step ((go_at_call 13; exact Calls.regrown_of (csworks_any _ (HT3.out _ _))))
  repeat (go_big_quiet_step (fail))
  refine wpQuiet_nil ?_
  intro _ hw'
  obtain ⟨⟨dq, osq⟩, hw''⟩ := hw'
  subst hw''
  have bb : Below w3.heap.size w3 (Sort.grow (redrawn w3 dq) osq) := below_regrown w3 dq osq
  have hB4 : Below w.heap.size w (Sort.grow (redrawn w3 dq) osq) := kB.trans (bb.mono kB.size)
  generalize Sort.grow (redrawn w3 dq) osq = w4 at *
  clear s0 s1 s2 s3 t0 t1 t2 t3 x0 x1 x2 x3 y0 y1 y2 y3 e1 e2 e3 e4 e5 hwrap
  go_wp2_with fail
  go_ret
  exact ⟨rfl, hB4⟩

open Go.ChangeShapes Go.WideShapes
theorem walkRaw {H : Type} (enc : TypeId × Value → H) (v0 v1 : Value) (W : World) {base : Nat} {d0 d1 : DataW H} {p0 p1 : List MemPlace}
    (wv0 : Value.okWide Tryd.prog W .any base 24 v0) (h0 : DataW.Trod enc Tryd.prog W 0 (fun _ => true) true 24 v0 d0 p0) (_lt0 : ∀ x ∈ p0, x.block < W.heap.size)
    (wv1 : Value.okWide Tryd.prog W .any base 24 v1) (h1 : DataW.Trod enc Tryd.prog W 0 (fun _ => true) true 24 v1 d1 p1) (_lt1 : ∀ x ∈ p1, x.block < W.heap.size)
    (hL : laidMet Tryd.prog Rows.charsetTurnsRow.laid W) :
    Calls Tryd.prog 5 #[v0, v1] W fun e w' => e = .returned (.bool true) ∧ Below W.heap.size W w' := by
  obtain ⟨s, hs, rfl⟩ := open_setV wv0 h0
  obtain ⟨t, ht, rfl⟩ := open_setV wv1 h1
  exact walk s t W hs ht (tab_in hL (by kernel_rfl))
end charsetTurnsW
end Go.Proofs.YtifokkclkmdclaaDoor
