/-
  The walk of the law CharsetSets: it returns true. Conditions: the library's table lies as laid.
-/
import Derived.Test.YtifokkclkmdclaaDoorCsTurns
namespace Go.Proofs.YtifokkclkmdclaaDoor
set_option linter.unusedVariables false
open Go.RowKit Go.Sort Cs

theorem cellsfar4 {w : World} {g g' : Nat} {cs : Array Value} (h : ∀ i, w.cell? ⟨g, i, none⟩ = cs[i]?) (u0 u1 u2 u3 : Value) (hg : g ≠ g') :
    ∀ i, ((((w.setCell ⟨g', 0, none⟩ u0).setCell ⟨g', 1, none⟩ u1).setCell ⟨g', 2, none⟩ u2).setCell ⟨g', 3, none⟩ u3).cell? ⟨g, i, none⟩ = cs[i]? := fun i => by
  have f : ∀ (W : World) (k : Nat) (u : Value), (W.setCell ⟨g', k, none⟩ u).cell? ⟨g, i, none⟩ = W.cell? ⟨g, i, none⟩ := fun W k u => World.cell?_setCell_other W ⟨g', k, none⟩ ⟨g, i, none⟩ u (fun e => by injection e with e1 _; exact hg e1.symm)
  rw [f, f, f, f]
  exact h i
theorem size_set4 (w : World) (g : Nat) (u0 u1 u2 u3 : Value) : ((((w.setCell ⟨g, 0, none⟩ u0).setCell ⟨g, 1, none⟩ u1).setCell ⟨g, 2, none⟩ u2).setCell ⟨g, 3, none⟩ u3).heap.size = w.heap.size := by simp

namespace charsetSetsW
/-- what the loop keeps -/
structure Keeps (W : World) (s t : Nat → Int) (x y S p7 p8 p9 p10 p11 : Nat) : Prop where
  fs : Four W S s
  ft : Four W (S + 1) t
  l : ∀ i, W.cell? ⟨S + 1 + 1, i, none⟩ = (#[Value.int .u8 x, .int .u8 y] : Array Value)[i]?
  or_ : Four W p7 (orS s t)
  and_ : Four W p8 (andS s t)
  less_ : Four W p9 (lessS s t)
  not_ : Four W p10 (notS s)
  of_ : Four W p11 (ofS x y)
  lt : S + 3 ≤ W.heap.size ∧ p7 < W.heap.size ∧ p8 < W.heap.size ∧ p9 < W.heap.size ∧ p10 < W.heap.size ∧ p11 < W.heap.size
theorem Keeps.below {W W' : World} {s t : Nat → Int} {x y S p7 p8 p9 p10 p11 : Nat} (h : Keeps W s t x y S p7 p8 p9 p10 p11) (hb : Below W.heap.size W W') : Keeps W' s t x y S p7 p8 p9 p10 p11 := by
  have hl := h.lt
  have hs := hb.size
  exact ⟨h.fs.below hb (by omega), h.ft.below hb (by omega), keepB hb h.l (by omega), h.or_.below hb (by omega), h.and_.below hb (by omega), h.less_.below hb (by omega), h.not_.below hb (by omega), h.of_.below hb (by omega), by omega⟩
set_option maxHeartbeats 4000000 in
set_option maxRecDepth 100000 in
theorem walk (s t : Nat → Int) (x y : Nat) (w : World) (hs : SetIn s) (ht : SetIn t) (hx : x < 256) (hy : y < 256) (hT : TabIn w) :
    Calls Tryd.prog 3 #[setV s, setV t, .agg #[.int .u8 x, .int .u8 y]] w fun e w' => e = .returned (.bool true) ∧ Below w.heap.size w w' := by
  have HT := Lib.hid hT
  have HS := Lib.hid hs
  have HTT := Lib.hid ht
  clear hT hs ht
  go_enter Tryd.func3, Tryd.ntmps3
  go_wp2_with fail
  have f1 := ((Four.new w s 24).old (.cells #[.int .u64 (t 0), .int .u64 (t 1), .int .u64 (t 2), .int .u64 (t 3)] 24) (by simp)).old (.cells #[.int .u8 x, .int .u8 y] 25) (by simp; omega)
  have f2 := (Four.new (w.alloc (.cells #[.int .u64 (s 0), .int .u64 (s 1), .int .u64 (s 2), .int .u64 (s 3)] 24)) t 24).old (.cells #[.int .u8 x, .int .u8 y] 25) (by simp)
  have f3 := newB ((w.alloc (.cells #[.int .u64 (s 0), .int .u64 (s 1), .int .u64 (s 2), .int .u64 (s 3)] 24)).alloc (.cells #[.int .u64 (t 0), .int .u64 (t 1), .int .u64 (t 2), .int .u64 (t 3)] 24)) #[.int .u8 x, .int .u8 y] 25
  have b1 : Below w.heap.size w (((w.alloc (.cells #[.int .u64 (s 0), .int .u64 (s 1), .int .u64 (s 2), .int .u64 (s 3)] 24)).alloc (.cells #[.int .u64 (t 0), .int .u64 (t 1), .int .u64 (t 2), .int .u64 (t 3)] 24)).alloc (.cells #[.int .u8 x, .int .u8 y] 25)) := (((Below.refl _ _).alloc (Nat.le_refl _) _).alloc (by simp) _).alloc (by simp; omega) _
  simp only [World.size_alloc] at f2 f3
  have hz : w.heap.size + 3 ≤ (((w.alloc (.cells #[.int .u64 (s 0), .int .u64 (s 1), .int .u64 (s 2), .int .u64 (s 3)] 24)).alloc (.cells #[.int .u64 (t 0), .int .u64 (t 1), .int .u64 (t 2), .int .u64 (t 3)] 24)).alloc (.cells #[.int .u8 x, .int .u8 y] 25)).heap.size := by simp
  generalize ((w.alloc (.cells #[.int .u64 (s 0), .int .u64 (s 1), .int .u64 (s 2), .int .u64 (s 3)] 24)).alloc (.cells #[.int .u64 (t 0), .int .u64 (t 1), .int .u64 (t 2), .int .u64 (t 3)] 24)).alloc (.cells #[.int .u8 x, .int .u8 y] 25) = w1 at *
  have F1 := Lib.hid f1
  have F2 := Lib.hid f2
  have F3 := Lib.hid f3
  clear f1 f2 f3
  refine wp_region_alloc 21 zeroC ?_ (by kernel_rfl) (by kernel_rfl) (by kernel_rfl) (by kernel_rfl) (by kernel_rfl) ?_ ?_ ?_
  case refine_2 =>
    intro o T hm hT
    have : T = 24 := by simp [allocsOf] at hm; rcases hm with h | h | h | h | h <;> exact h.2
    subst this
    exact alloc_set o hT
  case refine_3 =>
    intro w2 b2
    have g1 := F1.out.below b2 (by omega)
    have g2 := F2.out.below b2 (by omega)
    have g3 := keepB b2 F3.out (by omega)
    have hz2 : w.heap.size + 3 ≤ w2.heap.size := by have := b2.size; omega
    have s0 := reg1 g1 0 (by omega) (by omega)
    have s1 := reg1 g1 1 (by omega) (by omega)
    have s2 := reg1 g1 2 (by omega) (by omega)
    have s3 := reg1 g1 3 (by omega) (by omega)
    have t0 := reg1 g2 0 (by omega) (by omega)
    have t1 := reg1 g2 1 (by omega) (by omega)
    have t2 := reg1 g2 2 (by omega) (by omega)
    have t3 := reg1 g2 3 (by omega) (by omega)
    have x0 : ∀ d os, (Sort.grow (redrawn w2 d) os).cell? ⟨w.heap.size + 1 + 1, 0, none⟩ = some (.int .u8 x) := fun d os => regB g3 (by omega) d os 0
    have x1 : ∀ d os, (Sort.grow (redrawn w2 d) os).cell? ⟨w.heap.size + 1 + 1, 1, none⟩ = some (.int .u8 y) := fun d os => regB g3 (by omega) d os 1
    simp only [List.map_cons, List.map_nil, shade, isAlloc, Option.isNone_none, Option.isSome_some, Bool.and_true, if_true, Bool.false_eq_true, if_false, List.take_succ_cons, List.take_zero]
    repeat (go_big_quiet_step (fail))
    go_big_quiet_step ((go_at_call 6; exact Calls.regrown_of (or_any s t _ HS.out HTT.out)))
    repeat (go_big_quiet_step (fail))
    go_big_quiet_step ((go_at_call 7; exact Calls.regrown_of (and_any s t _ HS.out HTT.out)))
    repeat (go_big_quiet_step (fail))
    go_big_quiet_step ((go_at_call 8; exact Calls.regrown_of (less_any s t _ HS.out HTT.out)))
    repeat (go_big_quiet_step (fail))
    go_big_quiet_step ((go_at_call 9; exact Calls.regrown_of (not_any s _ HS.out)))
    repeat (go_big_quiet_step (fail))
    go_big_quiet_step ((go_at_call 10; exact Calls.regrown_of (of_any x y _ hx hy)))
    repeat (go_big_quiet_step (fail))
    refine wpQuiet_nil ?_
    rfl
  intro β w2 b2 hβ hne
  have p7 := hβ 7 24 (by simp [allocsOf])
  have p8 := hβ 8 24 (by simp [allocsOf])
  have p9 := hβ 9 24 (by simp [allocsOf])
  have p10 := hβ 10 24 (by simp [allocsOf])
  have p11 := hβ 11 24 (by simp [allocsOf])
  have n78 := hne 7 24 8 24 (by simp [allocsOf]) (by simp [allocsOf]) (by decide)
  have n79 := hne 7 24 9 24 (by simp [allocsOf]) (by simp [allocsOf]) (by decide)
  have n710 := hne 7 24 10 24 (by simp [allocsOf]) (by simp [allocsOf]) (by decide)
  have n711 := hne 7 24 11 24 (by simp [allocsOf]) (by simp [allocsOf]) (by decide)
  have n89 := hne 8 24 9 24 (by simp [allocsOf]) (by simp [allocsOf]) (by decide)
  have n810 := hne 8 24 10 24 (by simp [allocsOf]) (by simp [allocsOf]) (by decide)
  have n811 := hne 8 24 11 24 (by simp [allocsOf]) (by simp [allocsOf]) (by decide)
  have n910 := hne 9 24 10 24 (by simp [allocsOf]) (by simp [allocsOf]) (by decide)
  have n911 := hne 9 24 11 24 (by simp [allocsOf]) (by simp [allocsOf]) (by decide)
  have n1011 := hne 10 24 11 24 (by simp [allocsOf]) (by simp [allocsOf]) (by decide)
  clear hβ hne
  change wpList _ _ _ _ (putAll [(7, 24), (8, 24), (9, 24), (10, 24), (11, 24)] β _) _
  simp only [putAll, List.foldl_cons, List.foldl_nil]
  generalize β 7 = q7 at *
  generalize β 8 = q8 at *
  generalize β 9 = q9 at *
  generalize β 10 = q10 at *
  generalize β 11 = q11 at *
  have G7 := four_blk p7.2
  have G8 := four_blk p8.2
  have G9 := four_blk p9.2
  have G10 := four_blk p10.2
  have G11 := four_blk p11.2
  have gs := F1.out.below b2 (by omega)
  have gt := F2.out.below b2 (by omega)
  have gl := keepB b2 F3.out (by omega)
  have l7 := p7.1
  have l8 := p8.1
  have l9 := p9.1
  have l10 := p10.1
  have l11 := p11.1
  have e70 := G7.cell 0 (by omega)
  have e71 := G7.cell 1 (by omega)
  have e72 := G7.cell 2 (by omega)
  have e73 := G7.cell 3 (by omega)
  have e80 := G8.cell 0 (by omega)
  have e81 := G8.cell 1 (by omega)
  have e82 := G8.cell 2 (by omega)
  have e83 := G8.cell 3 (by omega)
  have e90 := G9.cell 0 (by omega)
  have e91 := G9.cell 1 (by omega)
  have e92 := G9.cell 2 (by omega)
  have e93 := G9.cell 3 (by omega)
  have e100 := G10.cell 0 (by omega)
  have e101 := G10.cell 1 (by omega)
  have e102 := G10.cell 2 (by omega)
  have e103 := G10.cell 3 (by omega)
  have e110 := G11.cell 0 (by omega)
  have e111 := G11.cell 1 (by omega)
  have e112 := G11.cell 2 (by omega)
  have e113 := G11.cell 3 (by omega)
  have z7 := G7.free
  have z8 := G8.free
  have z9 := G9.free
  have z10 := G10.free
  have z11 := G11.free
  have m7 : q7 < w2.heap.size := World.block_lt_of_cell? w2 _ e70
  have m8 : q8 < w2.heap.size := World.block_lt_of_cell? w2 _ e80
  have m9 : q9 < w2.heap.size := World.block_lt_of_cell? w2 _ e90
  have m10 : q10 < w2.heap.size := World.block_lt_of_cell? w2 _ e100
  have m11 : q11 < w2.heap.size := World.block_lt_of_cell? w2 _ e110
  have bz := b2.size
  have hB2 := b1.trans (b2.mono b1.size)
  have GL := Lib.hid gl
  clear p7 p8 p9 p10 p11 F1 F2 F3 gl
  go_wp2_with fail
  go_loopw [12] (fun c wr => ∃ b : Nat, b ≤ 256 ∧ c = .int .i64 b ∧ Hid (Keeps wr s t x y w.heap.size q7 q8 q9 q10 q11) ∧ Below w.heap.size w wr) (fun c _ => 256 - (intOf c).toNat)
  case atStart =>
    refine ⟨0, by omega, rfl, Lib.hid ⟨?_, ?_, ?_, ?_, ?_, ?_, ?_, ?_, ?_⟩, ?_⟩
    · exact ((((gs.far4 _ _ _ _ (by omega)).far4 _ _ _ _ (by omega)).far4 _ _ _ _ (by omega)).far4 _ _ _ _ (by omega)).far4 _ _ _ _ (by omega)
    · exact ((((gt.far4 _ _ _ _ (by omega)).far4 _ _ _ _ (by omega)).far4 _ _ _ _ (by omega)).far4 _ _ _ _ (by omega)).far4 _ _ _ _ (by omega)
    · exact cellsfar4 (cellsfar4 (cellsfar4 (cellsfar4 (cellsfar4 GL.out _ _ _ _ (by omega)) _ _ _ _ (by omega)) _ _ _ _ (by omega)) _ _ _ _ (by omega)) _ _ _ _ (by omega)
    · exact ((((G7.set4 (orS s t)).far4 _ _ _ _ n78).far4 _ _ _ _ n79).far4 _ _ _ _ n710).far4 _ _ _ _ n711
    · exact ((((G8.far4 _ _ _ _ n78.symm).set4 (andS s t)).far4 _ _ _ _ n89).far4 _ _ _ _ n810).far4 _ _ _ _ n811
    · exact ((((G9.far4 _ _ _ _ n79.symm).far4 _ _ _ _ n89.symm).set4 (lessS s t)).far4 _ _ _ _ n910).far4 _ _ _ _ n911
    · exact ((((G10.far4 _ _ _ _ n710.symm).far4 _ _ _ _ n810.symm).far4 _ _ _ _ n910.symm).set4 (notS s)).far4 _ _ _ _ n1011
    · exact ((((G11.far4 _ _ _ _ n711.symm).far4 _ _ _ _ n811.symm).far4 _ _ _ _ n911.symm).far4 _ _ _ _ n1011.symm).set4 (ofS x y)
    · simp only [World.size_setCell]; omega
    · exact below_set4 (below_set4 (below_set4 (below_set4 (below_set4 hB2 _ _ _ _ (by omega)) _ _ _ _ (by omega)) _ _ _ _ (by omega)) _ _ _ _ (by omega)) _ _ _ _ (by omega)
  case round =>
    clear GL hB2 G7 G8 G9 G10 G11 gs gt e70 e71 e72 e73 e80 e81 e82 e83 e90 e91 e92 e93 e100 e101 e102 e103 e110 e111 e112 e113 z7 z8 z9 z10 z11
    obtain ⟨b, hb, rfl, HK, hB⟩ := hrel
    by_cases hlt : b < 256
    · have kl := HK.out.lt
      obtain ⟨B1, hB1⟩ : ∃ B, hasS s b = B := ⟨_, rfl⟩
      obtain ⟨B2, hB2⟩ : ∃ B, hasS t b = B := ⟨_, rfl⟩
      have E1 := Lib.hid hB1
      have E2 := Lib.hid hB2
      clear hB1 hB2
      have s0 := reg1 HK.out.fs 0 (by omega) (by omega)
      have s1 := reg1 HK.out.fs 1 (by omega) (by omega)
      have s2 := reg1 HK.out.fs 2 (by omega) (by omega)
      have s3 := reg1 HK.out.fs 3 (by omega) (by omega)
      have t0 := reg1 HK.out.ft 0 (by omega) (by omega)
      have t1 := reg1 HK.out.ft 1 (by omega) (by omega)
      have t2 := reg1 HK.out.ft 2 (by omega) (by omega)
      have t3 := reg1 HK.out.ft 3 (by omega) (by omega)
      have hbm : (b : Int) % 256 = b := by omega
      go_wp2_with fail
      refine wp_region_quiet_below (by kernel_rfl) (by kernel_rfl) ?_
      repeat (go_big_quiet_step (fail))
      go_big_quiet_step ((go_at_call 11; exact Calls.regrown_of (refhas_lit s b B1 _ hlt HS.out E1.out)))
      repeat (go_big_quiet_step (fail))
      go_big_quiet_step ((go_at_call 11; exact Calls.regrown_of (refhas_lit t b B2 _ hlt HTT.out E2.out)))
      repeat (go_big_quiet_step (fail))
      refine wpQuiet_nil ?_
      intro _ hw'
      obtain ⟨⟨dq, osq⟩, hw''⟩ := hw'
      subst hw''
      have bb : Below wr.heap.size wr (Sort.grow (redrawn wr dq) osq) := below_regrown wr dq osq
      have HK2 := Lib.hid (HK.out.below bb)
      have hB3 : Below w.heap.size w (Sort.grow (redrawn wr dq) osq) := hB.trans (bb.mono hB.size)
      generalize Sort.grow (redrawn wr dq) osq = w3 at *
      clear s0 s1 s2 s3 t0 t1 t2 t3 HK kl
      have kl := HK2.out.lt
      have s0 := reg1 HK2.out.fs 0 (by omega) (by omega)
      have s1 := reg1 HK2.out.fs 1 (by omega) (by omega)
      have s2 := reg1 HK2.out.fs 2 (by omega) (by omega)
      have s3 := reg1 HK2.out.fs 3 (by omega) (by omega)
      have o0 := reg1 HK2.out.or_ 0 (by omega) (by omega)
      have o1 := reg1 HK2.out.or_ 1 (by omega) (by omega)
      have o2 := reg1 HK2.out.or_ 2 (by omega) (by omega)
      have o3 := reg1 HK2.out.or_ 3 (by omega) (by omega)
      have a0 := reg1 HK2.out.and_ 0 (by omega) (by omega)
      have a1 := reg1 HK2.out.and_ 1 (by omega) (by omega)
      have a2 := reg1 HK2.out.and_ 2 (by omega) (by omega)
      have a3 := reg1 HK2.out.and_ 3 (by omega) (by omega)
      have d0 := reg1 HK2.out.less_ 0 (by omega) (by omega)
      have d1 := reg1 HK2.out.less_ 1 (by omega) (by omega)
      have d2 := reg1 HK2.out.less_ 2 (by omega) (by omega)
      have d3 := reg1 HK2.out.less_ 3 (by omega) (by omega)
      have n0 := reg1 HK2.out.not_ 0 (by omega) (by omega)
      have n1 := reg1 HK2.out.not_ 1 (by omega) (by omega)
      have n2 := reg1 HK2.out.not_ 2 (by omega) (by omega)
      have n3 := reg1 HK2.out.not_ 3 (by omega) (by omega)
      have f0 := reg1 HK2.out.of_ 0 (by omega) (by omega)
      have f1 := reg1 HK2.out.of_ 1 (by omega) (by omega)
      have f2 := reg1 HK2.out.of_ 2 (by omega) (by omega)
      have f3 := reg1 HK2.out.of_ 3 (by omega) (by omega)
      have x0 : ∀ d os, (Sort.grow (redrawn w3 d) os).cell? ⟨w.heap.size + 1 + 1, 0, none⟩ = some (.int .u8 x) := fun d os => regB HK2.out.l (by omega) d os 0
      have x1 : ∀ d os, (Sort.grow (redrawn w3 d) os).cell? ⟨w.heap.size + 1 + 1, 1, none⟩ = some (.int .u8 y) := fun d os => regB HK2.out.l (by omega) d os 1
      have E3 := Lib.hid (has_or s t b HS.out HTT.out)
      have E4 := Lib.hid (has_and s t b HS.out HTT.out)
      have E5 := Lib.hid (has_less s t b HS.out HTT.out)
      have E6 := Lib.hid (has_not s b HS.out)
      have hcase : (x ≤ b ∧ b ≤ y) ∨ ¬ x ≤ b ∨ (x ≤ b ∧ ¬ b ≤ y) := by omega
      clear bb
      go_wp2_with fail
      rcases hcase with ⟨hx1, hy1⟩ | hx1 | ⟨hx1, hy1⟩
      case' inl => have dx : decide ((x : Int) ≤ (b : Int)) = true := by simp; omega
      case' inl => have dy : decide ((b : Int) ≤ (y : Int)) = true := by simp; omega
      case' inl => have E7 := Lib.hid (show hasS (ofS x y) b = true by rw [has_of]; simp; omega)
      case' inr.inl => have dx : decide ((x : Int) ≤ (b : Int)) = false := by simp; omega
      case' inr.inl => have E7 := Lib.hid (show hasS (ofS x y) b = false by rw [has_of]; simp; omega)
      case' inr.inr => have dx : decide ((x : Int) ≤ (b : Int)) = true := by simp; omega
      case' inr.inr => have dy : decide ((b : Int) ≤ (y : Int)) = false := by simp; omega
      case' inr.inr => have E7 := Lib.hid (show hasS (ofS x y) b = false by rw [has_of]; simp; omega)
      all_goals
        cases B1 <;> cases B2
        all_goals
          refine wp_region_quiet_below (by kernel_rfl) (by kernel_rfl) ?_
          repeat (go_big_quiet_step (fail))
          go_big_quiet_step ((go_at_call 12; exact Calls.regrown_of (has_lit s b _ _ hlt HS.out E1.out)))
          repeat (go_big_quiet_step (fail))
          go_big_quiet_step ((go_at_call 12; exact Calls.regrown_of (has_lit (orS s t) b _ _ hlt (orIn HS.out HTT.out) (by rw [E3.out, E1.out, E2.out]))))
          repeat (go_big_quiet_step (fail))
          go_big_quiet_step ((go_at_call 12; exact Calls.regrown_of (has_lit (andS s t) b _ _ hlt (andIn HS.out) (by rw [E4.out, E1.out, E2.out]))))
          repeat (go_big_quiet_step (fail))
          go_big_quiet_step ((go_at_call 12; exact Calls.regrown_of (has_lit (lessS s t) b _ _ hlt (lessIn HS.out) (by rw [E5.out, E1.out, E2.out]))))
          repeat (go_big_quiet_step (fail))
          go_big_quiet_step ((go_at_call 12; exact Calls.regrown_of (has_lit (notS s) b _ _ hlt (notIn HS.out) (by rw [E6.out, E1.out]))))
          repeat (go_big_quiet_step (fail))
          go_big_quiet_step ((go_at_call 12; exact Calls.regrown_of (has_lit (ofS x y) b _ _ hlt (ofIn _ _) E7.out)))
          repeat (go_big_quiet_step (fail))
          refine wpQuiet_nil ?_
          intro _ hw'
          obtain ⟨⟨dq, osq⟩, hw''⟩ := hw'
          subst hw''
          have bb : Below w3.heap.size w3 (Sort.grow (redrawn w3 dq) osq) := below_regrown w3 dq osq
          have HK4 := Lib.hid (HK2.out.below bb)
          have hB4 : Below w.heap.size w (Sort.grow (redrawn w3 dq) osq) := hB3.trans (bb.mono hB3.size)
          generalize Sort.grow (redrawn w3 dq) osq = w4 at *
          clear s0 s1 s2 s3 o0 o1 o2 o3 a0 a1 a2 a3 d0 d1 d2 d3 n0 n1 n2 n3 f0 f1 f2 f3 x0 x1
          go_wp2_with fail
          go_roundw
          case rel => exact ⟨b + 1, by omega, by simp, HK4, hB4⟩
          case measure => simp [intOf]; omega
    · have e : b = 256 := by omega
      subst e
      go_wp2_with fail
      refine (csworks_any _ (HT.out.below hB)).mono ?_
      rintro e w9 ⟨rfl, b9⟩
      go_wp2_with fail
      go_ret
      exact ⟨rfl, hB.trans (b9.mono hB.size)⟩

open Go.ChangeShapes Go.WideShapes
theorem walkRaw {H : Type} (enc : TypeId × Value → H) (v0 v1 v2 : Value) (W : World) {base : Nat} {d0 d1 d2 : DataW H} {p0 p1 p2 : List MemPlace}
    (wv0 : Value.okWide Tryd.prog W .any base 24 v0) (h0 : DataW.Trod enc Tryd.prog W 0 (fun _ => true) true 24 v0 d0 p0) (_lt0 : ∀ x ∈ p0, x.block < W.heap.size)
    (wv1 : Value.okWide Tryd.prog W .any base 24 v1) (h1 : DataW.Trod enc Tryd.prog W 0 (fun _ => true) true 24 v1 d1 p1) (_lt1 : ∀ x ∈ p1, x.block < W.heap.size)
    (wv2 : Value.okWide Tryd.prog W .any base 25 v2) (h2 : DataW.Trod enc Tryd.prog W 0 (fun _ => true) true 25 v2 d2 p2) (_lt2 : ∀ x ∈ p2, x.block < W.heap.size)
    (hL : laidMet Tryd.prog Rows.charsetSetsRow.laid W) :
    Calls Tryd.prog 3 #[v0, v1, v2] W fun e w' => e = .returned (.bool true) ∧ Below W.heap.size W w' := by
  obtain ⟨s, hs, rfl⟩ := open_setV wv0 h0
  obtain ⟨t, ht, rfl⟩ := open_setV wv1 h1
  obtain ⟨x, y, hx, hy, rfl⟩ := open_u8two wv2 h2
  exact walk s t x y W hs ht hx hy (tab_in hL (by kernel_rfl))
end charsetSetsW
end Go.Proofs.YtifokkclkmdclaaDoor
