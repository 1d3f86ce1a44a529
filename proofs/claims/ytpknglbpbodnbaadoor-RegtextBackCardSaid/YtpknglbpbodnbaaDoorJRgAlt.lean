/-
  The walk of alt. Conditions: as atom's; cat does what it is said to do.
-/
import Derived.Test.YtpknglbpbodnbaaDoorJRgCat
namespace Go.Proofs.YtpknglbpbodnbaaDoor
set_option linter.unusedVariables false
set_option linter.unusedSimpArgs false
open Go.RowKit Go.Sort Cs Rg Go.ChangeShapes Go.WideShapes

theorem Grows.one {P : Nat → Prop} {w : World} {base : Nat} {n : Nd} {a : Option Addr} {c : Nat} (hb : base ≤ w.heap.size) (h : NdP P w a n) :
    Grows P (w.alloc (.cells #[.int .i64 n.kind, .int .u64 n.set.a, .int .u64 n.set.b, .int .u64 n.set.c, .int .u64 n.set.d, .slice a n.kids.length c, .int .i64 n.lo, .int .i64 n.hi] 27)) base (.slice (some ⟨w.heap.size, 0, none⟩) 1 1) [n] := by
  refine ⟨[(n, a, c)], rfl, ?_, fun e he => ?_⟩
  · rw [cellsL_one]
    exact World.ownsRow_lit w _ 1 hb (by unfold maxLen; omega) rfl
  · obtain rfl := List.mem_singleton.1 he
    refine NdP.keep (by simp) (fun b hb2 hp => ⟨⟨hp, ?_⟩, ((Below.refl w.heap.size w).alloc (Nat.le_refl _) _).block b hb2⟩) n h
    simp [Value.ownBlock]
    omega
theorem barP_end {f o : Nat} {ps : List Nd} {l : List Nat} (h : l.head? ≠ some 124) : barP (f + 1) o ps l = some (if ps.length = 1 then ps.headD zeroN else joinN 3 ps, l) := by rw [barP, if_neg h]
set_option maxHeartbeats 8000000 in
set_option maxRecDepth 1000000 in
theorem alt_step (rb : Nat) (s : ByteArray) (hs : s.size ≤ 256) (f : Nat) (hA : ∀ g, g < f → CAT rb s g) : ALT rb s f := by
  intro i o w h ho hi hT hf
  have HT := Lib.hid (And.intro hT h)
  have HA := Lib.hid hA
  have G0 := Lib.hid (Na.new h)
  have hi6 : i ≤ 256 := by omega
  have hli := restL_len s i
  obtain ⟨f, rfl⟩ : ∃ f', f = f' + 1 := ⟨f - 1, by omega⟩
  obtain ⟨R, hR⟩ : ∃ R, altP (f + 1) o (restL s i) = R := ⟨_, rfl⟩
  have HR := Lib.hid hR
  rw [hR]
  have hw1 : (w.alloc (.cells #[.int .i64 0, .int .u64 0, .int .u64 0, .int .u64 0, .int .u64 0, .slice none 0 0, .int .i64 0, .int .i64 0] 27)).heap.size = w.heap.size + 1 := by simp
  obtain ⟨i0, hi0, hz0, hz1, hz2⟩ := info_parts infoNode
  clear hR h hT hA
  go_enter Tryd.func40, Tryd.ntmps40
  go_wp2_with fail
  generalize w.alloc (.cells #[.int .i64 0, .int .u64 0, .int .u64 0, .int .u64 0, .int .u64 0, .slice none 0 0, .int .i64 0, .int .i64 0] 27) = w1 at *
  refine (HA.out f (by omega) i o _ G0.out.rd.1 ho hi (HT.out.1.only HT.out.2 G0.out.rd.2) (by omega)).mono ?_
  intro e w2 ht
  rcases ht.elim with ⟨hn, ⟨E, x, rfl, hE⟩, ho⟩ | ⟨n0, j0, v, hn, rfl, ⟨a', c', rfl, hnp⟩, hij0, hj0, hg⟩
  · have HE := Lib.hid (show altP (f + 1) o (restL s i) = none by rw [altP, hn])
    exact ⟨rfl, by rw [← HR.out, HE.out]; exact ⟨⟨E, x, rfl, hE⟩, G0.out.rd.2.trans ho⟩⟩
  have hsz0 := ((sizes f).2.2.1 o [] (restL s i) n0 (restL s j0) (restL_bytes s i) (by simp) hn).1
  have htk0 := (takes f).2.2.1 o [] (restL s i) n0 (restL s j0) hn
  have hlj0 := restL_len s j0
  simp only [sizeL] at hsz0
  have CP0 := Lib.hid (show altP (f + 1) o (restL s i) = barP f o [n0] (restL s j0) by rw [altP, hn])
  have hnd : NdP (fun b => w.heap.size < b) w2 a' n0 := NdP.keep (Nat.le_refl _) (fun b hb hp => ⟨by have : w1.heap.size ≤ b := hp; omega, rfl⟩) n0 hnp
  have G1 := Lib.hid (G0.out.on hg)
  have hw2 := G1.out.res.lt
  have P0 := Lib.hid (Pa.mk (G1.out.go ((Below.refl w2.heap.size w2).alloc (Nat.le_refl _) (.cells #[.int .i64 n0.kind, .int .u64 n0.set.a, .int .u64 n0.set.b, .int .u64 n0.set.c, .int .u64 n0.set.d, .slice a' n0.kids.length c', .int .i64 n0.lo, .int .i64 n0.hi] 27))) (Grows.one (c := c') (base := w.heap.size + 1) (by omega) hnd))
  clear hg hn ht G0 G1 hnp hnd hw1
  unfold nodeV
  go_wp2_with fail
  obtain ⟨v0, hv0⟩ : ∃ v0, Value.slice (some ⟨w2.heap.size, 0, none⟩) 1 1 = v0 := ⟨_, rfl⟩
  generalize w2.alloc (.cells #[.int .i64 n0.kind, .int .u64 n0.set.a, .int .u64 n0.set.b, .int .u64 n0.set.c, .int .u64 n0.set.d, .slice a' n0.kids.length c', .int .i64 n0.lo, .int .i64 n0.hi] 27) = w3 at *
  go_loopw [3] (fun pv wr => ∃ (j fk : Nat) (ps : List Nd), i ≤ j ∧ j ≤ s.size ∧ fk ≤ f ∧ 4 * (s.size - j) + 1 ≤ fk ∧ 1 ≤ ps.length ∧ sizeL ps ≤ 2 * (j - i) + 1 ∧ Hid (altP (f + 1) o (restL s i) = barP fk o ps (restL s j) ∧ True) ∧ Hid (Pa w wr rb s j o pv ps)) (fun _ wr => s.size - idxOf rb wr)
  case atStart => exact ⟨j0, f, [n0], hij0, hj0, Nat.le_refl _, by omega, Nat.le_refl _, by simp only [sizeL]; omega, Lib.hid ⟨CP0.out, trivial⟩, P0⟩
  case round =>
    clear P0 CP0 hv0
    obtain ⟨j, fk, ps, hij, hj, hfk, hfl, hps, hsl, CP, P0⟩ := hrel
    have HIDX := Lib.hid P0.out.na.rd.1.idx
    have hlj := restL_len s j
    have hsz : sizeL ps ≤ 1000000 := by omega
    obtain ⟨fk, rfl⟩ : ∃ f', fk = f' + 1 := ⟨fk - 1, by omega⟩
    cases hr : restL s j with
    | nil =>
      have HRR := Lib.hid hr
      have BE := Lib.hid (barP_end (f := fk) (o := o) (ps := ps) (l := restL s j) (by rw [hr]; simp))
      clear hr
      go_wp2_with fail
      refine (peek_nil HRR.out P0.out.na.rd.1 hs).mono ?_
      rintro e w4 ⟨rfl, bx⟩
      have P1 := Lib.hid (P0.out.go bx)
      clear bx P0
      obtain ⟨A5, c5, rfl, hsrc⟩ := P1.out.gr.src
      by_cases h1 : ps.length = 1
      · obtain ⟨n1, rfl⟩ := List.length_eq_one_iff.1 h1
        have k2 : (([n1] : List Nd).length : Int) = 1 := rfl
        obtain ⟨pb, off, a', c', hA5, hpb, hl8, hnd⟩ := hsrc.get (i := 0) (m := n1) rfl
        subst hA5
        rw [Nat.zero_mul, Nat.add_zero] at hl8
        obtain ⟨x0, x1, x2, x3, x4, x5, x6, x7⟩ := hl8.c8
        have ND := Lib.hid hnd
        have HE := Lib.hid (show altP (f + 1) o (restL s i) = some (n1, restL s j) by rw [CP.out.1, BE.out]; rfl)
        have G2 := Lib.hid P1.out.na
        clear hl8 hsrc hnd h1 BE
        obtain ⟨⟨y0, y1, y2, y3, y4, y5, y6, y7⟩, z0, z1, z2, z3, z4, z5, z6, z7⟩ := G2.out.res.c8
        go_wp2_with fail
        refine bodyPost_ret (v := nodeV n1.kind n1.set (.slice a' n1.kids.length c') n1.lo n1.hi) (by simp [results, Tryd.results40, go_sem, nodeV, y0, y1, y2, y3, y4, y5, y6, y7]) rfl ?_
        rw [← HR.out, HE.out]
        have hoo := only_set8 w4 w.heap.size (.int .i64 n1.kind) (.int .u64 n1.set.a) (.int .u64 n1.set.b) (.int .u64 n1.set.c) (.int .u64 n1.set.d) (.slice a' n1.kids.length c') (.int .i64 n1.lo) (.int .i64 n1.hi)
        exact Told.some_ ⟨a', c', rfl, NdP.keep hoo.size (fun b hb hp => ⟨Nat.le_of_lt hp, hoo.block b hb (by simp; omega)⟩) n1 ND.out⟩ hij hj (G2.out.end_ _ _ _ _ _ _ _ _)
      · have k2 : ((ps.length : Int) == 1) = false := by rw [beq_eq_false_iff_ne]; omega
        have HE := Lib.hid (show altP (f + 1) o (restL s i) = some (joinN 3 ps, restL s j) by rw [CP.out.1, BE.out, if_neg h1])
        have HSRC := Lib.hid hsrc
        clear hsrc BE h1
        have hjoin := join_any _ 3 ps A5 c5 _ HSRC.out (Nat.le_trans (flatN_len 3 ps) hsz) (Nat.le_trans (sizeL_len ps) hsz)
        have HJ := Lib.hid hjoin
        clear hjoin
        go_wp2_with fail
        refine HJ.out.mono ?_
        rintro e w6 ⟨v, rfl, ⟨a', c', rfl, hnp⟩, bx⟩
        obtain ⟨nn, hnn⟩ : ∃ nn, joinN 3 ps = nn := ⟨_, rfl⟩
        rw [hnn] at hnp HE
        simp only [hnn]
        have G2 := Lib.hid (P1.out.na.go bx)
        have hw5 := P1.out.na.res.lt
        have ND := Lib.hid (NdP.keep (Q := fun b => w.heap.size < b) (Nat.le_refl _) (fun b hb hp => ⟨by rcases hp with hp | hp <;> omega, rfl⟩) nn hnp)
        clear hnp bx HJ hnn
        unfold nodeV
        obtain ⟨⟨y0, y1, y2, y3, y4, y5, y6, y7⟩, z0, z1, z2, z3, z4, z5, z6, z7⟩ := G2.out.res.c8
        go_wp2_with fail
        refine bodyPost_ret (v := nodeV nn.kind nn.set (.slice a' nn.kids.length c') nn.lo nn.hi) (by simp [results, Tryd.results40, go_sem, nodeV, y0, y1, y2, y3, y4, y5, y6, y7]) rfl ?_
        rw [← HR.out, HE.out]
        have hoo := only_set8 w6 w.heap.size (.int .i64 nn.kind) (.int .u64 nn.set.a) (.int .u64 nn.set.b) (.int .u64 nn.set.c) (.int .u64 nn.set.d) (.slice a' nn.kids.length c') (.int .i64 nn.lo) (.int .i64 nn.hi)
        exact Told.some_ ⟨a', c', rfl, NdP.keep hoo.size (fun b hb hp => ⟨Nat.le_of_lt hp, hoo.block b hb (by simp; omega)⟩) nn ND.out⟩ hij hj (G2.out.end_ _ _ _ _ _ _ _ _)
    | cons b l =>
      have HRR := Lib.hid hr
      have hb := restL_cons hr
      have hjl := hb.1
      have hjs : j + 1 ≤ s.size := hjl
      have hj6 : j < 256 := by omega
      have hlj2 := restL_len s (j + 1)
      have hb9 := hb.2.2
      by_cases hend : b = 124
      · have CP2 := Lib.hid (show barP (fk + 1) o ps (restL s j) = match catP fk o [] (restL s (j + 1)) with
          | none => none
          | some (n, l1) => barP fk o (ps ++ [n]) l1 by
          rw [barP, hb.2.1, hr, if_pos (by rw [hend]; rfl)]
          simp only [List.tail_cons]
          cases catP fk o [] l <;> rfl)
        have q1 : ((b : Int) == 124) = true := by rw [hend]; rfl
        clear hend hr hb
        go_wp2_with fail
        refine (peek_cons HRR.out P0.out.na.rd.1 hs).mono ?_
        rintro e w4 ⟨rfl, bx⟩
        have P1 := Lib.hid (P0.out.go bx)
        clear bx P0
        obtain ⟨⟨c0, c1, c2⟩, z0, z1, z2⟩ := P1.out.na.rd.1.c3
        go_upto_region 4 with (fail)
        have P2 := Lib.hid P1.out.step
        clear c0 c1 c2 z0 z1 z2 P1
        generalize w4.setCell ⟨rb, 1, none⟩ (.int .i64 ((j : Int) + 1)) = w7 at *
        have P0 := P2
        clear P2
        go_wp2_with fail
        refine (HA.out fk (by omega) (j + 1) o _ P0.out.na.rd.1 ho hjs (HT.out.1.only HT.out.2 P0.out.na.rd.2) (by omega)).mono ?_
        intro e w5 ht
        rcases ht.elim with ⟨hn, ⟨E, x, rfl, hE⟩, ho⟩ | ⟨n, j2, v, hn, rfl, ⟨a', c', rfl, hnp⟩, hij2, hj2, hg⟩
        · have HE := Lib.hid (show altP (f + 1) o (restL s i) = none by rw [CP.out.1, CP2.out, hn])
          exact ⟨rfl, by rw [← HR.out, HE.out]; exact ⟨⟨E, x, rfl, hE⟩, P0.out.na.rd.2.trans ho⟩⟩
        have hsz2 := (sizes fk).2.2.1 o [] (restL s (j + 1)) n (restL s j2) (restL_bytes s (j + 1)) (by simp) hn
        have htk := (takes fk).2.2.1 o [] (restL s (j + 1)) n (restL s j2) hn
        have P2 := Lib.hid (P0.out.on hg)
        have HN := Lib.hid (And.intro hn (And.intro hsz2.1 htk))
        have hlt4 := fun g => P0.out.gr.lt (g := g)
        have hw4 := P0.out.na.res.lt
        have hnp2 : NdP (fun b => w.heap.size < b ∧ u3.ownBlock ≠ some b) w5 a' n := NdP.keep (Nat.le_refl _) (fun b hb hp => ⟨⟨by omega, fun e => by have := hlt4 b e; omega⟩, rfl⟩) n hnp
        have ND := Lib.hid hnp2
        clear hn hg ht hnp hnp2 hlt4 hsz2 htk P0
        unfold nodeV
        obtain ⟨L, hL1, hL2, hL3⟩ := P2.out.gr
        have hbk2 := (Below.refl w5.heap.size w5).alloc (Nat.le_refl _) (.cells #[.int .i64 n.kind, .int .u64 n.set.a, .int .u64 n.set.b, .int .u64 n.set.c, .int .u64 n.set.d, .slice a' n.kids.length c', .int .i64 n.lo, .int .i64 n.hi] 27)
        have hM2 := reads_new w5 27 #[.int .i64 n.kind, .int .u64 n.set.a, .int .u64 n.set.b, .int .u64 n.set.c, .int .u64 n.set.d, .slice a' n.kids.length c', .int .i64 n.lo, .int .i64 n.hi] 8 rfl
        have hL2' := hL2.alloc (.cells #[.int .i64 n.kind, .int .u64 n.set.a, .int .u64 n.set.b, .int .u64 n.set.c, .int .u64 n.set.d, .slice a' n.kids.length c', .int .i64 n.lo, .int .i64 n.hi] 27)
        have P3 := Lib.hid (P2.out.go hbk2)
        have hl2 : ∀ e ∈ L, NdP (fun b => w.heap.size < b ∧ u3.ownBlock ≠ some b) (w5.alloc (.cells #[.int .i64 n.kind, .int .u64 n.set.a, .int .u64 n.set.b, .int .u64 n.set.c, .int .u64 n.set.d, .slice a' n.kids.length c', .int .i64 n.lo, .int .i64 n.hi] 27)) e.2.1 e.1 := fun e he => NdP.keep hbk2.size (fun b hb hp => ⟨hp, hbk2.block b hb⟩) e.1 (hL3 e he)
        have hn2 : NdP (fun b => w.heap.size < b ∧ u3.ownBlock ≠ some b) (w5.alloc (.cells #[.int .i64 n.kind, .int .u64 n.set.a, .int .u64 n.set.b, .int .u64 n.set.c, .int .u64 n.set.d, .slice a' n.kids.length c', .int .i64 n.lo, .int .i64 n.hi] 27)) a' n := NdP.keep hbk2.size (fun b hb hp => ⟨hp, hbk2.block b hb⟩) n ND.out
        have HL := Lib.hid (And.intro hL1 (And.intro hl2 hn2))
        have hw5 := P2.out.na.res.lt
        have hpl := sizeL_len ps
        clear hbk2 hl2 hn2 hL2 hL1 hL3 P2 ND
        go_wp2_with (at_builtin; refine wpList_append_any _ rfl _ _ 25 rfl (w.heap.size + 1) 27 i0 zeroNd 8 80 Tryd.underlying25 hi0 hz0 hz1 hz2 rfl (by decide) _ _ _ rfl hL2' _ _ 1 1 _ rfl hM2 (cellsE_plain (n, a', c')) (by unfold maxLen; omega) (by omega) (by simp; omega) ?_; intro v' w8 hown hgrow hat)
        have P4 := Lib.hid (P3.out.push HL.out.1 hL2' hown hgrow hat HL.out.2.1 HL.out.2.2)
        clear hown hgrow hat hL2' hM2 P3
        go_wp2_with fail
        go_roundw
        case rel => exact ⟨j2, fk, ps ++ [n], by omega, hj2, by omega, by omega, by simp, by rw [sizeL_app]; have := HN.out.2.1; rw [restL_len, restL_len] at this; simp only [sizeL] at this ⊢; omega, Lib.hid ⟨by rw [CP.out.1, CP2.out, HN.out.1], trivial⟩, P4⟩
        case measure => rw [P4.out.na.rd.1.idx, HIDX.out]; omega
      · have BE := Lib.hid (barP_end (f := fk) (o := o) (ps := ps) (l := restL s j) (by rw [hr]; simpa using hend))
        have q1 : ((b : Int) == 124) = false := by rw [beq_eq_false_iff_ne]; omega
        clear hend hr hb
        go_wp2_with fail
        refine (peek_cons HRR.out P0.out.na.rd.1 hs).mono ?_
        rintro e w4 ⟨rfl, bx⟩
        have P1 := Lib.hid (P0.out.go bx)
        clear bx P0
        obtain ⟨A5, c5, rfl, hsrc⟩ := P1.out.gr.src
        by_cases h1 : ps.length = 1
        · obtain ⟨n1, rfl⟩ := List.length_eq_one_iff.1 h1
          have k2 : (([n1] : List Nd).length : Int) = 1 := rfl
          obtain ⟨pb, off, a', c', hA5, hpb, hl8, hnd⟩ := hsrc.get (i := 0) (m := n1) rfl
          subst hA5
          rw [Nat.zero_mul, Nat.add_zero] at hl8
          obtain ⟨x0, x1, x2, x3, x4, x5, x6, x7⟩ := hl8.c8
          have ND := Lib.hid hnd
          have HE := Lib.hid (show altP (f + 1) o (restL s i) = some (n1, restL s j) by rw [CP.out.1, BE.out]; rfl)
          have G2 := Lib.hid P1.out.na
          clear hl8 hsrc hnd h1 BE
          obtain ⟨⟨y0, y1, y2, y3, y4, y5, y6, y7⟩, z0, z1, z2, z3, z4, z5, z6, z7⟩ := G2.out.res.c8
          go_wp2_with fail
          refine bodyPost_ret (v := nodeV n1.kind n1.set (.slice a' n1.kids.length c') n1.lo n1.hi) (by simp [results, Tryd.results40, go_sem, nodeV, y0, y1, y2, y3, y4, y5, y6, y7]) rfl ?_
          rw [← HR.out, HE.out]
          have hoo := only_set8 w4 w.heap.size (.int .i64 n1.kind) (.int .u64 n1.set.a) (.int .u64 n1.set.b) (.int .u64 n1.set.c) (.int .u64 n1.set.d) (.slice a' n1.kids.length c') (.int .i64 n1.lo) (.int .i64 n1.hi)
          exact Told.some_ ⟨a', c', rfl, NdP.keep hoo.size (fun b hb hp => ⟨Nat.le_of_lt hp, hoo.block b hb (by simp; omega)⟩) n1 ND.out⟩ hij hj (G2.out.end_ _ _ _ _ _ _ _ _)
        · have k2 : ((ps.length : Int) == 1) = false := by rw [beq_eq_false_iff_ne]; omega
          have HE := Lib.hid (show altP (f + 1) o (restL s i) = some (joinN 3 ps, restL s j) by rw [CP.out.1, BE.out, if_neg h1])
          have HSRC := Lib.hid hsrc
          clear hsrc BE h1
          have hjoin := join_any _ 3 ps A5 c5 _ HSRC.out (Nat.le_trans (flatN_len 3 ps) hsz) (Nat.le_trans (sizeL_len ps) hsz)
          have HJ := Lib.hid hjoin
          clear hjoin
          go_wp2_with fail
          refine HJ.out.mono ?_
          rintro e w6 ⟨v, rfl, ⟨a', c', rfl, hnp⟩, bx⟩
          obtain ⟨nn, hnn⟩ : ∃ nn, joinN 3 ps = nn := ⟨_, rfl⟩
          rw [hnn] at hnp HE
          simp only [hnn]
          have G2 := Lib.hid (P1.out.na.go bx)
          have hw5 := P1.out.na.res.lt
          have ND := Lib.hid (NdP.keep (Q := fun b => w.heap.size < b) (Nat.le_refl _) (fun b hb hp => ⟨by rcases hp with hp | hp <;> omega, rfl⟩) nn hnp)
          clear hnp bx HJ hnn
          unfold nodeV
          obtain ⟨⟨y0, y1, y2, y3, y4, y5, y6, y7⟩, z0, z1, z2, z3, z4, z5, z6, z7⟩ := G2.out.res.c8
          go_wp2_with fail
          refine bodyPost_ret (v := nodeV nn.kind nn.set (.slice a' nn.kids.length c') nn.lo nn.hi) (by simp [results, Tryd.results40, go_sem, nodeV, y0, y1, y2, y3, y4, y5, y6, y7]) rfl ?_
          rw [← HR.out, HE.out]
          have hoo := only_set8 w6 w.heap.size (.int .i64 nn.kind) (.int .u64 nn.set.a) (.int .u64 nn.set.b) (.int .u64 nn.set.c) (.int .u64 nn.set.d) (.slice a' nn.kids.length c') (.int .i64 nn.lo) (.int .i64 nn.hi)
          exact Told.some_ ⟨a', c', rfl, NdP.keep hoo.size (fun b hb hp => ⟨Nat.le_of_lt hp, hoo.block b hb (by simp; omega)⟩) nn ND.out⟩ hij hj (G2.out.end_ _ _ _ _ _ _ _ _)
end Go.Proofs.YtpknglbpbodnbaaDoor
