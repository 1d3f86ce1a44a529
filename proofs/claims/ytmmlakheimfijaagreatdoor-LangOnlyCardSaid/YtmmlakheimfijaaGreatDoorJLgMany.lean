/-
  The walk of lang.Many. Conditions: the automaton lies in memory.
-/
import Derived.Test.YtmmlakheimfijaaGreatDoorJLgInts
namespace Go.Proofs.YtmmlakheimfijaaGreatDoor
set_option linter.unusedVariables false
set_option linter.unusedSimpArgs false
open Go.RowKit Go.Maps Go.Sort Go.ChangeShapes Go.WideShapes

def wideR (blk : Nat → Nat) (b k : Nat) : Int := (wideN blk b k : Int)
/-- the three rows -/
structure NxtW (w0 w : World) (M X gw g gn : Nat) (wd : Nat → Int) (C P : Nat → Nat) : Prop where
  n : NxtAt w0 w M g gn C P
  w : w.ownsRow w0.heap.size 3 1 (.slice (some ⟨gw, 0, none⟩) X X) X (intC wd X)
  lw : gw < gn
section
variable {w0 w w' : World} {M X gw g gn : Nat} {wd : Nat → Int} {C P P' : Nat → Nat}
theorem NxtW.below (h : NxtW w0 w M X gw g gn wd C P) (hb : RowKit.Below w.heap.size w w') : NxtW w0 w' M X gw g gn wd C P :=
  ⟨h.n.below hb, own_only h.w (Only.of_below (S := []) hb) (by simp), h.lw⟩
theorem NxtW.put (h : NxtW w0 w M X gw g gn wd C P) {m y : Nat} (hm : m < M) (hP : ∀ z, z < M → P' z = if z = m then y else P z) : NxtW w0 (w.setCell ⟨gn, m, none⟩ (.int .i64 (cutN y))) M X gw g gn wd C P' :=
  ⟨h.n.put hm hP, own_set h.w (a := ⟨gn, m, none⟩) _ (by simp [Value.ownBlock]; have := h.lw; omega), h.lw⟩
theorem NxtW.same (h : NxtW w0 w M X gw g gn wd C P) (hP : ∀ z, P' z = P z) : NxtW w0 w M X gw g gn wd C P' := ⟨h.n.same hP, h.w, h.lw⟩
end
set_option maxHeartbeats 8000000 in
set_option maxRecDepth 1000000 in
theorem many_any (v : Value) (n : Int) (D : DfaI) (w : World) (h : DfaAt w v D) (hD : D.In) (hn : In64 n) : Calls Tryz.prog 13 #[v, .int .i64 n] w fun e w' => e = .returned (.int .i64 (manyI D n)) ∧ Below w.heap.size w w' := by
  by_cases hbad : rightD D = true ∧ 0 ≤ n ∧ n ≤ 1024
  case neg =>
    have hre : manyI D n = 0 := by unfold manyI; rw [if_neg hbad]
    obtain ⟨S, af, ab, an, F, B, M, cf, cb, cn, hS, hF, hB, hM, rfl⟩ := h.form
    have hal := (Below.refl w.heap.size w).alloc (Nat.le_refl _) (.cells #[.int .i64 S, .slice af F cf, .slice ab B cb, .slice an M cn] 26)
    have hq := Blk.new w 26 #[.int .i64 S, .slice af F cf, .slice ab B cb, .slice an M cn]
    obtain ⟨⟨y0, y1, y2, y3⟩, -⟩ := hq.c4
    have hcall := dright_any _ D _ (h.below hal) hD
    have H := Lib.hid hal
    rw [hre]
    obtain ⟨R, hr⟩ : ∃ R, rightD D = R := ⟨_, rfl⟩
    rw [hr] at hcall hbad
    clear h hal hq hr hre hS hF hB hM
    go_enter Tryz.func13, Tryz.ntmps13
    go_wp2_with fail
    refine hcall.mono ?_
    rintro e w1 ⟨rfl, b1⟩
    clear y0 y1 y2 y3
    cases R with
    | false =>
      go_wp2_with fail
      go_ret
      exact ⟨rfl, H.out.trans (b1.mono (by simp))⟩
    | true =>
      by_cases h0 : n < 0
      · go_wp2_with fail
        go_ret
        exact ⟨rfl, H.out.trans (b1.mono (by simp))⟩
      · have h1 : 1024 < n := by
          refine Int.lt_of_not_ge fun h => hbad ⟨rfl, by omega, h⟩
        clear hbad
        go_wp2_with fail
        go_ret
        exact ⟨rfl, H.out.trans (b1.mono (by simp))⟩
  case pos =>
    obtain ⟨hr, hn0, hn1⟩ := hbad
    have hre : manyI D n = cutN (manyF D.aut D.blk n.toNat) := by unfold manyI; rw [if_pos ⟨hr, hn0, hn1⟩]
    have hR := rightD_iff.1 hr
    obtain ⟨N, rfl⟩ : ∃ N : Nat, n = (N : Int) := ⟨n.toNat, by omega⟩
    obtain ⟨S, M, af, ab, an, cf, cb, cn, hS, hM, rfl, hd⟩ := RefD.mk_ h hR
    have hal := (Below.refl w.heap.size w).alloc (Nat.le_refl _) (.cells #[.int .i64 (S : Int), .slice af M cf, .slice ab 256 cb, .slice an M cn] 26)
    have hcall := dright_any _ D _ (h.below hal) hD
    have hSM : S < M := by have := hR.s1; omega
    have hM0 : 0 < M := by omega
    have hM4 : M ≤ 4096 := by have := hR.m2; omega
    have hSs : D.aut.start = S := by show D.start.toNat = S; omega
    have hmany : D.aut.many = M := by show D.nx.length = M; rw [D.nx_len]; exact hM
    have hw256 := hR.wide_le
    have hw0 := hR.ok.wide0
    have hz1 : (w.alloc (.cells #[.int .i64 (S : Int), .slice af M cf, .slice ab 256 cb, .slice an M cn] 26)).heap.size = w.heap.size + 1 := by simp
    rw [hr] at hcall
    obtain ⟨⟨y0, y1, y2, y3⟩, -⟩ := hd.q.c4
    have H := Lib.hid (And.intro hal hd)
    obtain ⟨X, hX⟩ : ∃ X, D.aut.wide = X := ⟨_, rfl⟩
    rw [hX] at hw256 hw0
    have HP := Lib.hid (And.intro hR (And.intro hM (And.intro hSs (And.intro hmany (And.intro hre hX)))))
    obtain ⟨i0, hi0, hz00, hz01, hz02⟩ := info_parts infoInt
    have hN : N ≤ 1024 := by omega
    have k9 : decide ((N : Int) < 0) = false := decide_eq_false (by omega)
    have k8 : decide (1024 < (N : Int)) = false := decide_eq_false (by omega)
    clear h hal hd hr hre hR hS hM hSs hmany hn0 hn1 hn hX
    go_enter Tryz.func13, Tryz.ntmps13
    go_wp2_with fail
    generalize w.alloc (.cells #[.int .i64 (S : Int), .slice af M cf, .slice ab 256 cb, .slice an M cn] 26) = W at *
    refine hcall.mono ?_
    rintro e w1 ⟨rfl, b1⟩
    clear y0 y1 y2 y3 hcall
    have hzz := b1.size
    have hd1 := H.out.2.below b1
    have hbw := H.out.1.trans (b1.mono H.out.1.size)
    obtain ⟨⟨y0, y1, y2, y3⟩, -⟩ := hd1.q.c4
    obtain ⟨bn, on, bk, ok, c, rfl, m0, m1⟩ := hd1.row HP.out.1 HP.out.2.1 hM0
    rw [HP.out.2.2.2.2.2, Nat.add_zero] at m0
    have H1 := Lib.hid (And.intro hbw hd1)
    clear H b1 hd1 hbw m1
    go_wp2_with (at_make; refine wpList_make_full _ rfl _ _ 23 rfl w1.heap.size 3 i0 (.int .i64 0) 1 Tryz.underlying23 hi0 hz00 hz01 .i64 .i64 X X X rfl rfl rfl rfl (by rw [hz02]; omega) (by unfold maxLen; omega) (by omega) ?_; intro w2 hown2 hgrow2; rw [intC_zero] at hown2; have b2 : RowKit.Below w1.heap.size w1 w2 := (Below.refl _ _).grown hgrow2 (Nat.le_refl _) (fun k e => by cases e); obtain ⟨⟨r0, r1, r2, r3⟩, -⟩ := (H1.out.2.below b2).q.c4)
    obtain ⟨gw, hgw⟩ : ∃ gw, w1.heap.size = gw := ⟨_, rfl⟩
    have hW0 : intC (fun _ => 0) X = intC (wideR D.blk 0) X := intC_congr fun z _ => rfl
    have hown2' : w2.ownsRow w1.heap.size 3 1 (.slice (some ⟨gw, 0, none⟩) X X) X (intC (wideR D.blk 0) X) := by
      rw [← hW0, ← hgw]
      exact hown2
    have H3 := Lib.hid (And.intro hown2' b2)
    have HG := Lib.hid hgw
    clear hown2 hgrow2 b2 r0 r1 r2 r3 y0 y1 y2 y3 m0 hown2' hW0
    try rw [HG.out]
    clear hgw
    go_loopw [37] (fun c wr => ∃ b : Nat, c = .int .i64 b ∧ b ≤ 256 ∧ wr.ownsRow w1.heap.size 3 1 (.slice (some ⟨gw, 0, none⟩) X X) X (intC (wideR D.blk b) X) ∧ RowKit.Below w1.heap.size w1 wr) (fun c _ => 256 - (intOf c).toNat)
    case atStart => exact ⟨0, rfl, by omega, H3.out.1, H3.out.2⟩
    case round =>
      obtain ⟨b, rfl, hb, hrow, hbr⟩ := hrel
      have hd := H1.out.2.below hbr
      obtain ⟨⟨y0, y1, y2, y3⟩, -⟩ := hd.q.c4
      by_cases hlb : b < 256
      · have k4 : decide ((b : Int) < 256) = true := decide_eq_true (by omega)
        obtain ⟨l, g1, g2, g3', g4, g5⟩ := HP.out.1.step (p := 0) (by rw [HP.out.2.1]; exact hM0) hlb
        obtain ⟨b3, o3, rfl, m3⟩ := hd.b.get g2
        have hkX := HP.out.1.blk.1.blk.lt b hlb
        rw [HP.out.2.2.2.2.2] at hkX
        change D.blk b < X at hkX
        have hst := wideN_step D.blk b
        obtain ⟨k, hk⟩ : ∃ k, D.blk b = k := ⟨_, rfl⟩
        rw [hk] at m3 hkX hst
        have hle := wideN_le D.blk k b
        have c5 := hrow.cellAt k (by omega)
        have d5 := hrow.frozenAt k
        rw [intC_at hkX] at c5
        unfold wideR at c5
        obtain ⟨Y, hY⟩ : ∃ Y, wideN D.blk b k = Y := ⟨_, rfl⟩
        rw [hY] at c5 hle
        have hput := own_int (S' := wideR D.blk (b + 1)) (b := ((Y + 1 : Nat) : Int)) hrow hkX fun z _ => by
          unfold wideR
          rw [hst z]
          by_cases e : z = k
          · rw [if_pos e, if_pos e, e, hY]
          · rw [if_neg e, if_neg e]
        have hge := (hrow.lt gw rfl).1
        have hbr' := hbr.setCell (p := ⟨gw, k, none⟩) hge (.int .i64 ((Y + 1 : Nat) : Int))
        have HZ := Lib.hid (And.intro hput hbr')
        clear hrow hbr hd g1 g2 g3' g4 g5 hk hst hY hput hbr'
        go_wp2_with fail
        go_roundw
        case rel => exact ⟨b + 1, by go_num, by omega, HZ.out.1, HZ.out.2⟩
        case measure => simp [intOf]; omega
      · have k4 : decide ((b : Int) < 256) = false := decide_eq_false (by omega)
        have hb2 : b = 256 := by omega
        have HB2 := Lib.hid hb2
        have hszb := hbr.size
        have hgl := (hrow.lt gw rfl).2
        have HW := Lib.hid (And.intro hrow hbr)
        clear hrow hd hb2
        go_wp2_with (at_make; refine wpList_make_full _ rfl _ _ 23 rfl w1.heap.size 3 i0 (.int .i64 0) 1 Tryz.underlying23 hi0 hz00 hz01 .i64 .i64 M M M rfl rfl rfl rfl (by rw [hz02]; omega) (by unfold maxLen; omega) (by omega) ?_; intro w3 hown3 hgrow3; rw [intC_zero] at hown3; have k0 := hown3.cellAt S (by omega); have k2 := hown3.frozenAt S; rw [intC_at hSM] at k0; have b3 : RowKit.Below wr.heap.size wr w3 := (Below.refl _ _).grown hgrow3 (Nat.le_refl _) (fun k e => by cases e); obtain ⟨⟨r0, r1, r2, r3⟩, -⟩ := (H1.out.2.below (hbr.trans (b3.mono hbr.size))).q.c4)
        have hrow0 := own_int (S' := fun s => cutN (cntF D.aut D.blk 0 s)) (b := 1) hown3 hSM fun p hp => by
          unfold cntF
          rw [HP.out.2.2.1]
          split <;> rfl
        obtain ⟨gA, hgA⟩ : ∃ gA, wr.heap.size = gA := ⟨_, rfl⟩
        rw [hgA] at hrow0 hgl
        rw [hgA]
        have hw3 := own_only HW.out.1 (Only.of_below (S := []) b3) (by simp)
        have hb3 := HW.out.2.trans (b3.mono HW.out.2.size)
        have hw4 := own_set hw3 (a := ⟨gA, S, none⟩) (.int .i64 1) (by simp [Value.ownBlock]; omega)
        have hb4 := hb3.setCell (p := ⟨gA, S, none⟩) (by show w1.heap.size ≤ gA; omega) (.int .i64 1)
        generalize w3.setCell ⟨gA, S, none⟩ (.int .i64 1) = w4 at *
        have H3 := Lib.hid (And.intro hrow0 (And.intro hw4 hb4))
        clear hown3 hgrow3 k0 k2 b3 r0 r1 r2 r3 hrow0 hb3 hw3 hw4 hb4 y0 y1 y2 y3 hgA hszb hbr
        go_wp2_with fail
        go_loopw [8, 57] (fun v c wr => ∃ (i g : Nat) (C : Nat → Nat), c = .int .i64 i ∧ i ≤ N ∧ Hid (C = cntF D.aut D.blk i) ∧ v = .slice (some ⟨g, 0, none⟩) M M ∧ wr.ownsRow w1.heap.size 3 1 (.slice (some ⟨g, 0, none⟩) M M) M (intC (fun s => cutN (C s)) M) ∧ wr.ownsRow w1.heap.size 3 1 (.slice (some ⟨gw, 0, none⟩) X X) X (intC (wideR D.blk b) X) ∧ RowKit.Below w1.heap.size w1 wr) (fun _ c _ => N - (intOf c).toNat)
        case atStart => exact ⟨0, _, _, rfl, by omega, Lib.hid rfl, rfl, H3.out.1, H3.out.2.1, H3.out.2.2⟩
        case round =>
          obtain ⟨i, g, C, rfl, hi, hC, rfl, hrow, hww, hbr⟩ := hrel
          by_cases hli : i < N
          · have k1 : decide (i < N) = true := decide_eq_true hli
            have hsz := hbr.size
            have hlg := (hrow.lt g rfl).2
            have hlw := (hww.lt gw rfl).2
            have HO := Lib.hid (And.intro hrow (And.intro hww hbr))
            clear hrow hww hbr
            go_wp2_with (at_make; refine wpList_make_full _ rfl _ _ 23 rfl w1.heap.size 3 i0 (.int .i64 0) 1 Tryz.underlying23 hi0 hz00 hz01 .i64 .i64 M M M rfl rfl rfl rfl (by rw [hz02]; omega) (by unfold maxLen; omega) (by omega) ?_; intro w2 hown2 hgrow2; rw [intC_zero] at hown2)
            have b2 : RowKit.Below wr.heap.size wr w2 := (Below.refl _ _).grown hgrow2 (Nat.le_refl _) (fun k e => by cases e)
            have hP0 : intC (fun _ => 0) M = intC (fun s => cutN (proP D.aut D.blk C 0 0 s)) M := intC_congr fun z _ => rfl
            rw [hP0] at hown2
            have h4 : NxtW w1 w2 M X gw g wr.heap.size (wideR D.blk b) C (proP D.aut D.blk C 0 0) :=
              ⟨⟨own_only HO.out.1 (Only.of_below (S := []) b2) (by simp), hown2, HO.out.2.2.trans (b2.mono HO.out.2.2.size), hlg⟩, own_only HO.out.2.1 (Only.of_below (S := []) b2) (by simp), hlw⟩
            obtain ⟨gn, hgn⟩ : ∃ gn, wr.heap.size = gn := ⟨_, rfl⟩
            rw [hgn] at h4
            rw [hgn]
            have H4 := Lib.hid h4
            clear hown2 hgrow2 b2 hP0 h4 hgn hlg hlw hsz
            go_wp2_with fail
            go_loopw [64] (fun c wr => ∃ s : Nat, c = .int .i64 s ∧ s ≤ M ∧ NxtW w1 wr M X gw g gn (wideR D.blk b) C (proP D.aut D.blk C s 0)) (fun c _ => M - (intOf c).toNat)
            case atStart => exact ⟨0, rfl, by omega, H4.out⟩
            case round =>
              obtain ⟨s, rfl, hs, h4⟩ := hrel
              by_cases hls : s < M
              · have k3 : decide (s < M) = true := decide_eq_true hls
                have hd := H1.out.2.below h4.n.b
                obtain ⟨⟨y0, y1, y2, y3⟩, -⟩ := hd.q.c4
                obtain ⟨bn', on', bk2, ok2, c2, he, m0, m1⟩ := H1.out.2.row HP.out.1 HP.out.2.1 hls
                obtain ⟨rfl, rfl⟩ : bn = bn' ∧ on = on' := by simpa using he
                rw [HP.out.2.2.2.2.2] at m0 m1
                have HM := Lib.hid m1
                have m0w := (h4.n.b.cell (World.block_lt_of_cell? w1 _ m0)).trans m0
                clear m0 m1
                have c6 := h4.n.c.cellAt s (by omega)
                rw [intC_at hls] at c6
                obtain ⟨Y, hY⟩ : ∃ Y, C s = Y := ⟨_, rfl⟩
                rw [hY] at c6
                have HY := Lib.hid hY
                have H4 := Lib.hid h4
                clear h4 hd he hY
                go_wp2_with fail
                clear y0 y1 y2 y3 m0w c6
                go_loopw [75] (fun c wr => ∃ k : Nat, c = .int .i64 k ∧ k ≤ X ∧ NxtW w1 wr M X gw g gn (wideR D.blk b) C (proP D.aut D.blk C s k)) (fun c _ => X - (intOf c).toNat)
                case atStart => exact ⟨0, rfl, by omega, H4.out⟩
                case round =>
                  obtain ⟨k, rfl, hk, h4⟩ := hrel
                  by_cases hlk : k < X
                  · have k5 : decide (k < X) = true := decide_eq_true hlk
                    obtain ⟨m2, hx⟩ := HM.out k hlk
                    have m2w := (h4.n.b.cell (World.block_lt_of_cell? w1 _ m2)).trans m2
                    have hst := fun m => proP_step (d := D.aut) (blk := D.blk) (c := C) s k m
                    obtain ⟨x, hxe⟩ : ∃ x, D.aut.nx s k = x := ⟨_, rfl⟩
                    rw [hxe] at m2w hx
                    simp only [hxe] at hst
                    rw [HY.out] at hst
                    have c7 := h4.w.cellAt k (by omega)
                    rw [intC_at hlk] at c7
                    unfold wideR at c7
                    have hwl := wideN_le D.blk k b
                    have hwb : wideN D.blk b k = wideN D.blk 256 k := by rw [HB2.out]
                    rw [← hwb] at hst
                    obtain ⟨V, hV⟩ : ∃ V, wideN D.blk b k = V := ⟨_, rfl⟩
                    rw [hV] at c7 hwl
                    simp only [hV] at hst
                    have c5 := h4.n.p.cellAt x (by omega)
                    rw [intC_at hx] at c5
                    obtain ⟨Z, hZ⟩ : ∃ Z, proP D.aut D.blk C s k x = Z := ⟨_, rfl⟩
                    rw [hZ] at c5
                    by_cases hY0 : cutN Y = 0
                    · have hY1 := cutN_zero hY0
                      have h4n : NxtW w1 wr M X gw g gn (wideR D.blk b) C (proP D.aut D.blk C s (k + 1)) := h4.same fun z => proP_none (by rw [HY.out, hY1]) k z
                      have HX := Lib.hid h4n
                      have k7 : decide (0 < cutN Y) = false := decide_eq_false (by omega)
                      clear h4 h4n hst hxe hV hZ hwb hY0 hY1 m2 c5 c7
                      go_wp2_with fail
                      go_roundw
                      case rel => exact ⟨k + 1, by go_num, by omega, HX.out⟩
                      case measure => simp [intOf]; omega
                    · have hY2 := cutN_nn Y
                      have k7 : decide (0 < cutN Y) = true := decide_eq_true (by omega)
                      have hmul : ∀ W, Calls Tryz.prog 29 #[.int .i64 (cutN Y), .int .i64 (V : Int)] W fun e w' => e = .returned (.int .i64 (cutN (Y * V))) ∧ RowKit.Below W.heap.size W w' := fun W => by
                        refine (mul_any _ _ W (cutN_in Y) ⟨by omega, by omega⟩).mono ?_
                        rintro e w' ⟨rfl, rfl⟩
                        exact ⟨by rw [cutN_mul], RowKit.Below.refl _ _⟩
                      have hadd : ∀ W, Calls Tryz.prog 28 #[.int .i64 (cutN Z), .int .i64 (cutN (Y * V))] W fun e w' => e = .returned (.int .i64 (cutN (Z + Y * V))) ∧ RowKit.Below W.heap.size W w' := fun W => by
                        refine (add_any _ _ W (cutN_in Z) (cutN_in _)).mono ?_
                        rintro e w' ⟨rfl, rfl⟩
                        exact ⟨by rw [cutN_add], RowKit.Below.refl _ _⟩
                      have lc : ∀ {p : Addr} {v : Value}, wr.cell? p = some v → ∀ d os, (Sort.grow (redrawn wr d) os).cell? p = some v := fun {p v} hp d os => ((below_regrown wr d os).cell (World.block_lt_of_cell? wr p hp)).trans hp
                      have q5 := lc c5
                      have q7 := lc c7
                      have HX := Lib.hid (And.intro h4 (And.intro hst hZ))
                      clear lc h4 hst hxe hV hZ hwb c5 c7 m2
                      go_wp2_with fail
                      refine wp_region_below_tail 14 (by kernel_rfl) (by kernel_rfl) ?_
                      simp only [List.take_succ_cons, List.take_zero, List.drop_succ_cons, List.drop_zero]
                      iterate 11 (go_big_quiet_step (fail))
                      go_big_quiet_step ((go_at_call 29; exact Calls.regrown_of (hmul _)))
                      go_big_quiet_step ((go_at_call 28; exact Calls.regrown_of (hadd _)))
                      go_big_quiet_step (fail)
                      refine wpQuiet_nil ?_
                      intro _ hw'
                      obtain ⟨⟨dq, osq⟩, hw''⟩ := hw'
                      subst hw''
                      have h4c := HX.out.1.below (below_regrown wr dq osq)
                      generalize Sort.grow (redrawn wr dq) osq = wB at *
                      clear q5 q7 hmul hadd m2w
                      have c5 := h4c.n.p.cellAt x (by omega)
                      have d5 := h4c.n.p.frozenAt x
                      rw [intC_at hx, HX.out.2.2] at c5
                      have hput := h4c.put (P' := proP D.aut D.blk C s (k + 1)) (y := Z + Y * V) hx fun z _ => by
                        rw [HX.out.2.1 z]
                        by_cases e : z = x
                        · rw [if_pos e, if_pos e, e, HX.out.2.2]
                        · rw [if_neg e, if_neg e]
                      have HZ := Lib.hid hput
                      clear hput h4c
                      show wpList _ _ _ (_ :: _) _ _
                      go_wp2_with fail
                      go_roundw
                      case rel => exact ⟨k + 1, by go_num, by omega, HZ.out⟩
                      case measure => simp [intOf]; omega
                  · obtain rfl : X = k := by omega
                    have k5 : decide (X < X) = false := decide_eq_false (by omega)
                    have h4n : NxtW w1 wr M X gw g gn (wideR D.blk b) C (proP D.aut D.blk C (s + 1) 0) := h4.same fun z => by
                      have := proP_row (d := D.aut) (blk := D.blk) (c := C) s z
                      rw [HP.out.2.2.2.2.2] at this
                      exact this.symm
                    have HX := Lib.hid h4n
                    clear h4 h4n
                    go_wp2_with fail
                    go_roundw
                    case rel => exact ⟨s + 1, by go_num, by omega, HX.out⟩
                    case measure => simp [intOf]; omega
              · obtain rfl : M = s := by omega
                have k3 : decide (M < M) = false := decide_eq_false (by omega)
                have h4e : NxtAt w1 wr M g gn C (cntF D.aut D.blk (i + 1)) := by
                  refine h4.n.same fun z => ?_
                  have := proP_end (d := D.aut) HP.out.1.blk.1.blk i z
                  rw [HP.out.2.2.2.1] at this
                  rw [hC.out]
                  exact this.symm
                have HX := Lib.hid (And.intro h4e h4.w)
                clear h4 h4e
                go_wp2_with fail
                go_roundw
                case rel => exact ⟨i + 1, gn, _, by go_num, by omega, Lib.hid rfl, rfl, HX.out.1.p, HX.out.2, HX.out.1.b⟩
                case measure => simp [intOf]; omega
          · obtain rfl : N = i := by omega
            have k1 : decide (N < N) = false := decide_eq_false (by omega)
            have HO := Lib.hid (And.intro hrow hbr)
            clear hrow hbr hww
            go_wp2_with fail
            go_loopw [14, 102] (fun v c w2 => ∃ s : Nat, c = .int .i64 s ∧ s ≤ M ∧ v = .int .i64 (cutN (totF D.aut C s)) ∧ RowKit.Below wr.heap.size wr w2) (fun _ c _ => M - (intOf c).toNat)
            case atStart => exact ⟨0, rfl, by omega, rfl, RowKit.Below.refl _ _⟩
            case round =>
              obtain ⟨s, rfl, hs, rfl, hbw⟩ := hrel
              have hrow2 := own_only HO.out.1 (Only.of_below (S := []) hbw) (by simp)
              have hbr2 := HO.out.2.trans (hbw.mono HO.out.2.size)
              have hd := H1.out.2.below hbr2
              obtain ⟨⟨y0, y1, y2, y3⟩, -⟩ := hd.q.c4
              by_cases hls : s < M
              · have k2 : decide (s < M) = true := decide_eq_true hls
                have c0 := hrow2.cellAt s (by omega)
                rw [intC_at hls] at c0
                obtain ⟨f0, hf0⟩ : ∃ f0, D.fin.getD s false = f0 := ⟨_, rfl⟩
                obtain ⟨bf, of_, cf', haf, m1⟩ := hd.f.get hls
                rw [hf0] at m1
                obtain ⟨rfl, -, rfl⟩ := Value.slice.inj haf
                have hts := totF_step D.aut C s
                rw [show D.aut.fin s = f0 from hf0] at hts
                obtain ⟨Z, hZ⟩ : ∃ Z, totF D.aut C s = Z := ⟨_, rfl⟩
                obtain ⟨Y, hY⟩ : ∃ Y, C s = Y := ⟨_, rfl⟩
                rw [hZ] at hts ⊢
                rw [hY] at hts c0
                have hcall : ∀ W, Calls Tryz.prog 28 #[.int .i64 (cutN Z), .int .i64 (cutN Y)] W fun e w' => e = .returned (.int .i64 (cutN (Z + Y))) ∧ W = w' := fun W => by
                  refine (add_any _ _ W (cutN_in Z) (cutN_in Y)).mono ?_
                  rintro e w' ⟨rfl, rfl⟩
                  exact ⟨by rw [cutN_add], rfl⟩
                cases f0 with
                | true =>
                  have HB := Lib.hid (show totF D.aut C (s + 1) = Z + Y by rw [hts, if_pos rfl])
                  clear hrow2 hbr2 hd hf0 haf hts hZ hY
                  go_wp2_with fail
                  refine (hcall _).mono ?_
                  rintro e w' ⟨rfl, rfl⟩
                  go_wp2_with fail
                  go_roundw
                  case rel => exact ⟨s + 1, by go_num, by omega, by rw [HB.out], hbw⟩
                  case measure => simp [intOf]; omega
                | false =>
                  have HB := Lib.hid (show totF D.aut C (s + 1) = Z by rw [hts, if_neg (by decide)])
                  clear hrow2 hbr2 hd hf0 haf hts hZ hY
                  go_wp2_with fail
                  go_roundw
                  case rel => exact ⟨s + 1, by go_num, by omega, by rw [HB.out], hbw⟩
                  case measure => simp [intOf]; omega
              · obtain rfl : M = s := by omega
                have k2 : decide (M < M) = false := decide_eq_false (by omega)
                have hres : manyI D (N : Int) = cutN (totF D.aut C M) := by
                  rw [HP.out.2.2.2.2.1, hC.out, manyF, HP.out.2.2.2.1]
                  rfl
                have hbb := H1.out.1.trans (hbr2.mono H1.out.1.size)
                obtain ⟨Z, hZ⟩ : ∃ Z, cutN (totF D.aut C M) = Z := ⟨_, rfl⟩
                have hZm : Z ≤ 9223372036854775807 := by rw [← hZ]; exact (cutN_in _).2
                rw [hZ] at hres ⊢
                have HZ := Lib.hid (And.intro hres hbb)
                have k6 : decide (9223372036854775807 < Z) = false := decide_eq_false (by omega)
                clear hrow2 hbr2 hd hres hbb hZ
                go_wp2_with fail
                go_ret
                exact ⟨ret_int (by rw [HZ.out.1]; omega), HZ.out.2⟩
end Go.Proofs.YtmmlakheimfijaaGreatDoor
