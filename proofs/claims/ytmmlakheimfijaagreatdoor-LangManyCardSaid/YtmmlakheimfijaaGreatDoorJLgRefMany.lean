/-
  The walk of the reference's Many. Conditions: the automaton lies in memory.
-/
import Derived.Test.YtmmlakheimfijaaGreatDoorJLgInts
namespace Go.Proofs.YtmmlakheimfijaaGreatDoor
set_option linter.unusedVariables false
set_option linter.unusedSimpArgs false
open Go.RowKit Go.Maps Go.Sort Go.ChangeShapes Go.WideShapes

set_option maxHeartbeats 8000000 in
set_option maxRecDepth 1000000 in
theorem refmany_any (v : Value) (n : Int) (D : DfaI) (w : World) (h : DfaAt w v D) (hD : D.In) (hn : In64 n) : Calls Tryz.prog 14 #[v, .int .i64 n] w fun e w' => e = .returned (.int .i64 (manyI D n)) ∧ Below w.heap.size w w' := by
  by_cases hbad : rightD D = true ∧ 0 ≤ n ∧ n ≤ 1024
  case neg =>
    have hre : manyI D n = 0 := by unfold manyI; rw [if_neg hbad]
    obtain ⟨S, af, ab, an, F, B, M, cf, cb, cn, hS, hF, hB, hM, rfl⟩ := h.form
    have hal := (Below.refl w.heap.size w).alloc (Nat.le_refl _) (.cells #[.int .i64 S, .slice af F cf, .slice ab B cb, .slice an M cn] 26)
    have hq := Blk.new w 26 #[.int .i64 S, .slice af F cf, .slice ab B cb, .slice an M cn]
    obtain ⟨⟨y0, y1, y2, y3⟩, -⟩ := hq.c4
    have hcall := refdright_any _ D _ (h.below hal) hD
    have H := Lib.hid hal
    rw [hre]
    obtain ⟨R, hr⟩ : ∃ R, rightD D = R := ⟨_, rfl⟩
    rw [hr] at hcall hbad
    clear h hal hq hr hre hS hF hB hM
    go_enter Tryz.func14, Tryz.ntmps14
    go_wp2_with fail
    refine hcall.mono ?_
    rintro e w1 ⟨rfl, b1⟩
    clear y0 y1 y2 y3
    cases R with
    | false =>
      go_wp2_with fail
      go_ret
      exact ⟨rfl, H.out.trans (b1.mono (by simp))⟩
    | true =>
      by_cases h0 : n < 0
      · go_wp2_with fail
        go_ret
        exact ⟨rfl, H.out.trans (b1.mono (by simp))⟩
      · have h1 : 1024 < n := by
          refine Int.lt_of_not_ge fun h => hbad ⟨rfl, by omega, h⟩
        clear hbad
        go_wp2_with fail
        go_ret
        exact ⟨rfl, H.out.trans (b1.mono (by simp))⟩
  case pos =>
    obtain ⟨hr, hn0, hn1⟩ := hbad
    have hre : manyI D n = cutN (manyF D.aut D.blk n.toNat) := by unfold manyI; rw [if_pos ⟨hr, hn0, hn1⟩]
    have hR := rightD_iff.1 hr
    obtain ⟨N, rfl⟩ : ∃ N : Nat, n = (N : Int) := ⟨n.toNat, by omega⟩
    obtain ⟨S, M, af, ab, an, cf, cb, cn, hS, hM, rfl, hd⟩ := RefD.mk_ h hR
    have hal := (Below.refl w.heap.size w).alloc (Nat.le_refl _) (.cells #[.int .i64 (S : Int), .slice af M cf, .slice ab 256 cb, .slice an M cn] 26)
    have hcall := refdright_any _ D _ (h.below hal) hD
    have hSM : S < M := by have := hR.s1; omega
    have hM4 : M ≤ 4096 := by have := hR.m2; omega
    have hSs : D.aut.start = S := by show D.start.toNat = S; omega
    have hmany : D.aut.many = M := by show D.nx.length = M; rw [D.nx_len]; exact hM
    have hw256 := hR.wide_le
    have hz1 : (w.alloc (.cells #[.int .i64 (S : Int), .slice af M cf, .slice ab 256 cb, .slice an M cn] 26)).heap.size = w.heap.size + 1 := by simp
    rw [hr] at hcall
    obtain ⟨⟨y0, y1, y2, y3⟩, -⟩ := hd.q.c4
    have H := Lib.hid (And.intro hal hd)
    have HP := Lib.hid (And.intro hR (And.intro hM (And.intro hSs (And.intro hmany hre))))
    obtain ⟨i0, hi0, hz00, hz01, hz02⟩ := info_parts infoInt
    have hN : N ≤ 1024 := by omega
    have k9 : decide ((N : Int) < 0) = false := decide_eq_false (by omega)
    have k8 : decide (1024 < (N : Int)) = false := decide_eq_false (by omega)
    clear h hal hd hr hre hR hS hM hSs hmany hn0 hn1 hn
    go_enter Tryz.func14, Tryz.ntmps14
    go_wp2_with fail
    generalize w.alloc (.cells #[.int .i64 (S : Int), .slice af M cf, .slice ab 256 cb, .slice an M cn] 26) = W at *
    refine hcall.mono ?_
    rintro e w1 ⟨rfl, b1⟩
    clear y0 y1 y2 y3 hcall
    have hzz := b1.size
    have hd1 := H.out.2.below b1
    have hbw := H.out.1.trans (b1.mono H.out.1.size)
    obtain ⟨⟨y0, y1, y2, y3⟩, -⟩ := hd1.q.c4
    have H1 := Lib.hid (And.intro hbw hd1)
    clear H b1 hd1 hbw
    go_wp2_with (at_make; refine wpList_make_full _ rfl _ _ 23 rfl w1.heap.size 3 i0 (.int .i64 0) 1 Tryz.underlying23 hi0 hz00 hz01 .i64 .i64 M M M rfl rfl rfl rfl (by rw [hz02]; omega) (by unfold maxLen; omega) (by omega) ?_; intro w2 hown2 hgrow2; rw [intC_zero] at hown2; have k0 := hown2.cellAt S (by omega); have k2 := hown2.frozenAt S; rw [intC_at hSM] at k0; have b2 : RowKit.Below w1.heap.size w1 w2 := (Below.refl _ _).grown hgrow2 (Nat.le_refl _) (fun k e => by cases e); obtain ⟨⟨r0, r1, r2, r3⟩, -⟩ := (H1.out.2.below b2).q.c4)
    have hrow0 := own_int (S' := fun s => cutN (cntF D.aut D.blk 0 s)) (b := 1) hown2 hSM fun p hp => by
      unfold cntF
      rw [HP.out.2.2.1]
      split <;> rfl
    have hb0 := b2.setCell (p := ⟨w1.heap.size, S, none⟩) (Nat.le_refl _) (.int .i64 1)
    generalize w2.setCell ⟨w1.heap.size, S, none⟩ (.int .i64 1) = w3 at *
    have H3 := Lib.hid (And.intro hrow0 hb0)
    clear hown2 hgrow2 k0 k2 b2 r0 r1 r2 r3 hrow0 hb0 y0 y1 y2 y3
    go_loopw [5, 6] (fun v c wr => ∃ (i g : Nat) (C : Nat → Nat), c = .int .i64 i ∧ i ≤ N ∧ Hid (C = cntF D.aut D.blk i) ∧ v = .slice (some ⟨g, 0, none⟩) M M ∧ wr.ownsRow w1.heap.size 3 1 (.slice (some ⟨g, 0, none⟩) M M) M (intC (fun s => cutN (C s)) M) ∧ RowKit.Below w1.heap.size w1 wr) (fun _ c _ => N - (intOf c).toNat)
    case atStart => exact ⟨0, _, _, rfl, by omega, Lib.hid rfl, rfl, H3.out.1, H3.out.2⟩
    case round =>
      obtain ⟨i, g, C, rfl, hi, hC, rfl, hrow, hbr⟩ := hrel
      by_cases hli : i < N
      · have k1 : decide (i < N) = true := decide_eq_true hli
        have hsz := hbr.size
        have hlg := (hrow.lt g rfl).2
        have HO := Lib.hid (And.intro hrow hbr)
        clear hrow hbr
        go_wp2_with (at_make; refine wpList_make_full _ rfl _ _ 23 rfl w1.heap.size 3 i0 (.int .i64 0) 1 Tryz.underlying23 hi0 hz00 hz01 .i64 .i64 M M M rfl rfl rfl rfl (by rw [hz02]; omega) (by unfold maxLen; omega) (by omega) ?_; intro w2 hown2 hgrow2; rw [intC_zero] at hown2)
        have b2 : RowKit.Below wr.heap.size wr w2 := (Below.refl _ _).grown hgrow2 (Nat.le_refl _) (fun k e => by cases e)
        have hP0 : intC (fun _ => 0) M = intC (fun s => cutN (refP D.aut D.blk C 0 0 s)) M := intC_congr fun z _ => rfl
        rw [hP0] at hown2
        have h4 : NxtAt w1 w2 M g wr.heap.size C (refP D.aut D.blk C 0 0) := ⟨own_only HO.out.1 (Only.of_below (S := []) b2) (by simp), hown2, HO.out.2.trans (b2.mono HO.out.2.size), hlg⟩
        obtain ⟨gn, hgn⟩ : ∃ gn, wr.heap.size = gn := ⟨_, rfl⟩
        rw [hgn] at h4
        rw [hgn]
        have H4 := Lib.hid h4
        clear hown2 hgrow2 b2 hP0 h4 hgn hlg hsz
        go_wp2_with fail
        go_loopw [8] (fun c wr => ∃ s : Nat, c = .int .i64 s ∧ s ≤ M ∧ NxtAt w1 wr M g gn C (refP D.aut D.blk C s 0)) (fun c _ => M - (intOf c).toNat)
        case atStart => exact ⟨0, rfl, by omega, H4.out⟩
        case round =>
          obtain ⟨s, rfl, hs, h4⟩ := hrel
          by_cases hls : s < M
          · have k3 : decide (s < M) = true := decide_eq_true hls
            have H4 := Lib.hid h4
            clear h4
            go_wp2_with fail
            go_loopw [9] (fun c wr => ∃ b : Nat, c = .int .i64 b ∧ b ≤ 256 ∧ NxtAt w1 wr M g gn C (refP D.aut D.blk C s b)) (fun c _ => 256 - (intOf c).toNat)
            case atStart => exact ⟨0, rfl, by omega, H4.out⟩
            case round =>
              obtain ⟨b, rfl, hb, h4⟩ := hrel
              by_cases hlb : b < 256
              · have k4 : decide ((b : Int) < 256) = true := decide_eq_true (by omega)
                have hd := H1.out.2.below h4.b
                obtain ⟨⟨y0, y1, y2, y3⟩, -⟩ := hd.q.c4
                obtain ⟨l, g1, g2, g3', g4, g5⟩ := HP.out.1.step (p := s) (by rw [HP.out.2.1]; exact hls) hlb
                obtain ⟨bn, on, a2, c2, rfl, m2, n2⟩ := hd.n.get g1
                obtain ⟨b3, o3, rfl, m3⟩ := hd.b.get g2
                obtain ⟨b4, o4, rfl, m4⟩ := n2.get g3'
                have hst := fun m => refP_step (d := D.aut) (blk := D.blk) (c := C) s b m
                obtain ⟨k, hk⟩ : ∃ k, D.blk b = k := ⟨_, rfl⟩
                rw [hk] at m3 m4 g4 g5
                simp only [hk] at hst
                obtain ⟨x, hx⟩ : ∃ x, D.aut.nx s k = x := ⟨_, rfl⟩
                rw [hx] at m4 g4
                simp only [hx] at hst
                have hxM : x < M := by rw [← HP.out.2.1]; exact g4
                have HA := Lib.hid (And.intro h4 hst)
                clear h4 hd n2 g1 g2 g3' g4 hk hx hst
                go_wp2_with fail
                go_quiet (fail)
                have h4q := HA.out.1.below (below_regrownN wr nq)
                generalize wr.drewN nq = wA at *
                clear y0 y1 y2 y3 m2 m3 m4 g5
                have c5 := h4q.p.cellAt x (by omega)
                have c6 := h4q.c.cellAt s (by omega)
                rw [intC_at hxM] at c5
                rw [intC_at hls] at c6
                have hlp := (h4q.p.lt gn rfl).2
                have hlc := (h4q.c.lt g rfl).2
                obtain ⟨X, hX⟩ : ∃ X, refP D.aut D.blk C s b x = X := ⟨_, rfl⟩
                obtain ⟨Y, hY⟩ : ∃ Y, C s = Y := ⟨_, rfl⟩
                rw [hX] at c5
                rw [hY] at c6
                have hcall : ∀ W, Calls Tryz.prog 30 #[.int .i64 (cutN X), .int .i64 (cutN Y)] W fun e w' => e = .returned (.int .i64 (cutN (X + Y))) ∧ RowKit.Below W.heap.size W w' := fun W => by
                  refine (refadd_any _ _ W (cutN_in X) (cutN_in Y)).mono ?_
                  rintro e w' ⟨rfl, rfl⟩
                  exact ⟨by rw [cutN_add], RowKit.Below.refl _ _⟩
                have lc : ∀ {p : Addr} {v : Value}, wA.cell? p = some v → ∀ d os, (Sort.grow (redrawn wA d) os).cell? p = some v := fun {p v} hp d os => ((below_regrown wA d os).cell (World.block_lt_of_cell? wA p hp)).trans hp
                have q5 := lc c5
                have q6 := lc c6
                have HB := Lib.hid (And.intro h4q (And.intro hX hY))
                clear lc c5 c6 h4q hX hY
                go_wp2_with fail
                refine wp_region_below_tail 12 (by kernel_rfl) (by kernel_rfl) ?_
                simp only [List.take_succ_cons, List.take_zero, List.drop_succ_cons, List.drop_zero]
                iterate 10 (go_big_quiet_step (fail))
                go_big_quiet_step ((go_at_call 30; exact Calls.regrown_of (hcall _)))
                go_big_quiet_step (fail)
                refine wpQuiet_nil ?_
                intro _ hw'
                obtain ⟨⟨dq, osq⟩, hw''⟩ := hw'
                subst hw''
                have h4c := HB.out.1.below (below_regrown wA dq osq)
                generalize Sort.grow (redrawn wA dq) osq = wB at *
                clear q5 q6 hcall
                have c5 := h4c.p.cellAt x (by omega)
                have d5 := h4c.p.frozenAt x
                rw [intC_at hxM] at c5
                have hput := h4c.put (P' := refP D.aut D.blk C s (b + 1)) (y := X + Y) hxM fun z _ => by
                  rw [HA.out.2 z]
                  by_cases e : z = x
                  · rw [if_pos e, if_pos e, e, HB.out.2.1, HB.out.2.2]
                  · rw [if_neg e, if_neg e]
                obtain ⟨z0, hz0⟩ : ∃ z0, cutN (refP D.aut D.blk C s b x) = z0 := ⟨_, rfl⟩
                rw [hz0] at c5
                have HZ := Lib.hid hput
                clear hput h4c hz0
                show wpList _ _ _ (_ :: _) _ _
                go_wp2_with fail
                go_roundw
                case rel => exact ⟨b + 1, by go_num, by omega, HZ.out⟩
                case measure => simp [intOf]; omega
              · have k4 : decide ((b : Int) < 256) = false := decide_eq_false (by omega)
                have h4e : NxtAt w1 wr M g gn C (refP D.aut D.blk C (s + 1) 0) := by
                  have : b = 256 := by omega
                  rw [this] at h4
                  exact h4.same fun z => (refP_row s z).symm
                have HX := Lib.hid h4e
                clear h4 h4e
                go_wp2_with fail
                go_roundw
                case rel => exact ⟨s + 1, by go_num, by omega, HX.out⟩
                case measure => simp [intOf]; omega
          · obtain rfl : M = s := by omega
            have k3 : decide (M < M) = false := decide_eq_false (by omega)
            have h4e : NxtAt w1 wr M g gn C (cntF D.aut D.blk (i + 1)) := by
              refine h4.same fun z => ?_
              have := refP_end (d := D.aut) (blk := D.blk) i z
              rw [HP.out.2.2.2.1] at this
              rw [← this, hC.out]
            have HX := Lib.hid h4e
            clear h4 h4e
            go_wp2_with fail
            go_roundw
            case rel => exact ⟨i + 1, gn, _, by go_num, by omega, Lib.hid rfl, rfl, HX.out.p, HX.out.b⟩
            case measure => simp [intOf]; omega
      · obtain rfl : N = i := by omega
        have k1 : decide (N < N) = false := decide_eq_false (by omega)
        have HO := Lib.hid (And.intro hrow hbr)
        clear hrow hbr
        go_wp2_with fail
        go_loopw [11, 12] (fun v c w2 => ∃ s : Nat, c = .int .i64 s ∧ s ≤ M ∧ v = .int .i64 (cutN (totF D.aut C s)) ∧ RowKit.Below wr.heap.size wr w2) (fun _ c _ => M - (intOf c).toNat)
        case atStart => exact ⟨0, rfl, by omega, rfl, RowKit.Below.refl _ _⟩
        case round =>
          obtain ⟨s, rfl, hs, rfl, hbw⟩ := hrel
          have hrow2 := own_only HO.out.1 (Only.of_below (S := []) hbw) (by simp)
          have hbr2 := HO.out.2.trans (hbw.mono HO.out.2.size)
          have hd := H1.out.2.below hbr2
          obtain ⟨⟨y0, y1, y2, y3⟩, -⟩ := hd.q.c4
          by_cases hls : s < M
          · have k2 : decide (s < M) = true := decide_eq_true hls
            have c0 := hrow2.cellAt s (by omega)
            rw [intC_at hls] at c0
            obtain ⟨f0, hf0⟩ : ∃ f0, D.fin.getD s false = f0 := ⟨_, rfl⟩
            obtain ⟨bf, of_, cf', haf, m1⟩ := hd.f.get hls
            rw [hf0] at m1
            obtain ⟨rfl, -, rfl⟩ := Value.slice.inj haf
            have hts := totF_step D.aut C s
            rw [show D.aut.fin s = f0 from hf0] at hts
            obtain ⟨X, hX⟩ : ∃ X, totF D.aut C s = X := ⟨_, rfl⟩
            obtain ⟨Y, hY⟩ : ∃ Y, C s = Y := ⟨_, rfl⟩
            rw [hX] at hts ⊢
            rw [hY] at hts c0
            have hcall : ∀ W, Calls Tryz.prog 30 #[.int .i64 (cutN X), .int .i64 (cutN Y)] W fun e w' => e = .returned (.int .i64 (cutN (X + Y))) ∧ W = w' := fun W => by
              refine (refadd_any _ _ W (cutN_in X) (cutN_in Y)).mono ?_
              rintro e w' ⟨rfl, rfl⟩
              exact ⟨by rw [cutN_add], rfl⟩
            cases f0 with
            | true =>
              have HB := Lib.hid (show totF D.aut C (s + 1) = X + Y by rw [hts, if_pos rfl])
              clear hrow2 hbr2 hd hf0 haf hts hX hY
              go_wp2_with fail
              refine (hcall _).mono ?_
              rintro e w' ⟨rfl, rfl⟩
              go_wp2_with fail
              go_roundw
              case rel => exact ⟨s + 1, by go_num, by omega, by rw [HB.out], hbw⟩
              case measure => simp [intOf]; omega
            | false =>
              have HB := Lib.hid (show totF D.aut C (s + 1) = X by rw [hts, if_neg (by decide)])
              clear hrow2 hbr2 hd hf0 haf hts hX hY
              go_wp2_with fail
              go_roundw
              case rel => exact ⟨s + 1, by go_num, by omega, by rw [HB.out], hbw⟩
              case measure => simp [intOf]; omega
          · obtain rfl : M = s := by omega
            have k2 : decide (M < M) = false := decide_eq_false (by omega)
            have hres : manyI D (N : Int) = cutN (totF D.aut C M) := by
              rw [HP.out.2.2.2.2, hC.out, manyF, HP.out.2.2.2.1]
              rfl
            have hbb := H1.out.1.trans (hbr2.mono H1.out.1.size)
            have HZ := Lib.hid (And.intro hres hbb)
            clear hrow2 hbr2 hd hres hbb
            go_wp2_with fail
            go_ret
            exact ⟨ret_int (by rw [HZ.out.1]), HZ.out.2⟩
end Go.Proofs.YtmmlakheimfijaaGreatDoor
