/-
  The walk of the reference's Finite. Conditions: the automaton lies in memory.
-/
import Derived.Test.YtmmlakheimfijaaGreatDoorJLgStr
import Derived.Test.YtmmlakheimfijaaGreatDoorJAuRefFam
namespace Go.Proofs.YtmmlakheimfijaaGreatDoor
set_option linter.unusedVariables false
set_option linter.unusedSimpArgs false
open Go.RowKit Go.Maps Go.Sort Go.ChangeShapes Go.WideShapes

def nextT (d : Aut) (T : Nat → Bool) (s k m : Nat) : Bool := ((List.range s).any fun p => T p && (List.range d.wide).any fun j => decide (d.nx p j = m)) || (T s && (List.range k).any fun j => decide (d.nx s j = m))
theorem nextT_zero (d : Aut) (T : Nat → Bool) (m : Nat) : nextT d T 0 0 m = false := by simp [nextT]
theorem nextT_step {d : Aut} {T : Nat → Bool} {s : Nat} (h : T s = true) (k m : Nat) : nextT d T s (k + 1) m = if m = d.nx s k then true else nextT d T s k m := by
  unfold nextT
  rw [h, List.range_succ, List.any_append]
  by_cases e : m = d.nx s k
  · subst e; simp
  · rw [if_neg e]; simp [Ne.symm e]
theorem nextT_row (d : Aut) (T : Nat → Bool) (s m : Nat) : nextT d T s d.wide m = nextT d T (s + 1) 0 m := by
  unfold nextT
  rw [List.range_succ, List.any_append]
  simp
theorem nextT_skip {d : Aut} {T : Nat → Bool} {s : Nat} (h : T s = false) (k m : Nat) : nextT d T s k m = nextT d T (s + 1) 0 m := by
  unfold nextT
  rw [List.range_succ, List.any_append, h]
  simp [h]
theorem nextT_end (d : Aut) (n m : Nat) : nextT d (nowF d n) d.many 0 m = nowF d (n + 1) m := by
  unfold nextT
  rw [nowF]
  simp
theorem nowF_start (d : Aut) (p : Nat) : nowF d 0 p = if p = d.start then true else false := by
  unfold nowF
  by_cases e : p = d.start
  · rw [if_pos e]; simp [e]
  · rw [if_neg e]; simp [e]
theorem badF_all {d : Aut} {n : Nat} (h : d.many ≤ n → ∀ s, s < d.many → nowF d n s = true → d.fin s = false) : badF d n = false := by
  unfold badF
  by_cases e : d.many ≤ n
  · rw [decide_eq_true e, Bool.true_and]
    rw [List.any_eq_false]
    intro s hs
    rw [Bool.and_eq_true]
    rintro ⟨h1, h2⟩
    rw [h e s (List.mem_range.1 hs) h1] at h2
    cases h2
  · rw [decide_eq_false e]; rfl
theorem badF_one {d : Aut} {n s : Nat} (h1 : d.many ≤ n) (hs : s < d.many) (h2 : nowF d n s = true) (h3 : d.fin s = true) : badF d n = true := by
  unfold badF
  rw [decide_eq_true h1, Bool.true_and, List.any_eq_true]
  exact ⟨s, List.mem_range.2 hs, by rw [h2, h3]; rfl⟩
theorem refFin_bad {d : Aut} {n : Nat} (hn : n < 2 * d.many) (h : badF d n = true) : refFin d = false := by
  unfold refFin
  rw [Bool.not_eq_false', List.any_eq_true]
  exact ⟨n, List.mem_range.2 hn, h⟩
theorem refFin_good {d : Aut} (h : ∀ n, n < 2 * d.many → badF d n = false) : refFin d = true := by
  unfold refFin
  rw [Bool.not_eq_true', List.any_eq_false]
  intro n hn
  rw [h n (List.mem_range.1 hn)]
  decide
def finiteD (D : DfaI) : Bool := !rightD D || refFin D.aut
set_option maxHeartbeats 8000000 in
set_option maxRecDepth 1000000 in
theorem reffinite_any (v : Value) (D : DfaI) (w : World) (h : DfaAt w v D) (hD : D.In) : Calls Tryz.prog 12 #[v] w fun e w' => e = .returned (.bool (finiteD D)) ∧ Below w.heap.size w w' := by
  cases hr : rightD D with
  | false =>
    obtain ⟨S, af, ab, an, F, B, M, cf, cb, cn, hS, hF, hB, hM, rfl⟩ := h.form
    have hal := (Below.refl w.heap.size w).alloc (Nat.le_refl _) (.cells #[.int .i64 S, .slice af F cf, .slice ab B cb, .slice an M cn] 26)
    have hq := Blk.new w 26 #[.int .i64 S, .slice af F cf, .slice ab B cb, .slice an M cn]
    obtain ⟨⟨y0, y1, y2, y3⟩, -⟩ := hq.c4
    have hcall := refdright_any _ D _ (h.below hal) hD
    have H := Lib.hid hal
    have hre : finiteD D = true := by unfold finiteD; rw [hr]; rfl
    rw [hr] at hcall
    rw [hre]
    clear h hal hq hr hre hS hF hB hM
    go_enter Tryz.func12, Tryz.ntmps12
    go_wp2_with fail
    refine hcall.mono ?_
    rintro e w1 ⟨rfl, b1⟩
    clear y0 y1 y2 y3
    go_wp2_with fail
    go_ret
    exact ⟨rfl, H.out.trans (b1.mono (by simp))⟩
  | true =>
    have hR := rightD_iff.1 hr
    obtain ⟨S, M, af, ab, an, cf, cb, cn, hS, hM, rfl, hd⟩ := RefD.mk_ h hR
    have hal := (Below.refl w.heap.size w).alloc (Nat.le_refl _) (.cells #[.int .i64 (S : Int), .slice af M cf, .slice ab 256 cb, .slice an M cn] 26)
    have hcall := refdright_any _ D _ (h.below hal) hD
    have hre : finiteD D = refFin D.aut := by unfold finiteD; rw [hr]; rfl
    have hSM : S < M := by have := hR.s1; omega
    have hM4 : M ≤ 4096 := by have := hR.m2; omega
    have hSs : D.aut.start = S := by show D.start.toNat = S; omega
    have hmany : D.aut.many = M := by show D.nx.length = M; rw [D.nx_len]; exact hM
    have hw256 := hR.wide_le
    have hz1 : (w.alloc (.cells #[.int .i64 (S : Int), .slice af M cf, .slice ab 256 cb, .slice an M cn] 26)).heap.size = w.heap.size + 1 := by simp
    rw [hr] at hcall
    rw [hre]
    obtain ⟨⟨y0, y1, y2, y3⟩, -⟩ := hd.q.c4
    have H := Lib.hid (And.intro hal hd)
    have HP := Lib.hid (And.intro hR (And.intro hM (And.intro hSs hmany)))
    obtain ⟨s0, hs0, hs00, hs01, hs02⟩ := info_parts infoBool
    clear h hal hd hr hre hR hS hM hSs hmany
    go_enter Tryz.func12, Tryz.ntmps12
    go_wp2_with fail
    generalize w.alloc (.cells #[.int .i64 (S : Int), .slice af M cf, .slice ab 256 cb, .slice an M cn] 26) = W at *
    refine hcall.mono ?_
    rintro e w1 ⟨rfl, b1⟩
    clear y0 y1 y2 y3 hcall
    have hzz := b1.size
    have hd1 := H.out.2.below b1
    have hbw := H.out.1.trans (b1.mono H.out.1.size)
    obtain ⟨⟨y0, y1, y2, y3⟩, -⟩ := hd1.q.c4
    have H1 := Lib.hid (And.intro hbw hd1)
    clear H b1 hd1 hbw
    go_wp2_with (at_make; refine wpList_make_full _ rfl _ _ 22 rfl w1.heap.size 4 s0 (.bool false) 1 Tryz.underlying22 hs0 hs00 hs01 .i64 .i64 M M M rfl rfl rfl rfl (by rw [hs02]; omega) (by unfold maxLen; omega) (by omega) ?_; intro w2 hown2 hgrow2; rw [boolC_zero] at hown2; have k0 := hown2.cellAt S (by omega); have k2 := hown2.frozenAt S; rw [boolC_at hSM] at k0; have b2 : RowKit.Below w1.heap.size w1 w2 := (Below.refl _ _).grown hgrow2 (Nat.le_refl _) (fun k e => by cases e); obtain ⟨⟨r0, r1, r2, r3⟩, -⟩ := (H1.out.2.below b2).q.c4)
    have hrow0 := own_mark (S' := nowF D.aut 0) (b := true) hown2 hSM fun p hp => by rw [nowF_start, HP.out.2.2.1]
    have hb0 := b2.setCell (p := ⟨w1.heap.size, S, none⟩) (Nat.le_refl _) (.bool true)
    generalize w2.setCell ⟨w1.heap.size, S, none⟩ (.bool true) = w3 at *
    have H3 := Lib.hid (And.intro hrow0 hb0)
    clear hown2 hgrow2 k0 k2 b2 r0 r1 r2 r3 hrow0 hb0 y0 y1 y2 y3
    go_loopw [4, 5] (fun v c wr => ∃ (n g : Nat) (T : Nat → Bool), c = .int .i64 n ∧ n ≤ 2 * M ∧ Hid (T = nowF D.aut n ∧ ∀ n', n' < n → badF D.aut n' = false) ∧ v = .slice (some ⟨g, 0, none⟩) M M ∧ wr.ownsRow w1.heap.size 4 1 (.slice (some ⟨g, 0, none⟩) M M) M (boolC T M) ∧ RowKit.Below w1.heap.size w1 wr) (fun _ c _ => 2 * M - (intOf c).toNat)
    case atStart => exact ⟨0, _, _, rfl, by omega, Lib.hid ⟨rfl, fun n' h => by omega⟩, rfl, H3.out.1, H3.out.2⟩
    case round =>
      obtain ⟨n, g, T, rfl, hn, hT, rfl, hrow, hbr⟩ := hrel
      by_cases hln : n < 2 * M
      · have k1 : decide ((n : Int) < 2 * M) = true := decide_eq_true (by omega)
        have hgl := own_lt hrow (g := g) rfl
        have HO := Lib.hid (And.intro hrow hbr)
        have hsz := hbr.size
        clear hrow hbr
        go_wp2_with (at_make; refine wpList_make_full _ rfl _ _ 22 rfl w1.heap.size 4 s0 (.bool false) 1 Tryz.underlying22 hs0 hs00 hs01 .i64 .i64 M M M rfl rfl rfl rfl (by rw [hs02]; omega) (by unfold maxLen; omega) (by omega) ?_; intro w2 hown2 hgrow2; rw [boolC_zero] at hown2)
        have hbw2 : RowKit.Below wr.heap.size wr w2 := (Below.refl _ _).grown hgrow2 (Nat.le_refl _) (fun k e => by cases e)
        have hrow2 := own_only HO.out.1 (Only.of_below (S := []) hbw2) (by simp)
        have hb2 := HO.out.2.grown hgrow2 hsz (fun k e => by cases e)
        obtain ⟨g2, hg2⟩ : ∃ g2, wr.heap.size = g2 := ⟨_, rfl⟩
        have hne : g ≠ g2 := by omega
        have hX0 : (boolC (fun _ => false) M) = boolC (nextT D.aut T 0 0) M := by
          congr 1
          funext m
          exact (nextT_zero _ _ _).symm
        rw [hX0] at hown2
        rw [hg2] at hown2
        rw [hg2]
        have HO2 := Lib.hid (And.intro hrow2 (And.intro hown2 hb2))
        clear HO hbw2 hrow2 hown2 hb2 hgrow2 hX0 hg2 hsz hgl
        go_wp2_with fail
        go_loopw [7] (fun c wr => ∃ s : Nat, c = .int .i64 s ∧ s ≤ M ∧ Hid (M ≤ n → ∀ s', s' < s → T s' = true → D.aut.fin s' = false) ∧ wr.ownsRow w1.heap.size 4 1 (.slice (some ⟨g, 0, none⟩) M M) M (boolC T M) ∧
          wr.ownsRow w1.heap.size 4 1 (.slice (some ⟨g2, 0, none⟩) M M) M (boolC (nextT D.aut T s 0) M) ∧ RowKit.Below w1.heap.size w1 wr) (fun c _ => M - (intOf c).toNat)
        case atStart => exact ⟨0, rfl, by omega, Lib.hid (fun _ s' h => by omega), HO2.out.1, HO2.out.2.1, HO2.out.2.2⟩
        case round =>
          obtain ⟨s, rfl, hs, hbad, hrow, hnx, hbr⟩ := hrel
          have hd := H1.out.2.below hbr
          obtain ⟨⟨y0, y1, y2, y3⟩, -⟩ := hd.q.c4
          by_cases hls : s < M
          · have k2 : decide (s < M) = true := decide_eq_true hls
            have c0 := hrow.cellAt s (by omega)
            rw [boolC_at hls] at c0
            obtain ⟨t, ht⟩ : ∃ t, T s = t := ⟨_, rfl⟩
            rw [ht] at c0
            have HTs := Lib.hid ht
            obtain ⟨f0, hf0⟩ : ∃ f0, D.fin.getD s false = f0 := ⟨_, rfl⟩
            obtain ⟨bf, of_, cf', haf, m1⟩ := hd.f.get hls
            rw [hf0] at m1
            have HF := Lib.hid hf0
            obtain ⟨rfl, -, rfl⟩ := Value.slice.inj haf
            have HO := Lib.hid (And.intro hrow (And.intro hnx hbr))
            clear hrow hnx hbr hd ht hf0 haf
            obtain ⟨bn, on, bk, ok, c, rfl, m8, -⟩ := (H1.out.2.below HO.out.2.2).row HP.out.1 HP.out.2.1 hls
            cases t with
            | false =>
              have hb2 : M ≤ n → ∀ s', s' < s + 1 → T s' = true → D.aut.fin s' = false := fun hmn s' hs' hT' => by
                by_cases e : s' = s
                · subst e; rw [HTs.out] at hT'; cases hT'
                · exact hbad.out hmn s' (by omega) hT'
              have HB2 := Lib.hid hb2
              have hnx2 : wr.ownsRow w1.heap.size 4 1 (.slice (some ⟨g2, 0, none⟩) M M) M (boolC (nextT D.aut T (s + 1) 0) M) := by
                have e : nextT D.aut T (s + 1) 0 = nextT D.aut T s 0 := funext fun m => (nextT_skip HTs.out 0 m).symm
                rw [e]; exact HO.out.2.1
              have HX2 := Lib.hid hnx2
              clear hb2 hnx2
              go_wp2_with fail
              clear y0 y1 y2 y3 m8 c0 m1
              go_loopw [8] (fun c wr2 => c = .int .i64 0 ∧ wr2 = wr) (fun c _ => 0)
              case atStart => exact ⟨rfl, rfl⟩
              case round =>
                obtain ⟨rfl, hwr⟩ := hrel
                subst hwr
                have hd := H1.out.2.below HO.out.2.2
                obtain ⟨⟨y0, y1, y2, y3⟩, -⟩ := hd.q.c4
                obtain ⟨bn', on', bk, ok, c, he, m0, m1⟩ := hd.row HP.out.1 HP.out.2.1 hls
                obtain ⟨rfl, rfl⟩ : bn = bn' ∧ on = on' := by simpa using he
                have c0 := HO.out.1.cellAt s (by omega)
                rw [boolC_at hls, HTs.out] at c0
                have hw0 := HP.out.1.ok.wide0
                clear hd m1 he
                go_wp2_with fail
                go_roundw
                case rel => exact ⟨s + 1, by go_num, by omega, HB2, HO.out.1, HX2.out, HO.out.2.2⟩
                case measure => simp [intOf]; omega
            | true =>
              by_cases hnM : M ≤ n
              · have k4 : decide ((M : Int) ≤ n) = true := decide_eq_true (by omega)
                cases f0 with
                | true =>
                  have hres : refFin D.aut = false := refFin_bad (n := n) (by rw [HP.out.2.2.2]; exact hln) (badF_one (s := s) (by rw [HP.out.2.2.2]; exact hnM) (by rw [HP.out.2.2.2]; exact hls) (by rw [← hT.out.1]; exact HTs.out) HF.out)
                  have hbb := H1.out.1.trans (HO.out.2.2.mono H1.out.1.size)
                  have HZ := Lib.hid (And.intro hres hbb)
                  clear hres hbb
                  go_wp2_with fail
                  go_ret
                  exact ⟨ret_bool HZ.out.1.symm, HZ.out.2⟩
                | false =>
                  have hb2 : M ≤ n → ∀ s', s' < s + 1 → T s' = true → D.aut.fin s' = false := fun hmn s' hs' hT' => by
                    by_cases e : s' = s
                    · subst e; exact HF.out
                    · exact hbad.out hmn s' (by omega) hT'
                  have HB2 := Lib.hid hb2
                  clear hb2
                  go_wp2_with fail
                  clear y0 y1 y2 y3 c0 m1 m8
                  go_loopw [8] (fun c wr => ∃ k : Nat, c = .int .i64 k ∧ k ≤ D.aut.wide ∧ wr.ownsRow w1.heap.size 4 1 (.slice (some ⟨g, 0, none⟩) M M) M (boolC T M) ∧
                    wr.ownsRow w1.heap.size 4 1 (.slice (some ⟨g2, 0, none⟩) M M) M (boolC (nextT D.aut T s k) M) ∧ RowKit.Below w1.heap.size w1 wr) (fun c _ => D.aut.wide - (intOf c).toNat)
                  case atStart => exact ⟨0, rfl, by omega, HO.out.1, HO.out.2.1, HO.out.2.2⟩
                  case round =>
                    obtain ⟨k, rfl, hk, hrow, hnx, hbr⟩ := hrel
                    have hd := H1.out.2.below hbr
                    obtain ⟨⟨y0, y1, y2, y3⟩, -⟩ := hd.q.c4
                    obtain ⟨bn', on', bk, ok, c, he, m0, m1⟩ := hd.row HP.out.1 HP.out.2.1 hls
                    obtain ⟨rfl, rfl⟩ : bn = bn' ∧ on = on' := by simpa using he
                    clear he
                    have c0 := hrow.cellAt s (by omega)
                    rw [boolC_at hls, HTs.out] at c0
                    by_cases hlk : k < D.aut.wide
                    · have k3 : decide (k < D.aut.wide) = true := decide_eq_true hlk
                      obtain ⟨m2, hx⟩ := m1 k hlk
                      obtain ⟨x, hxe⟩ : ∃ x, D.aut.nx s k = x := ⟨_, rfl⟩
                      rw [hxe] at m2 hx
                      have c1 := hnx.cellAt x (by omega)
                      have c2 := hnx.frozenAt x
                      rw [boolC_at hx] at c1
                      have hnx' := own_mark (S' := nextT D.aut T s (k + 1)) (b := true) hnx hx fun p hp => by rw [nextT_step HTs.out, hxe]
                      have hrow' := own_set hrow (a := ⟨g2, x, none⟩) (.bool true) (by simp [Value.ownBlock]; exact hne)
                      have hbr' := hbr.setCell (p := ⟨g2, x, none⟩) (hnx.lt g2 rfl).1 (.bool true)
                      have HR2 := Lib.hid (And.intro hrow' (And.intro hnx' hbr'))
                      obtain ⟨vx, hvx⟩ : ∃ b, nextT D.aut T s k x = b := ⟨_, rfl⟩
                      rw [hvx] at c1
                      clear hrow hnx hbr hd m1 hrow' hnx' hbr' hxe hvx
                      go_wp2_with fail
                      go_roundw
                      case rel => exact ⟨k + 1, by go_num, by omega, HR2.out.1, HR2.out.2.1, HR2.out.2.2⟩
                      case measure => simp [intOf]; omega
                    · obtain rfl : D.aut.wide = k := by omega
                      have k3 : decide (D.aut.wide < D.aut.wide) = false := decide_eq_false (by omega)
                      have hnx2 : wr.ownsRow w1.heap.size 4 1 (.slice (some ⟨g2, 0, none⟩) M M) M (boolC (nextT D.aut T (s + 1) 0) M) := by
                        have e : nextT D.aut T (s + 1) 0 = nextT D.aut T s D.aut.wide := funext fun m => (nextT_row _ _ _ _).symm
                        rw [e]; exact hnx
                      have HR2 := Lib.hid (And.intro hrow (And.intro hnx2 hbr))
                      clear hrow hnx hnx2 hbr hd m1 c0
                      go_wp2_with fail
                      go_roundw
                      case rel => exact ⟨s + 1, by go_num, by omega, Lib.hid HB2.out, HR2.out.1, HR2.out.2.1, HR2.out.2.2⟩
                      case measure => simp [intOf]; omega
              · have k4 : decide ((M : Int) ≤ n) = false := decide_eq_false (by omega)
                have HB2 := Lib.hid (show M ≤ n → ∀ s', s' < s + 1 → T s' = true → D.aut.fin s' = false from fun h => absurd h hnM)
                go_wp2_with fail
                clear y0 y1 y2 y3 c0 m1 m8
                go_loopw [8] (fun c wr => ∃ k : Nat, c = .int .i64 k ∧ k ≤ D.aut.wide ∧ wr.ownsRow w1.heap.size 4 1 (.slice (some ⟨g, 0, none⟩) M M) M (boolC T M) ∧
                  wr.ownsRow w1.heap.size 4 1 (.slice (some ⟨g2, 0, none⟩) M M) M (boolC (nextT D.aut T s k) M) ∧ RowKit.Below w1.heap.size w1 wr) (fun c _ => D.aut.wide - (intOf c).toNat)
                case atStart => exact ⟨0, rfl, by omega, HO.out.1, HO.out.2.1, HO.out.2.2⟩
                case round =>
                  obtain ⟨k, rfl, hk, hrow, hnx, hbr⟩ := hrel
                  have hd := H1.out.2.below hbr
                  obtain ⟨⟨y0, y1, y2, y3⟩, -⟩ := hd.q.c4
                  obtain ⟨bn', on', bk, ok, c, he, m0, m1⟩ := hd.row HP.out.1 HP.out.2.1 hls
                  obtain ⟨rfl, rfl⟩ : bn = bn' ∧ on = on' := by simpa using he
                  clear he
                  have c0 := hrow.cellAt s (by omega)
                  rw [boolC_at hls, HTs.out] at c0
                  by_cases hlk : k < D.aut.wide
                  · have k3 : decide (k < D.aut.wide) = true := decide_eq_true hlk
                    obtain ⟨m2, hx⟩ := m1 k hlk
                    obtain ⟨x, hxe⟩ : ∃ x, D.aut.nx s k = x := ⟨_, rfl⟩
                    rw [hxe] at m2 hx
                    have c1 := hnx.cellAt x (by omega)
                    have c2 := hnx.frozenAt x
                    rw [boolC_at hx] at c1
                    have hnx' := own_mark (S' := nextT D.aut T s (k + 1)) (b := true) hnx hx fun p hp => by rw [nextT_step HTs.out, hxe]
                    have hrow' := own_set hrow (a := ⟨g2, x, none⟩) (.bool true) (by simp [Value.ownBlock]; exact hne)
                    have hbr' := hbr.setCell (p := ⟨g2, x, none⟩) (hnx.lt g2 rfl).1 (.bool true)
                    have HR2 := Lib.hid (And.intro hrow' (And.intro hnx' hbr'))
                    obtain ⟨vx, hvx⟩ : ∃ b, nextT D.aut T s k x = b := ⟨_, rfl⟩
                    rw [hvx] at c1
                    clear hrow hnx hbr hd m1 hrow' hnx' hbr' hxe hvx
                    go_wp2_with fail
                    go_roundw
                    case rel => exact ⟨k + 1, by go_num, by omega, HR2.out.1, HR2.out.2.1, HR2.out.2.2⟩
                    case measure => simp [intOf]; omega
                  · obtain rfl : D.aut.wide = k := by omega
                    have k3 : decide (D.aut.wide < D.aut.wide) = false := decide_eq_false (by omega)
                    have hnx2 : wr.ownsRow w1.heap.size 4 1 (.slice (some ⟨g2, 0, none⟩) M M) M (boolC (nextT D.aut T (s + 1) 0) M) := by
                      have e : nextT D.aut T (s + 1) 0 = nextT D.aut T s D.aut.wide := funext fun m => (nextT_row _ _ _ _).symm
                      rw [e]; exact hnx
                    have HR2 := Lib.hid (And.intro hrow (And.intro hnx2 hbr))
                    clear hrow hnx hnx2 hbr hd m1 c0
                    go_wp2_with fail
                    go_roundw
                    case rel => exact ⟨s + 1, by go_num, by omega, Lib.hid HB2.out, HR2.out.1, HR2.out.2.1, HR2.out.2.2⟩
                    case measure => simp [intOf]; omega
          · obtain rfl : M = s := by omega
            have k2 : decide (M < M) = false := decide_eq_false (by omega)
            have hnx2 : wr.ownsRow w1.heap.size 4 1 (.slice (some ⟨g2, 0, none⟩) M M) M (boolC (nowF D.aut (n + 1)) M) := by
              have e : nowF D.aut (n + 1) = nextT D.aut T M 0 := by
                funext m
                rw [hT.out.1]
                have := nextT_end D.aut n m
                rw [HP.out.2.2.2] at this
                exact this.symm
              rw [e]; exact hnx
            have hbf : badF D.aut n = false := badF_all fun h s hs h2 => hbad.out (by rw [← HP.out.2.2.2]; exact h) s (by rw [← HP.out.2.2.2]; exact hs) (by rw [hT.out.1]; exact h2)
            have HR2 := Lib.hid (And.intro hnx2 (And.intro hbr hbf))
            clear hrow hnx hnx2 hbr hd hbf
            go_wp2_with fail
            go_roundw
            case rel =>
              refine ⟨n + 1, g2, _, by go_num, by omega, Lib.hid ⟨rfl, fun n' hn' => ?_⟩, rfl, HR2.out.1, HR2.out.2.1⟩
              by_cases e : n' = n
              · subst e; exact HR2.out.2.2
              · exact hT.out.2 n' (by omega)
            case measure => simp [intOf]; omega
      · obtain rfl : n = 2 * M := by omega
        have k1 : decide (((2 * M : Nat) : Int) < 2 * M) = false := decide_eq_false (by omega)
        have hres : refFin D.aut = true := refFin_good fun n hn => hT.out.2 n (by rw [HP.out.2.2.2] at hn; exact hn)
        have hbb := H1.out.1.trans (hbr.mono H1.out.1.size)
        have HO := Lib.hid (And.intro hres hbb)
        clear hrow hbr hres hbb
        go_wp2_with fail
        go_ret
        exact ⟨ret_bool HO.out.1.symm, HO.out.2⟩
end Go.Proofs.YtmmlakheimfijaaGreatDoor
