/-
  The walk of RatePlays: the loop. Conditions: the inputs are Go's.
-/
import Derived.Test.YtikpbhfjmlfooaaRtPlays
namespace Go.Proofs.Ytikpbhfjmlfooaa
set_option linter.unusedVariables false
set_option linter.unusedSimpArgs false
open Go.RowKit Go.Maps Go.Sort Go.ChangeShapes Go.WideShapes

/-- behind the reference's bucket -/
def CutP (B rp mc : Nat) (l : List Cls) (asked : List Ask) (w : World) (i fr : Nat) (bg : Int) (X : Nat) (tn cl : ByteArray) (nw : Int) (b : Bkt) (is : Bool) (s13 s14 : Value) (W : World) : Prop :=
  ∃ p : Nat, s13 = .pointer (some ⟨p, 0, none⟩) ∧ s14 = .bool is ∧ PlayR B rp mc l asked w i fr bg W ∧ Blk W X 55 #[.string tn, .string cl, .int .i64 nw] ∧
    Blk W p 26 #[.int .i64 b.1, .int .i64 b.2.1, .int .i64 b.2.2.1, .int .i64 b.2.2.2]
theorem PlayR.only {B rp mc : Nat} {l : List Cls} {asked : List Ask} {w : World} {i fr : Nat} {bg : Int} {W W' : World} (h : PlayR B rp mc l asked w i fr bg W) {p : Nat} {T : TypeId} {cs : Array Value} (hp : Blk W p T cs) (hT : T ≠ 65) (hB : B ≤ p) (ho : Only [p] W W') : PlayR B rp mc l asked w i fr bg W' := by
  obtain ⟨mb, k, f, h1, h2, h3, h4⟩ := h.rates
  obtain ⟨D, d1, _⟩ := h3.cls
  obtain ⟨E, e1, _⟩ := h3.bkt
  have n1 : rp ≠ p := fun e => Blk.ne_ hp h3.head hT e.symm
  have n2 : mc ≠ p := blk_map_ne d1 hp
  have n3 : mb ≠ p := blk_map_ne e1 hp
  exact ⟨⟨mb, k, f, h1, h2, h3.only ho (by simpa using n1) (by simpa using n2) (by simpa using n3), h4⟩, h.from_, h.below.trans (ho.below h.room (by simpa using hB)), by have := ho.size; have := h.room; omega, h.low⟩

set_option maxRecDepth 100000 in
set_option maxHeartbeats 8000000 in
theorem rplays_some (A LA : Option Addr) (cap lcap : Nat) (l : List Cls) (asked : List Ask) (now : Int) (w : World) (h : IsCls w w.heap.size A l) (hask : IsAsk w w.heap.size LA asked) (h2 : asked.length ≤ 40) (hE : checkE l = 0) (h0 : timeB now = true) (hlc : asked.length ≤ lcap) :
    Calls Try.prog 9 #[.slice A l.length cap, .int .i64 now, .slice LA asked.length lcap] w fun e w' => e = .returned (.bool true) ∧ Below w.heap.size w w' := by
  have hl8 := (check_zero hE).1
  have q1 : decide (12 < (l.length : Int)) = false := decide_eq_false (by omega)
  have q2 : decide (40 < (asked.length : Int)) = false := decide_eq_false (by omega)
  have hnow := timeB_true h0
  have q3 : decide (now < 0) = false := decide_eq_false (by omega)
  have q4 : decide (1099511627776 < now) = false := decide_eq_false (by omega)
  have H := Lib.hid (And.intro h (And.intro hE (And.intro h0 hask)))
  clear h hE h0 hask hnow
  go_enter Try.func9, Try.ntmps9
  go_wp2_with fail
  refine (rnew_any A cap l now w H.out.1 H.out.2.1 H.out.2.2.1).mono ?_
  rintro e w1 ⟨rp, mc, mb, rfl, lr, lc, lm, hr, b1⟩
  have s1 := b1.size
  have H1 := Lib.hid (And.intro hr b1)
  clear b1 hr
  go_wp2_with fail
  refine (check_lit A cap l w1 0 (H.out.1.below H1.out.2 s1) (by omega) H.out.2.1).mono ?_
  rintro e w2 ⟨rfl, b2⟩
  have H2 := Lib.hid (And.intro (H1.out.1.keep b2) (H1.out.2.trans (b2.mono s1)))
  have s2 : w.heap.size ≤ w2.heap.size := by have := b2.size; omega
  clear b2 H1
  go_wp2_with fail
  refine (refcheck_lit A cap l w2 0 (H.out.1.below H2.out.2 s2) (by omega) H.out.2.1).mono ?_
  rintro e w3 ⟨rfl, b3⟩
  have H3 := Lib.hid (And.intro (H2.out.1.keep b3) (H2.out.2.trans (b3.mono s2)))
  have s3 : w.heap.size ≤ w3.heap.size := by have := b3.size; omega
  clear b3 H2
  go_wp2_with fail
  refine (refcheck_lit A cap l w3 0 (H.out.1.below H3.out.2 s3) (by omega) H.out.2.1).mono ?_
  rintro e w4 ⟨rfl, b4⟩
  have hst : PlayR w.heap.size rp mc l asked w 0 0 now w4 := ⟨⟨mb, 0, _, by omega, lm, H3.out.1.keep b4, by rw [since_self]; exact tied_start l now⟩, by omega, H3.out.2.trans (b4.mono s3), by have := b4.size; omega, lr⟩
  have HS := Lib.hid hst
  clear b4 H3 s1 s2 s3 lm hst
  obtain ⟨B, hB⟩ : ∃ B, w.heap.size = B := ⟨_, rfl⟩
  rw [hB] at H HS lr lc
  have HB := Lib.hid hB
  clear hB
  go_wp2_with fail
  go_loopg [9, 10, 11] asked.length (fun gk s9 s10 s11 wr => ∃ (i fr : Nat) (bg : Int), i ≤ asked.length ∧ gk = asked.length - i ∧ s9 = .int .i64 fr ∧ s10 = .int .i64 bg ∧ s11 = .int .i64 i ∧ fr ≤ i ∧ Hid (PlayR B rp mc l asked w i fr bg wr))
  case atStart => exact ⟨0, 0, now, by omega, by omega, rfl, rfl, rfl, by omega, HS⟩
  case round =>
    clear HS
    obtain ⟨i, fr, bg, hi, rfl, rfl, rfl, rfl, hfr, hp⟩ := hrel
    by_cases hlt : i < asked.length
    · obtain ⟨b, off, ⟨tn, cl, nw⟩, rfl, hbB, hx, ⟨hs1, hs2, hs3⟩, hcell⟩ := H.out.2.2.2.at_ hlt
      obtain ⟨m0, m1, m2⟩ := hcell wr hp.out.below
      simp only at m0 m1 m2 hs1 hs2 hs3
      have hp2 := hp.out.grow ((Below.refl _ _).alloc (Nat.le_refl _) (.cells #[.string tn, .string cl, .int .i64 nw] 55))
      have hbx := Blk.new wr 55 #[.string tn, .string cl, .int .i64 nw]
      have hXB : B ≤ wr.heap.size := hp.out.room
      have HP := Lib.hid (And.intro hp2 (And.intro hbx hx))
      clear hp2 hbx hp hcell hx
      have hbe := eq_beg cl
      by_cases hc : cl = beg
      · rw [decide_eq_true hc] at hbe
        obtain ⟨mb', k, f, h1, h2', h3, h4⟩ := HP.out.1.rates
        have HR := Lib.hid (And.intro h3 h4)
        have hx := HP.out.2.2
        rw [hc] at hx
        have HX := Lib.hid hx
        clear h3 h4 hx
        cases htm : timeB nw
        · have q : decide (0 ≤ nw) = false ∨ (decide (0 ≤ nw) = true ∧ decide (nw ≤ 1099511627776) = false) := by
            rcases timeB_false htm with h | h
            · exact .inl (decide_eq_false (by omega))
            · exact .inr ⟨decide_eq_true (by omega), decide_eq_false (by omega)⟩
          have HM := Lib.hid htm
          have HC := Lib.hid hc
          clear htm hc
          rcases q with q | ⟨q, q'⟩
          all_goals
            go_wp2_with fail
            refine (rbegin_no rp mc nw _ HR.out.1.cells.1 HM.out).mono ?_
            rintro e w5 ⟨rfl, hw5⟩
            have hpp := HP.out.1.skip HX.out
            obtain ⟨⟨y0, y1, y2⟩, -⟩ := HP.out.2.1.c3
            rw [← hw5] at hpp y0 y1 y2
            have HPP := Lib.hid hpp
            clear hpp hw5 m0 m1 m2
            go_wp2_with fail
            go_roundg (asked.length - (i + 1))
            case measure => omega
            case rel => exact ⟨i + 1, fr, bg, by omega, rfl, rfl, rfl, by go_num, by omega, HPP⟩
        · have hn := timeB_true htm
          have q : decide (0 ≤ nw) = true := decide_eq_true hn.1
          have q' : decide (nw ≤ 1099511627776) = true := decide_eq_true hn.2
          have HM := Lib.hid htm
          have HC := Lib.hid hc
          clear htm hc hn
          go_wp2_with fail
          refine (rbegin_yes rp mc (.map (some mb')) bg nw _ HR.out.1.head HM.out).mono ?_
          rintro e w5 ⟨rfl, mb2, g1, g2, g3, g4⟩
          have hpp := HP.out.1.begin HX.out g1 g2 g3 g4
          have hbx := HP.out.2.1.only g4 (by simpa using (Blk.ne_ HP.out.2.1 HR.out.1.head (by decide)))
          obtain ⟨⟨y0, y1, y2⟩, -⟩ := hbx.c3
          have HPP := Lib.hid hpp
          clear hpp g1 g2 g3 g4 m0 m1 m2 hbx
          go_wp2_with fail
          go_roundg (asked.length - (i + 1))
          case measure => omega
          case rel => exact ⟨i + 1, i, nw, by omega, rfl, rfl, rfl, by go_num, by omega, HPP⟩
      · rw [decide_eq_false hc] at hbe
        have HC := Lib.hid hc
        clear hc
        obtain ⟨⟨y0, y1, y2⟩, -⟩ := HP.out.2.1.c3
        go_wp2_with fail
        clear m0 m1 m2 y0 y1 y2
        obtain ⟨mb', k, f, h1, h2', h3, h4⟩ := HP.out.1.rates
        have hti := h4 tn cl HC.out
        obtain ⟨x, hxb⟩ : ∃ x, bktOf (clsG l) f bg tn cl = x := ⟨_, rfl⟩
        rw [hxb] at hti
        obtain ⟨is, his⟩ : ∃ is, (clsG l cl).isSome = is := ⟨_, rfl⟩
        have HTI := Lib.hid (And.intro hti (And.intro his hxb))
        have hx' := HP.out.2.2
        have HXX := Lib.hid hx'
        clear h3 h4 hti hxb his h1 h2' hx'
        have hXl := HP.out.2.1.lt
        have hro := HP.out.1.room
        obtain ⟨X, hX⟩ : ∃ X, wr.heap.size = X := ⟨_, rfl⟩
        rw [hX] at HP hXl hXB
        rw [hX]
        clear hX
        generalize wr.alloc (.cells #[.string tn, .string cl, .int .i64 nw] 55) = w5 at *
        have hsl : asked.length ≤ lcap := hlc
        go_cut [13, 14] (fun s13 s14 W => CutP B rp mc l asked w i fr bg X tn cl nw x is s13 s14 W)
        case first =>
          refine wp_region_split [0, 1, 2, 3, 4, 5, 6, 7, 8, 9] 14 10 [11, 12, 13] [15, 16] 26 (zeroBk 0) 13 _ _ ?_ (by kernel_rfl) (by kernel_rfl) (by kernel_rfl) (by kernel_rfl) (by kernel_rfl) (by kernel_rfl) rfl rfl rfl rfl rfl (by decide) (by decide) (by kernel_rfl) (by kernel_rfl) (by kernel_rfl) ?_ ?_ ?_
          case refine_2 =>
            intro ρ w1
            simp [execOp, go_sem, zeroBk]
          case refine_3 =>
            intro w6 b6
            have G : ∀ d os, Blk (Sort.grow (redrawn w6 d) os) X 55 #[.string tn, .string cl, .int .i64 nw] := fun d os => HP.out.2.1.below (b6.trans ((below_regrown w6 d os).mono b6.size)) hXl
            have m0 := fun d os => (G d os).c3.1.1
            have m1 := fun d os => (G d os).c3.1.2.1
            clear G
            simp only [atIdx, List.filterMap_cons, List.filterMap_nil, List.getElem?_toArray, List.getElem?_cons_zero, List.getElem?_cons_succ]
            iterate 10 (show wpQuiet _ _ _ _ (_ :: _) _; go_big_quiet_step (fail))
            refine wpQuiet_nil ?_
            rfl
          case refine_4 =>
            intro w6 b6
            have hcl := refbucket_any A (some ⟨b, off + fr * 3, none⟩) cap (lcap - fr) l (since asked fr i) bg tn cl w6
              (H.out.1.below (HP.out.1.below.trans (b6.mono HP.out.1.room)) (by have := b6.size; have := HP.out.1.room; omega))
              ((H.out.2.2.2.part fr i (by omega) hfr).below (HP.out.1.below.trans (b6.mono HP.out.1.room)) (by have := b6.size; have := HP.out.1.room; omega)) (by omega) (by rw [since_len asked fr i (by omega) hfr]; omega)
            rw [since_len asked fr i (by omega) hfr, ← HTI.out.1, HTI.out.2.1] at hcl
            have HCL := Lib.hid hcl
            clear hcl
            refine callAt_enter (f := 36) (args := #[.slice A l.length cap, .int .i64 bg, .slice (some ⟨b, off + fr * 3, none⟩) (i - fr) (lcap - fr), .string tn, .string cl]) ?hrun ?_
            case hrun =>
              simp only [List.getElem?_toArray, List.getElem_toArray, List.getElem_cons_zero, List.getElem_cons_succ]
              simp [execOp, go_sem]
            refine HCL.out.mono ?_
            rintro e w7 ⟨rfl, b7⟩
            have b57 : Below w5.heap.size w5 w7 := b6.trans (b7.mono b6.size)
            have p7 := HP.out.1.grow b57
            have x7 := HP.out.2.1.below b57 hXl
            have P7 := Lib.hid (And.intro p7 (And.intro x7 b57))
            have s7 : w5.heap.size ≤ w7.heap.size := b57.size
            clear b57 p7 x7
            refine ⟨_, rfl, b7, ?_, ?_⟩
            · intro p h2 h3 h4
              simp only [atIdx, List.cons_append, List.nil_append, List.filterMap_cons, List.filterMap_nil, List.getElem?_toArray, List.getElem?_cons_zero, List.getElem?_cons_succ]
              show wpList _ _ _ (_ :: _) _ _
              have hpz : Blk w7 p 26 #[.int .i64 0, .int .i64 0, .int .i64 0, .int .i64 0] := h4
              obtain ⟨⟨y0, y1, y2, y3⟩, x0, x1, x2, x3⟩ := hpz.c4
              simp only [bktV]
              go_wp2_with (fail)
              refine onlyNormal_ok ?_
              go_wp2_with (fail)
              go_meet
              case rel =>
                have o := only_set4 w7 p (.int .i64 x.1) (.int .i64 x.2.1) (.int .i64 x.2.2.1) (.int .i64 x.2.2.2)
                exact ⟨p, rfl, rfl, P7.out.1.only hpz (by decide) (by omega) o, P7.out.2.1.only o (by simpa using Blk.ne_ P7.out.2.1 hpz (by decide)), blk_set4 hpz _ _ _ _⟩
            · simp only [atIdx, List.cons_append, List.nil_append, List.filterMap_cons, List.filterMap_nil, List.getElem?_toArray, List.getElem?_cons_zero, List.getElem?_cons_succ]
              show wpList _ _ _ (_ :: _) _ _
              simp only [bktV]
              go_wp2_with (fail)
              refine onlyNormal_ok ?_
              go_wp2_with (fail)
              go_meet
              case rel => exact ⟨w7.heap.size, rfl, rfl, P7.out.1.grow ((Below.refl _ _).alloc (Nat.le_refl _) _), P7.out.2.1.alloc _, Blk.new w7 _ _⟩
        case rest =>
          obtain ⟨p, rfl, rfl, hp5, hx5, hb5⟩ := hcut
          have H5 := Lib.hid (And.intro hp5 (And.intro hx5 hb5))
          have hpl := hb5.lt
          clear hp5 hx5 hb5 HP
          obtain ⟨mb, k, f, h1, h2', h3, h4⟩ := H5.out.1.rates
          have HR := Lib.hid (And.intro h3 h4)
          clear h3 h4
          have hbx := (HR.out.2 tn cl HC.out).trans HTI.out.1.symm
          obtain ⟨x0, x1, x2, x3⟩ := x
          obtain ⟨Y, hY⟩ : ∃ Y, atH x0 x1 x2 x3 nw = Y := ⟨_, rfl⟩
          obtain ⟨T, hT⟩ : ∃ T, atT x0 x1 x2 x3 nw = T := ⟨_, rfl⟩
          obtain ⟨Y2, hY2⟩ : ∃ Y, takeH x0 x1 x2 x3 nw = Y := ⟨_, rfl⟩
          obtain ⟨T2, hT2⟩ : ∃ T, takeT x0 x1 x2 x3 nw = T := ⟨_, rfl⟩
          obtain ⟨bt, hbt⟩ : ∃ bt, takeOk x0 x1 x2 x3 nw = bt := ⟨_, rfl⟩
          have hle : leftOf (bktOf (clsG l) f bg tn cl) nw = Y := by rw [hbx]; exact hY
          have hta : takeE (clsG l) (bktOf (clsG l) f bg tn cl) cl nw = if is then (if bt then 0 else 17) else 6 := by
            rw [takeE, hbx, HTI.out.2.1, takenOf]
            simp only [hbt]
          have HY := Lib.hid (And.intro hY (And.intro hT (And.intro hY2 (And.intro hT2 (And.intro hbt (And.intro hle hta))))))
          clear hbx hY hT hY2 hT2 hbt hle hta HTI
          have hfd := fun w => field_haveB w x0 x1 Y T
          have G : ∀ d os, (RatesAt rp mc mb l.length k (clsG l) f bg (Sort.grow (redrawn wc d) os) ∧ Blk (Sort.grow (redrawn wc d) os) X 55 #[.string tn, .string cl, .int .i64 nw] ∧
            Blk (Sort.grow (redrawn wc d) os) p 26 #[.int .i64 x0, .int .i64 x1, .int .i64 x2, .int .i64 x3]) := fun d os =>
              ⟨HR.out.1.keep (below_regrown wc d os), H5.out.2.1.below (below_regrown wc d os) H5.out.2.1.lt, H5.out.2.2.below (below_regrown wc d os) H5.out.2.2.lt⟩
          have m0 := fun d os => (G d os).2.1.c3.1.1
          have m1 := fun d os => (G d os).2.1.c3.1.2.1
          have m2 := fun d os => (G d os).2.1.c3.1.2.2
          have y0 := fun d os => (G d os).2.2.c4.1.1
          have y1 := fun d os => (G d os).2.2.c4.1.2.1
          have y2 := fun d os => (G d os).2.2.c4.1.2.2.1
          have y3 := fun d os => (G d os).2.2.c4.1.2.2.2
          have HG := Lib.hid G
          clear G
          go_wp2_with fail
          refine wp_region_quiet_below (by kernel_rfl) (by kernel_rfl) ?_
          repeat (go_big_quiet_step (first | (go_at_call 37; exact Calls.regrown_of (rleft_lit rp mc mb l.length k (clsG l) f bg tn cl nw Y _ (HG.out _ _).1 hs1 hs2 HY.out.2.2.2.2.2.1)) | (go_at_call 18; exact Calls.regrown_of (refat_lit x0 x1 x2 x3 nw Y T _ HY.out.1 HY.out.2.1))))
          refine wpQuiet_nil ?_
          intro w6 hw'
          obtain ⟨⟨dq, osq⟩, hw''⟩ := hw'
          have b6 : Below wc.heap.size wc w6 := by rw [hw'']; exact below_regrown wc dq osq
          have x6 := H5.out.2.1.below b6 H5.out.2.1.lt
          have p6 := H5.out.2.2.below b6 H5.out.2.2.lt
          have l6 := b6.size
          have H6 := Lib.hid (And.intro (H5.out.1.grow b6) (And.intro x6 (And.intro p6 (HR.out.1.keep b6))))
          clear hw'' m0 m1 m2 y0 y1 y2 y3 HG b6 x6 p6
          obtain ⟨⟨m0, m1, m2⟩, -⟩ := H6.out.2.1.c3
          obtain ⟨⟨y0, y1, y2, y3⟩, -⟩ := H6.out.2.2.1.c4
          go_wp2_with fail
          refine (reftake_lit x0 x1 x2 x3 nw Y2 T2 bt w6 HY.out.2.2.1 HY.out.2.2.2.1 HY.out.2.2.2.2.1).mono ?_
          rintro e w7 ⟨rfl, b7⟩
          have b7' : Below w6.heap.size w6 (w7.alloc (.cells #[.int .i64 x0, .int .i64 x1, .int .i64 Y2, .int .i64 T2] 26)) := b7.alloc b7.size _
          have x7 := H6.out.2.1.below b7' H6.out.2.1.lt
          have H7 := Lib.hid (And.intro (H6.out.1.grow b7') (And.intro x7 (H6.out.2.2.2.keep b7')))
          clear b7 b7' m0 m1 m2 y0 y1 y2 y3
          obtain ⟨⟨m0, m1, m2⟩, -⟩ := x7.c3
          clear x7
          cases is <;> cases bt
          all_goals
            go_wp2_with fail
            refine (rtake_any rp mc mb l.length k (clsG l) f bg tn cl nw _ H7.out.2.2 hs1 hs2 (by omega)).mono ?_
            rintro e w8 ⟨rfl, r8, o8⟩
            have hpp := H7.out.1.take HXX.out HC.out h1 h2' HR.out.2 r8 o8
            rw [HY.out.2.2.2.2.2.2]
            have HPP := Lib.hid hpp
            clear r8 o8 hpp
            go_wp2_with fail
            go_roundg (asked.length - (i + 1))
            case measure => omega
            case rel => exact ⟨i + 1, fr, bg, by omega, rfl, rfl, rfl, by go_num, by omega, HPP⟩
    · obtain rfl : i = asked.length := by omega
      go_wp2_with fail
      refine (rworks_any _).mono ?_
      rintro e w6 ⟨rfl, b6⟩
      go_wp2_with fail
      go_ret
      exact ⟨rfl, by rw [HB.out]; exact hp.out.below.trans (b6.mono hp.out.room)⟩
end Go.Proofs.Ytikpbhfjmlfooaa
