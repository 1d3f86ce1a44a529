/-
  The walk of RateWindow. Conditions: the inputs are Go's.
-/
import Derived.Test.YtikpbhfjmlfooaaRtWin
namespace Go.Proofs.Ytikpbhfjmlfooaa
set_option linter.unusedVariables false
set_option linter.unusedSimpArgs false
open Go.RowKit Go.Maps Go.Sort

def free : ByteArray := ⟨#[102, 114, 101, 101]⟩
theorem free_gold : ¬ gold = free := fun h => by
  have : gold.data.toList = free.data.toList := by rw [h]
  revert this; decide
def two (c f : Int) : List Cls := [(gold, c, f), (free, 5, 1)]
theorem two_gold (c f : Int) : clsG (two c f) gold = some (c, f) := by simp [clsG, two]
theorem two_check (c f : Int) : checkE (two c f) = if (timeB c && timeB f) = true then 0 else 7 := by
  have hw : wordB gold = true := by decide
  have hw2 : wordB free = true := by decide
  have ht : timeB 1 = true := by decide
  have ht2 : timeB 5 = true := by decide
  cases h : (timeB c && timeB f)
  · simp [checkE, two, checkFrom, stepE, hw, hw2, ht, ht2, anyName, h]
  · simp [checkE, two, checkFrom, stepE, hw, hw2, ht, ht2, anyName, h, free_gold]
theorem isCls_two (w : World) (c f : Int) (hc : (Lit.int .i64 c).wf = true) (hf : (Lit.int .i64 f).wf = true) :
    IsCls (w.alloc (.cells #[.string gold, .int .i64 c, .int .i64 f, .string free, .int .i64 5, .int .i64 1] 31)) (w.alloc (.cells #[.string gold, .int .i64 c, .int .i64 f, .string free, .int .i64 5, .int .i64 1] 31)).heap.size (some ⟨w.heap.size, 0, none⟩) (two c f) := by
  refine ⟨.inr ⟨w.heap.size, 0, rfl, by simp, fun j x hj => ?_⟩, fun x hx => ?_⟩
  · rcases j with _ | _ | j
    · simp [two] at hj
      subst hj
      exact ⟨newB w _ _ 0, newB w _ _ 1, newB w _ _ 2⟩
    · simp [two] at hj
      subst hj
      exact ⟨newB w _ _ 3, newB w _ _ 4, newB w _ _ 5⟩
    · simp [two] at hj
  · simp [two] at hx
    rcases hx with rfl | rfl
    · exact ⟨show gold.size ≤ maxLen by decide, hc, hf⟩
    · exact ⟨show free.size ≤ maxLen by decide, rfl, rfl⟩
set_option maxRecDepth 100000 in
set_option maxHeartbeats 4000000 in
theorem window_any (nm : ByteArray) (c fl : Int) (A : Option Addr) (cap : Nat) (asked : List Ask) (l0 l1 : Int) (w : World) (hask : IsAsk w w.heap.size A asked) (hlen : asked.length ≤ maxLen)
    (hc : (Lit.int .i64 c).wf = true) (hf : (Lit.int .i64 fl).wf = true) :
    Calls Try.prog 10 #[.agg #[.string nm, .int .i64 c, .int .i64 fl], .slice A asked.length cap, .agg #[.int .i64 l0, .int .i64 l1]] w fun e w' => e = .returned (.bool true) ∧ Below w.heap.size w w' := by
  have hcls := isCls_two ((w.alloc (.cells #[.string gold, .int .i64 c, .int .i64 fl] 31)).alloc (.cells #[.int .i64 l0, .int .i64 l1] 39)) c fl hc hf
  simp only [World.size_alloc] at hcls
  have hbx : Below w.heap.size w (((w.alloc (.cells #[.string gold, .int .i64 c, .int .i64 fl] 31)).alloc (.cells #[.int .i64 l0, .int .i64 l1] 39)).alloc (.cells #[.string gold, .int .i64 c, .int .i64 fl, .string free, .int .i64 5, .int .i64 1] 31)) := (((Below.refl _ _).alloc (Nat.le_refl _) _).alloc (by simp) _).alloc (by simp; omega) _
  have hq0 : Blk (((w.alloc (.cells #[.string gold, .int .i64 c, .int .i64 fl] 31)).alloc (.cells #[.int .i64 l0, .int .i64 l1] 39)).alloc (.cells #[.string gold, .int .i64 c, .int .i64 fl, .string free, .int .i64 5, .int .i64 1] 31)) w.heap.size 31 #[.string gold, .int .i64 c, .int .i64 fl] := ((Blk.new w _ _).alloc _).alloc _
  have hq1 : Blk (((w.alloc (.cells #[.string gold, .int .i64 c, .int .i64 fl] 31)).alloc (.cells #[.int .i64 l0, .int .i64 l1] 39)).alloc (.cells #[.string gold, .int .i64 c, .int .i64 fl, .string free, .int .i64 5, .int .i64 1] 31)) (w.heap.size + 1) 39 #[.int .i64 l0, .int .i64 l1] := by
    have := (Blk.new (w.alloc (.cells #[.string gold, .int .i64 c, .int .i64 fl] 31)) 39 #[.int .i64 l0, .int .i64 l1]).alloc (.cells #[.string gold, .int .i64 c, .int .i64 fl, .string free, .int .i64 5, .int .i64 1] 31)
    simpa using this
  have H := Lib.hid (And.intro hcls (And.intro hbx (And.intro hq0 hq1)))
  have HA := Lib.hid hask
  have HT := Lib.hid (two_check c fl)
  clear hcls hbx hq0 hq1 hask
  unfold maxLen at hlen
  cases htb : (timeB c && timeB fl)
  · rw [htb] at HT
    have HTB := Lib.hid htb
    clear htb
    go_enter Try.func10, Try.ntmps10
    go_wp2_with fail
    refine (rnew_bad (some ⟨w.heap.size + 1 + 1, 0, none⟩) 2 (two c fl) 0 _ 7 (by simp only [World.size_alloc]; exact H.out.1) (by simp [two]) HT.out (by decide)).mono ?_
    rintro e w1 ⟨rfl, b1⟩
    have B1 := H.out.2.1.trans (b1.mono H.out.2.1.size)
    clear b1
    go_wp2_with fail
    refine (rworks_any _).mono ?_
    rintro e w2 ⟨rfl, b2⟩
    go_wp2_with fail
    go_ret
    exact ⟨rfl, B1.trans (b2.mono B1.size)⟩
  rw [htb] at HT
  have HTB := Lib.hid htb
  clear htb
  have g1 : decide (60 < (asked.length : Int)) = false ∨ decide (60 < (asked.length : Int)) = true := by cases decide (60 < (asked.length : Int)) <;> simp
  go_enter Try.func10, Try.ntmps10
  go_wp2_with fail
  refine (rnew_any (some ⟨w.heap.size + 1 + 1, 0, none⟩) 2 (two c fl) 0 _ (by simp only [World.size_alloc]; exact H.out.1) HT.out (by decide)).mono ?_
  rintro e w1 ⟨rp, mc, mb, rfl, lr, lc, lm, hr, b1⟩
  simp only [World.size_alloc] at lr lc lm
  have q0 := H.out.2.2.1.below b1 H.out.2.2.1.lt
  have q1 := H.out.2.2.2.below b1 H.out.2.2.2.lt
  have B1 := H.out.2.1.trans (b1.mono H.out.2.1.size)
  have s1 : w.heap.size + 2 ≤ w1.heap.size := by have := b1.size; simp at this; omega
  have H1 := Lib.hid (And.intro hr (And.intro q0 (And.intro q1 B1)))
  clear hr b1 q0 q1 B1 H g1
  obtain ⟨B, hB⟩ : ∃ B, w.heap.size = B := ⟨_, rfl⟩
  rw [hB] at H1 s1 lr lc lm HA
  rw [hB]
  have HB := Lib.hid hB
  clear hB
  have r0 := H1.out.2.2.1.c2.1.1
  have r1 := H1.out.2.2.1.c2.1.2
  by_cases hok : asked.length ≤ 60 ∧ 0 ≤ l0 ∧ l0 ≤ 1099511627776 ∧ 0 ≤ l1 ∧ l1 ≤ 1099511627776
  · obtain ⟨k1, k2, k3, k4, k5⟩ := hok
    have d1 : decide (60 < (asked.length : Int)) = false := decide_eq_false (by omega)
    have d2 : decide (l0 < 0) = false := decide_eq_false (by omega)
    have d3 : decide (1099511627776 < l0) = false := decide_eq_false (by omega)
    have d4 : decide (l1 < 0) = false := decide_eq_false (by omega)
    have d5 : decide (1099511627776 < l1) = false := decide_eq_false (by omega)
    have hst : WinAt B rp mc (clsG (two c fl)) c fl l0 l1 w 0 0 0 w1 := by
      obtain ⟨t1, t2⟩ := Bool.and_eq_true_iff.1 HTB.out
      have u1 := timeB_true t1
      have u2 := timeB_true t2
      have hrr : rightB c fl 0 0 = true := rightB_true.2 ⟨u1, u2, by omega, by omega⟩
      have hbk : bktOf (clsG (two c fl)) (fun _ _ => none) 0 tA gold = (c, fl, 0, 0) := by rw [bktOf, two_gold]; rfl
      exact ⟨⟨mb, 0, _, 0, by omega, by omega, H1.out.1, by rw [hbk]; exact ⟨rfl, rfl, hrr, Int.le_refl _, window_start hrr k4⟩⟩, H1.out.2.1, H1.out.2.2.1, by decide, ⟨by omega, by omega⟩, H1.out.2.2.2, s1, by omega⟩
    have HS := Lib.hid hst
    clear hst H1 s1
    go_wp2_with fail
    clear r0 r1
    go_loopg [9, 10, 11] asked.length (fun gk s9 s10 s11 wr => ∃ (i : Nat) (n last : Int), i ≤ asked.length ∧ gk = asked.length - i ∧ s9 = .int .i64 n ∧ s10 = .int .i64 last ∧ s11 = .int .i64 i ∧ Hid (WinAt B rp mc (clsG (two c fl)) c fl l0 l1 w i n last wr))
    case atStart => exact ⟨0, 0, 0, by omega, by omega, rfl, rfl, rfl, HS⟩
    case round =>
      clear HS
      obtain ⟨i, n, last, hi, rfl, rfl, rfl, rfl, hw⟩ := hrel
      by_cases hlt : i < asked.length
      · obtain ⟨b, off, ⟨tn, cl, nw⟩, rfl, hbB, hx, ⟨hs1, hs2, hs3⟩, hcell⟩ := HA.out.at_ hlt
        obtain ⟨m0, m1, m2⟩ := hcell wr hw.out.below
        simp only at m0 m1 m2 hs1 hs2 hs3
        have hw2 := hw.out.grow ((Below.refl _ _).alloc (Nat.le_refl _) (.cells #[.string tn, .string cl, .int .i64 nw] 55))
        have hbx := Blk.new wr 55 #[.string tn, .string cl, .int .i64 nw]
        have HW := Lib.hid (And.intro hw2 hbx)
        clear hw2 hbx hw hcell hx
        by_cases hA : nw < last ∨ 1099511627776 < nw
        · have q : decide (nw < last) = true ∨ (decide (nw < last) = false ∧ decide (1099511627776 < nw) = true) := by
            by_cases h : nw < last
            · exact .inl (decide_eq_true h)
            · exact .inr ⟨decide_eq_false h, decide_eq_true (by omega)⟩
          clear hA
          rcases q with q | ⟨q, q'⟩
          all_goals
            go_wp2_with fail
            refine (rworks_any _).mono ?_
            rintro e w2 ⟨rfl, b2⟩
            go_wp2_with fail
            go_ret
            exact ⟨rfl, by rw [HB.out]; exact HW.out.1.below.trans (b2.mono (by have := HW.out.1.room; omega))⟩
        · have q1 : decide (nw < last) = false := decide_eq_false (by omega)
          have q2 : decide (1099511627776 < nw) = false := decide_eq_false (by omega)
          have hl0 := withinB_true.1 HW.out.1.time
          have htm : timeB nw = true := withinB_true.2 ⟨by omega, by omega⟩
          have HM := Lib.hid htm
          clear htm hl0
          obtain ⟨bb, hbb⟩ : ∃ bb, (cl.toList == [98, 101, 103, 105, 110]) = bb := ⟨_, rfl⟩
          obtain ⟨mb', k, f, bg, h1, h2, h3, h4⟩ := HW.out.1.rates
          have HR := Lib.hid (And.intro h3 h4)
          clear h3 h4
          have hll : last ≤ nw := by omega
          cases bb
          · go_wp2_with fail
            refine (rtake_any rp mc mb' 2 k (clsG (two c fl)) f bg tn cl nw _ HR.out.1 hs1 hs2 (by omega)).mono ?_
            rintro e w2 ⟨rfl, hr2, ho2⟩
            have hw2 := HW.out.1.take (tn := tn) (cl := cl) hll HM.out k4 (two_gold c fl) h1 h2 HR.out.1 HR.out.2 hr2 ho2
            have hbx := HW.out.2.only ho2 (by
              obtain ⟨D, d1, _⟩ := HR.out.1.bkt
              have := blk_map_ne d1 HW.out.2
              simp
              omega)
            obtain ⟨⟨y0, y1, y2⟩, -⟩ := hbx.c3
            have v0 := hw2.win.c2.1.1
            have v1 := hw2.win.c2.1.2
            obtain ⟨E, hE⟩ : ∃ E, takeE (clsG (two c fl)) (bktOf (clsG (two c fl)) f bg tn cl) cl nw = E := ⟨_, rfl⟩
            rw [hE] at hw2
            rw [hE]
            have HW2 := Lib.hid hw2
            have hnn := HW.out.1.num
            have t1 := eq_tA tn
            have t2 := eq_gold cl
            clear hE hw2 hbx hr2 ho2 m0 m1 m2 HR
            have u := withinB_true.1 HM.out
            have u1 := u.1
            have u2 := u.2
            clear u
            by_cases e0 : E = 0
            rotate_left
            · have q0 : (E == 0) = false := by simpa using e0
              go_wp2_with fail
              go_roundg (asked.length - (i + 1))
              case measure => omega
              case rel =>
                have h := HW2.out
                rw [if_neg (by rintro ⟨h1, h2, h3, h4, h5⟩; exact e0 h1)] at h
                exact ⟨i + 1, n, nw, by omega, rfl, rfl, rfl, by go_num, Lib.hid (by simpa using h)⟩
            have q0 : (E == 0) = true := by simpa using e0
            have E0 := Lib.hid e0
            clear e0
            by_cases ht : tn = tA
            rotate_left
            · rw [decide_eq_false ht] at t1
              go_wp2_with fail
              go_roundg (asked.length - (i + 1))
              case measure => omega
              case rel =>
                have h := HW2.out
                rw [if_neg (by rintro ⟨h1, h2, h3, h4, h5⟩; exact ht h2)] at h
                exact ⟨i + 1, n, nw, by omega, rfl, rfl, rfl, by go_num, Lib.hid (by simpa using h)⟩
            rw [decide_eq_true ht] at t1
            have HT1 := Lib.hid ht
            clear ht
            by_cases hg : cl = gold
            rotate_left
            · rw [decide_eq_false hg] at t2
              go_wp2_with fail
              go_roundg (asked.length - (i + 1))
              case measure => omega
              case rel =>
                have h := HW2.out
                rw [if_neg (by rintro ⟨h1, h2, h3, h4, h5⟩; exact hg h3)] at h
                exact ⟨i + 1, n, nw, by omega, rfl, rfl, rfl, by go_num, Lib.hid (by simpa using h)⟩
            rw [decide_eq_true hg] at t2
            have HT2 := Lib.hid hg
            clear hg
            by_cases hl : l0 ≤ nw
            rotate_left
            · have q3 : decide (l0 ≤ nw) = false := decide_eq_false hl
              go_wp2_with fail
              go_roundg (asked.length - (i + 1))
              case measure => omega
              case rel =>
                have h := HW2.out
                rw [if_neg (by rintro ⟨h1, h2, h3, h4, h5⟩; omega)] at h
                exact ⟨i + 1, n, nw, by omega, rfl, rfl, rfl, by go_num, Lib.hid (by simpa using h)⟩
            have q3 : decide (l0 ≤ nw) = true := decide_eq_true hl
            by_cases hm : nw - l0 ≤ l1
            rotate_left
            · have q4 : decide (nw - l0 ≤ l1) = false := decide_eq_false hm
              go_wp2_with fail
              go_roundg (asked.length - (i + 1))
              case measure => omega
              case rel =>
                have h := HW2.out
                rw [if_neg (by rintro ⟨h1, h2, h3, h4, h5⟩; omega)] at h
                exact ⟨i + 1, n, nw, by omega, rfl, rfl, rfl, by go_num, Lib.hid (by simpa using h)⟩
            have q4 : decide (nw - l0 ≤ l1) = true := decide_eq_true hm
            go_wp2_with fail
            go_roundg (asked.length - (i + 1))
            case measure => omega
            case rel =>
              have h := HW2.out
              rw [if_pos ⟨E0.out, HT1.out, HT2.out, hl, hm⟩] at h
              exact ⟨i + 1, n + 1, nw, by omega, rfl, rfl, rfl, by go_num, Lib.hid h⟩
          · go_wp2_with fail
            refine (rbegin_yes rp mc (.map (some mb')) bg nw _ HR.out.1.head HM.out).mono ?_
            rintro e w2 ⟨rfl, mb2, g1, g2, g3, g4⟩
            have hw2 := HW.out.1.begin hll HM.out g1 g2 g3 g4 (two_gold c fl)
            have HW2 := Lib.hid hw2
            clear g1 g2 g3 g4 hw2
            go_wp2_with fail
            go_roundg (asked.length - (i + 1))
            case measure => omega
            case rel => exact ⟨i + 1, n, nw, by omega, rfl, rfl, rfl, by go_num, HW2⟩
      · obtain rfl : i = asked.length := by omega
        obtain ⟨mb', k, f, bg, h1, h2, h3, h4⟩ := hw.out.rates
        have hnn := hw.out.num
        have hend := fun hn => window_end h4.2.2.1 k4 h4.2.2.2.2 hn
        have hfl : 0 ≤ fl ∧ fl ≤ 1099511627776 := (timeB_true (Bool.and_eq_true_iff.1 HTB.out).2)
        have hcl : 0 ≤ c ∧ c ≤ 1099511627776 := (timeB_true (Bool.and_eq_true_iff.1 HTB.out).1)
        clear h3 h4
        have G : ∀ d os, WinAt B rp mc (clsG (two c fl)) c fl l0 l1 w asked.length n last (Sort.grow (redrawn wr d) os) := fun d os => hw.out.grow (below_regrown wr d os)
        have m0 := fun d os => (G d os).cls.c3.1.2.1
        have m1 := fun d os => (G d os).cls.c3.1.2.2
        have m2 := fun d os => (G d os).win.c2.1.2
        clear G
        obtain ⟨n1, n2⟩ := hnn
        obtain ⟨u1, u2⟩ := hfl
        obtain ⟨u3, u4⟩ := hcl
        have hroom := hw.out.room
        by_cases hn : n ≤ c
        · have d1 : decide (n ≤ c) = true := decide_eq_true hn
          clear hend
          go_wp2_with fail
          refine wp_region_quiet_below (by kernel_rfl) (by kernel_rfl) ?_
          repeat (go_big_quiet_step ((go_at_call 31; exact Calls.regrown_of (rworks_any _))))
          refine wpQuiet_nil ?_
          intro w3 hw'
          obtain ⟨⟨dq, osq⟩, hw''⟩ := hw'
          have bb : Below wr.heap.size wr w3 := by rw [hw'']; exact below_regrown wr dq osq
          clear hw'' m0 m1 m2
          go_wp2_with fail
          go_ret
          exact ⟨rfl, by rw [HB.out]; exact hw.out.below.trans (bb.mono (by omega))⟩
        · obtain ⟨hf0, hd⟩ := hend hn
          clear hend
          have d1 : decide (n ≤ c) = false := decide_eq_false hn
          have d2 : decide (0 < fl) = true := decide_eq_true hf0
          have e1 : IntKind.i64.wrap (n - c) = n - c := IntWalk.i64_in _ (by omega)
          have e2 : IntKind.i64.wrap (n - c - 1) = n - c - 1 := IntWalk.i64_in _ (by omega)
          have hif : (if 1 < fl then fl else 1) = fl := by split <;> omega
          have d3 : decide ((n - c - 1) / (if 1 < fl then fl else 1) < l1) = true := by rw [hif]; exact decide_eq_true hd
          clear hif hd
          go_wp2_with fail
          refine wp_region_quiet_below (by kernel_rfl) (by kernel_rfl) ?_
          repeat (go_big_quiet_step ((go_at_call 31; exact Calls.regrown_of (rworks_any _))))
          refine wpQuiet_nil ?_
          intro w3 hw'
          obtain ⟨⟨dq, osq⟩, hw''⟩ := hw'
          have bb : Below wr.heap.size wr w3 := by rw [hw'']; exact below_regrown wr dq osq
          clear hw'' m0 m1 m2
          go_wp2_with fail
          all_goals
            go_ret
            exact ⟨rfl, by rw [HB.out]; exact hw.out.below.trans (bb.mono (by omega))⟩
  · have hb : 60 < asked.length ∨ (asked.length ≤ 60 ∧ l0 < 0) ∨ (asked.length ≤ 60 ∧ 0 ≤ l0 ∧ 1099511627776 < l0) ∨ (asked.length ≤ 60 ∧ 0 ≤ l0 ∧ l0 ≤ 1099511627776 ∧ l1 < 0) ∨ (asked.length ≤ 60 ∧ 0 ≤ l0 ∧ l0 ≤ 1099511627776 ∧ 0 ≤ l1 ∧ 1099511627776 < l1) := by omega
    clear hok
    rcases hb with k1 | ⟨k1, k2⟩ | ⟨k1, k2, k3⟩ | ⟨k1, k2, k3, k4⟩ | ⟨k1, k2, k3, k4, k5⟩
    all_goals
      first | have d1 : decide (60 < (asked.length : Int)) = true := decide_eq_true (by omega) | have d1 : decide (60 < (asked.length : Int)) = false := decide_eq_false (by omega)
      try first | have d2 : decide (l0 < 0) = true := decide_eq_true (by omega) | have d2 : decide (l0 < 0) = false := decide_eq_false (by omega)
      try first | have d3 : decide (1099511627776 < l0) = true := decide_eq_true (by omega) | have d3 : decide (1099511627776 < l0) = false := decide_eq_false (by omega)
      try first | have d4 : decide (l1 < 0) = true := decide_eq_true (by omega) | have d4 : decide (l1 < 0) = false := decide_eq_false (by omega)
      try first | have d5 : decide (1099511627776 < l1) = true := decide_eq_true (by omega) | have d5 : decide (1099511627776 < l1) = false := decide_eq_false (by omega)
      go_wp2_with fail
      refine (rworks_any _).mono ?_
      rintro e w2 ⟨rfl, b2⟩
      go_wp2_with fail
      go_ret
      exact ⟨rfl, by rw [HB.out]; exact H1.out.2.2.2.trans (b2.mono (by omega))⟩
end Go.Proofs.Ytikpbhfjmlfooaa
