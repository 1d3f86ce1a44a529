/-
  The walk of least.Of: the canonical automaton of the language. Conditions: the automaton lies in memory; the table of powers lies as laid.
-/
import Derived.Test.YtmmlakheimfijaaGreatDoorJOfOut
import Derived.Test.YtmmlakheimfijaaGreatDoorJDfa
import Derived.Test.YtmmlakheimfijaaGreatDoorJKit
import Derived.Laws.EntriesVeiled
namespace Go.Proofs.YtmmlakheimfijaaGreatDoor
set_option linter.unusedVariables false
set_option linter.unusedSimpArgs false
open Go.RowKit Go.Maps Go.Sort Go.ChangeShapes Go.WideShapes

theorem reachD_ne {D : DfaI} (h : RightD D) : 0 < (reachD D).length ∧ reachD D = reachL D.aut := by
  have e : reachD D = reachL D.aut := by unfold reachD; rw [if_pos (rightD_iff.2 h)]
  rw [e]
  exact ⟨List.length_pos_of_mem ((reachL_mem h.ok).2 (.start _)), rfl⟩

set_option maxHeartbeats 16000000 in
set_option maxRecDepth 100000 in
theorem of_any2 (v : Value) (D : DfaI) (w : World) (h : DfaAt w v D) (hD : D.In) (hT : Pow10 w) : Calls Tryz.prog 26 #[v] w fun e w' => ∃ rv, e = .returned rv ∧ DfaAt w' rv (ofD D) ∧ Below w.heap.size w w' ∧ ∀ w2 : World, (∀ k, w.heap.size ≤ k → w2.heap[k]? = w'.heap[k]?) → DfaAt w2 rv (ofD D) := by
  have hdr := fun W => reached_any v D W
  obtain ⟨fv, bv, nv, rfl, hf, hb, hn⟩ := id h
  have hM := hD.many
  have hbw := (Below.refl w.heap.size w).alloc (Nat.le_refl _) (.cells #[.int .i64 D.start, fv, bv, nv] 26)
  have hq := Blk.new w 26 #[.int .i64 D.start, fv, bv, nv]
  have hz0 : (w.alloc (.cells #[.int .i64 D.start, fv, bv, nv] 26)).heap.size = w.heap.size + 1 := by simp
  have hbw1 := hbw.alloc (by omega) (.cells #[.int .i64 0, .slice none 0 0, .slice none 0 0, .slice none 0 0] 26)
  have hq1 := hq.alloc (.cells #[.int .i64 0, .slice none 0 0, .slice none 0 0, .slice none 0 0] 26)
  have hr1 := Blk.new (w.alloc (.cells #[.int .i64 D.start, fv, bv, nv] 26)) 26 #[.int .i64 0, .slice none 0 0, .slice none 0 0, .slice none 0 0]
  rw [hz0] at hr1
  have hz1 : ((w.alloc (.cells #[.int .i64 D.start, fv, bv, nv] 26)).alloc (.cells #[.int .i64 0, .slice none 0 0, .slice none 0 0, .slice none 0 0] 26)).heap.size = w.heap.size + 2 := by simp
  obtain ⟨⟨y0, y1, y2, y3⟩, -⟩ := hq1.c4
  have H := Lib.hid (And.intro h (And.intro hD (And.intro hT (And.intro hbw1 (And.intro hq1 hr1)))))
  clear hf hb hn hq hD h hT hbw hq1 hr1
  have hreach := hdr _ (H.out.1.below hbw1) H.out.2.1
  clear hdr hbw1 hz0
  go_enter Tryz.func26, Tryz.ntmps26
  go_wp2_with fail
  refine hreach.mono ?_
  rintro e w1 ⟨rv, rfl, hown1, b1⟩
  clear hreach y0 y1 y2 y3
  have hrow1 := own_shape hown1
  obtain ⟨ra, rc, rfl⟩ := hrow1
  rw [hz1] at hown1 b1
  have hzz := b1.size
  rw [hz1] at hzz
  have HW := Lib.hid (And.intro (H.out.2.2.2.1.trans (b1.mono (by omega))) (And.intro (H.out.2.2.2.2.1.below b1 (by omega)) (H.out.2.2.2.2.2.below b1 (by omega))))
  clear b1 hz1
  cases hr : rightD D with
  | false =>
    have hlen : (reachD D).length = 0 := by unfold reachD; rw [if_neg (by rw [hr]; decide)]; rfl
    have hof : ofD D = noD := by unfold ofD; rw [if_neg (by rw [hr]; decide)]
    have HO := Lib.hid (And.intro hof hlen)
    have k1 : ((reachD D).length : Int) = 0 := by omega
    have k2 : (((reachD D).length : Int) == 0) = true := by simp [k1]
    obtain ⟨r0, r1, r2, r3⟩ := HW.out.2.2.c4.1
    obtain ⟨f0, f1, f2, f3⟩ := HW.out.2.2.c4.2
    clear hr hlen hof hown1 k1
    have hb4 := blk_set4 HW.out.2.2 (.int .i64 0) (.slice none 0 0) (.slice none 0 0) (.slice none 0 0)
    obtain ⟨⟨r0', r1', r2', r3'⟩, -⟩ := hb4.c4
    have ho4 := only_set4 w1 (w.heap.size + 1) (.int .i64 0) (.slice none 0 0) (.slice none 0 0) (.slice none 0 0)
    go_wp2_with fail
    refine bodyPost_ret (v := .agg #[.int .i64 0, .slice none 0 0, .slice none 0 0, .slice none 0 0]) (by simp [results, Tryz.results26, go_sem, r0', r1', r2', r3']) rfl ⟨_, rfl, ?_, HW.out.1.trans (ho4.below (by omega) (by simp)), fun w2 _ => ?_⟩
    all_goals
      rw [HO.out.1]
      exact ⟨_, _, _, rfl, ⟨none, 0, rfl, .inl rfl⟩, ⟨none, 0, rfl, .inl rfl⟩, ⟨none, 0, rfl, .inl rfl⟩⟩
  | true =>
    have hR := rightD_iff.1 hr
    obtain ⟨hpos, hre⟩ := reachD_ne hR
    have hof : ofD D = canonI (langD D) := by unfold ofD; rw [if_pos hr]
    have hrl := reachL_len D.aut
    have hm : D.aut.many = D.nx.length := rfl
    have hml : D.nx.length ≤ 4096 := by rw [D.nx_len]; exact hR.m2
    have hRlt : ∀ n ∈ reachD D, n < D.nx.length := fun n hn => by rw [hre] at hn; exact ((reachL_mem hR.ok).1 hn).lt hR.ok
    have hRn : (reachD D).Nodup := by rw [hre]; exact reachL_nodup _
    have hRC : Closed D.aut (reachD D) := ⟨fun n k hn hk => by rw [hre] at hn ⊢; exact (reachL_mem hR.ok).2 (((reachL_mem hR.ok).1 hn).nx hk)⟩
    rw [← hre] at hrl
    rw [hm] at hrl
    obtain ⟨R, hRe⟩ : ∃ R, reachD D = R := ⟨_, rfl⟩
    have hmem : ∀ p, p ∈ R ↔ Reach D.aut p := fun p => by rw [← hRe, hre]; exact reachL_mem hR.ok
    obtain ⟨fv', bv', nv', he, hf3, hb3, hn3⟩ := H.out.1.below HW.out.1
    obtain ⟨rfl, rfl, rfl⟩ : _ ∧ _ ∧ _ := by simpa using he
    have hrows := hn3.rowsAt hR.rowsOk
    change RowsAt w1 nv D.nx _ at hrows
    have hf4 : BoolsAt w1 fv D.nx.length D.aut.fin := by rw [D.nx_len, ← hR.fin]; exact hf3
    have hw256 := hR.wide_le
    have hcls := classes_any w1 (.int .i64 D.start) fv bv nv (.slice ra R.length rc) D.nx R D.aut hrows hf4 (by rw [hRe] at hown1; exact NatsAt.of_own hown1) hR.nxt (by rw [← hRe]; exact hRlt) (by rw [← hRe]; exact hRn) hR.ok rfl rfl (by rw [← hRe]; exact hRC) (by omega) (by omega) (by rw [← hRe]; omega)
    rw [hRe] at hown1 hpos hrl hRlt hRn
    rw [hRe]
    have k1 : ((R.length : Int) == 0) = false := by rw [beq_eq_false_iff_ne]; omega
    have HD := Lib.hid (And.intro hR (And.intro hof (And.intro hmem (And.intro hrows (And.intro hf4 hb3)))))
    have HR := Lib.hid (And.intro hRlt hRn)
    obtain ⟨y0, y1, y2, y3⟩ := HW.out.2.1.c4.1
    have hl9 : R.length ≤ 9223372036854775807 := by omega
    clear hr hR hre hof hm hRC hRe hmem he hf3 hb3 hn3 hrows hf4 hRlt hRn
    go_wp2_with fail
    refine hcls.mono ?_
    rintro e w2 ⟨cv, P, rfl, hcv, hHop, hPE, b2⟩
    have hzz2 := b2.size
    clear hcls y0 y1 y2 y3
    obtain ⟨ac, kc, rfl⟩ := own_shape hcv
    have HP := Lib.hid (And.intro hHop hPE)
    have hcnt := hHop.count
    obtain ⟨many, hmany⟩ : ∃ many, P.mem.length = many := ⟨_, rfl⟩
    have HM := Lib.hid hmany
    rw [hmany] at hcnt
    rw [hmany]
    clear hHop hPE hmany
    have HW2 := Lib.hid (And.intro (HW.out.1.trans (b2.mono (by omega))) (And.intro (HW.out.2.1.below b2 (by omega)) (And.intro (HW.out.2.2.below b2 (by omega)) (And.intro b2 (own_only hown1 (Only.of_below (S := []) b2) (by simp))))))
    have hmm := @run_makeMap Tryz.prog
    -- the worlds of the three variables
    have zA : (w2.alloc (.cells #[.slice ac D.nx.length kc] 23)).heap.size = w2.heap.size + 1 := by simp
    have zB : ((w2.alloc (.cells #[.slice ac D.nx.length kc] 23)).alloc (.map #[] 0)).heap.size = w2.heap.size + 2 := by simp
    have tB := TabAt.none (w2.alloc (.cells #[.slice ac D.nx.length kc] 23))
    have cB := (Blk.new w2 23 #[.slice ac D.nx.length kc]).alloc (.map #[] 0)
    have mB := Blk.new ((w2.alloc (.cells #[.slice ac D.nx.length kc] 23)).alloc (.map #[] 0)) 71 #[.map (some (w2.heap.size + 1))]
    have bB : Below w2.heap.size w2 (((w2.alloc (.cells #[.slice ac D.nx.length kc] 23)).alloc (.map #[] 0)).alloc (.cells #[.map (some (w2.heap.size + 1))] 71)) := (((Below.refl _ _).alloc (Nat.le_refl _) _).alloc (by omega) _).alloc (by omega) _
    rw [zA] at tB
    rw [zB] at mB
    have cB2 := cB.alloc (.cells #[.map (some (w2.heap.size + 1))] 71)
    have tB2 := tB.kept (grown_alloc _ (.cells #[.map (some (w2.heap.size + 1))] 71)) (by simp)
    have zC : (((w2.alloc (.cells #[.slice ac D.nx.length kc] 23)).alloc (.map #[] 0)).alloc (.cells #[.map (some (w2.heap.size + 1))] 71)).heap.size = w2.heap.size + 3 := by simp
    obtain ⟨w3, hw3⟩ : ∃ w3, ((w2.alloc (.cells #[.slice ac D.nx.length kc] 23)).alloc (.map #[] 0)).alloc (.cells #[.map (some (w2.heap.size + 1))] 71) = w3 := ⟨_, rfl⟩
    rw [hw3] at bB mB cB2 tB2 zC
    have H3 := Lib.hid (And.intro bB (And.intro cB2 (And.intro mB tB2)))
    have HC := Lib.hid (And.intro hcv (own_only hcv (Only.of_below (S := []) bB) (by simp)))
    clear b2 hown1 hcv zA zB tB cB mB bB cB2 tB2
    go_wp2_with fail
    try simp only [hw3]
    clear hw3
    go_loopw [8, 41] (fun _ c wr => ∃ j n : Nat, j ≤ R.length ∧ c = .int .i64 j ∧ n ≤ j ∧ TabAt wr (w2.heap.size + 1) n (oneF P.cls (R.take j)) ∧ Only [w2.heap.size + 1] w3 wr) (fun _ c _ => R.length - (intOf c).toNat)
    case atStart => exact ⟨0, 0, by omega, rfl, by omega, H3.out.2.2.2, Only.refl _ _⟩
    case round =>
      obtain ⟨j, n, hj, rfl, hnj, ht, ho⟩ := hrel
      have hzr := ho.size
      by_cases hlt : j < R.length
      · obtain ⟨x, hx⟩ : ∃ x, R[j]? = some x := ⟨_, List.getElem?_eq_getElem hlt⟩
        have hxM := HR.out.1 x (List.mem_of_getElem? hx)
        have hxc := HP.out.1.cov x (List.mem_of_getElem? hx)
        rw [HM.out] at hxc
        have b3w : Below w2.heap.size w2 wr := H3.out.1.trans (ho.below (by omega) (by simp))
        have hrow := own_only HW2.out.2.2.2.2 (Only.of_below (S := []) b3w) (by simp)
        obtain ⟨br, or_, rfl, m0⟩ := (NatsAt.of_own hrow).get hx
        have hcr := own_only HC.out.1 (Only.of_below (S := []) b3w) (by simp)
        obtain ⟨gc, capc, hec, -, hgc⟩ := hcr.form (by omega)
        have hec' : ac = some ⟨gc, 0, none⟩ := by simpa using (Value.slice.inj hec).1
        subst hec'
        have m2 := hcr.cellAt x (by omega)
        rw [clsCells_at hxM] at m2
        have v0 := (H3.out.2.1.only ho (by simp)).cell 0
        have v1 := (H3.out.2.2.1.only ho (by simp)).cell 0
        simp only [List.getElem?_toArray, List.getElem?_cons_zero] at v0 v1
        obtain ⟨c, hc⟩ : ∃ c, P.cls x = c := ⟨_, rfl⟩
        rw [hc] at m2 hxc
        have hone : oneF P.cls (R.take (j + 1)) = fun z => if z = c then x else oneF P.cls (R.take j) z := by
          have htk : R.take (j + 1) = R.take j ++ [x] := by rw [List.take_add_one, hx]; rfl
          rw [htk, oneF_snoc, hc]
        have HX := Lib.hid (And.intro hone (And.intro ht ho))
        have lc : ∀ {p : Addr} {v : Value}, wr.cell? p = some v → ∀ d os, (Sort.grow (redrawn wr d) os).cell? p = some v := fun {p v} hp d os => ((below_regrown wr d os).cell (World.block_lt_of_cell? wr p hp)).trans hp
        have q2 := lc m2
        have q4 := lc v0
        have q5 := lc v1
        clear lc hx hone ht ho hrow hcr hec hc m2 v0 v1 b3w
        go_wp2_with fail
        refine wp_region_below_tail 6 (by kernel_rfl) (by kernel_rfl) ?_
        simp only [List.take_succ_cons, List.take_zero, List.drop_succ_cons, List.drop_zero]
        repeat (go_big_quiet_step (fail))
        refine wpQuiet_nil ?_
        intro _ hw'
        obtain ⟨⟨dq, osq⟩, hw''⟩ := hw'
        subst hw''
        have bb : Below wr.heap.size wr (Sort.grow (redrawn wr dq) osq) := below_regrown wr dq osq
        generalize Sort.grow (redrawn wr dq) osq = w5 at *
        clear q2 q4 q5
        obtain ⟨w6, hput, ht6, hg6⟩ := (HX.out.2.1.below bb HX.out.2.1.lt).put (x := c) (y := x) (by unfold maxLen; omega) (by unfold maxLen; omega) (by unfold maxLen; omega)
        have ho6 : Only [w2.heap.size + 1] w3 w6 := (HX.out.2.2.trans (Only.of_below bb)).trans (Only.grown hg6)
        have HX6 := Lib.hid (And.intro ht6 ho6)
        clear bb hg6 ht6 ho6
        show wpList _ _ _ (_ :: _) _ _
        go_wp2_with fail
        clear hput
        go_roundw
        case rel => exact ⟨j + 1, n + 1, by omega, by go_num, by omega, by rw [HX.out.1]; exact HX6.out.1, HX6.out.2⟩
        case measure => simp [intOf]; omega
      · obtain rfl : j = R.length := by omega
        have kL : decide (R.length < R.length) = false := decide_eq_false (by omega)
        rw [List.take_length] at ht
        have b3w : Below w2.heap.size w2 wr := H3.out.1.trans (ho.below (by omega) (by simp))
        have hE : Env wr w.heap.size w2.heap.size (w2.heap.size + 1 + 1) (w2.heap.size + 1) n (.int .i64 D.start) fv bv nv (.slice ac D.nx.length kc) D.nx P.cls (oneF P.cls R) w1.heap.size :=
          ⟨HW2.out.2.1.below b3w (by omega), (HD.out.2.2.2.1.below HW2.out.2.2.2.1).below b3w, H3.out.2.1.only ho (by simp), own_only HC.out.1 (Only.of_below (S := []) b3w) (by simp), H3.out.2.2.1.only ho (by simp), ht⟩
        have hbvw : BoolsAt wr fv D.nx.length D.aut.fin ∧ IntsAt wr bv D.block := ⟨(HD.out.2.2.2.2.1.below HW2.out.2.2.2.1).below b3w, (HD.out.2.2.2.2.2.below HW2.out.2.2.2.1).below b3w⟩
        have hresB : Below w.heap.size w wr ∧ Blk wr (w.heap.size + 1) 26 #[.int .i64 0, .slice none 0 0, .slice none 0 0, .slice none 0 0] := ⟨HW2.out.1.trans (b3w.mono (by omega)), HW2.out.2.2.1.below b3w (by omega)⟩
        -- the plain facts
        have hcl : ClsOk D.aut P.cls (oneF P.cls R) many := by
          refine ⟨fun p q hp hq => HP.out.2 p q ((HD.out.2.2.1 p).2 hp) ((HD.out.2.2.1 q).2 hq), fun p hp => ?_, fun c hc => ?_⟩
          · rw [← HM.out]; exact HP.out.1.cov p ((HD.out.2.2.1 p).2 hp)
          · rw [← HM.out] at hc
            obtain ⟨h1, h2, h3⟩ := HP.out.1.mem c _ (List.getElem?_eq_getElem hc)
            obtain ⟨q, hq⟩ := List.exists_mem_of_ne_nil _ h1
            have := oneF_ok (cls := P.cls) (R := R) (c := c) ⟨q, ((h3 q).1 hq).1, ((h3 q).1 hq).2⟩
            exact ⟨(HD.out.2.2.1 _).1 this.1, this.2⟩
        have hres0 := hzz2
        obtain ⟨cls, hcls⟩ : ∃ cls, P.cls = cls := ⟨_, rfl⟩
        obtain ⟨one, hone⟩ : ∃ one, oneF P.cls R = one := ⟨_, rfl⟩
        rw [hone] at hE hcl
        rw [hcls] at hE hcl
        have hwide0 : 0 < D.aut.wide := HD.out.1.ok.wide0
        obtain ⟨l0, hl0⟩ : ∃ l0, D.nx[0]? = some l0 := ⟨_, List.getElem?_eq_getElem HD.out.1.nxt.pos⟩
        have hlw := (HD.out.1.nxt.row 0 l0 hl0).1
        have HE := Lib.hid (And.intro hE (And.intro hbvw (And.intro hresB (And.intro hcl hl0))))
        have HNL := Lib.hid D.nx_len
        have hnpos := HD.out.1.nxt.pos
        clear ht ho hE hbvw hresB hcl hone hcls hl0 b3w HP HM HC H3 HW2 hzz2 hres0 hzr zC HW
        obtain ⟨V, hV⟩ : ∃ V, V = wr := ⟨_, rfl⟩
        subst hV
        -- the closure's variable
        obtain ⟨fnv, hfnv⟩ : ∃ fnv, Value.func (.func 47) #[] #[.pointer (some ⟨w2.heap.size, 0, none⟩), .pointer (some ⟨w.heap.size, 0, none⟩), .pointer (some ⟨w2.heap.size + 1 + 1, 0, none⟩)] = fnv := ⟨_, rfl⟩
        have zE : (V.alloc (.cells #[fnv] 50)).heap.size = V.heap.size + 1 := by simp
        have bE : Below V.heap.size V (V.alloc (.cells #[fnv] 50)) := (Below.refl _ _).alloc (Nat.le_refl _) _
        have nE := Blk.new V 50 #[fnv]
        have kE := NumAt.made (V.alloc (.cells #[fnv] 50))
        rw [zE] at kE
        have bM : Below (V.heap.size + 1) (V.alloc (.cells #[fnv] 50)) ((V.alloc (.cells #[fnv] 50)).alloc (.map #[] 0)) := (Below.refl _ _).alloc (by omega) _
        have zM : ((V.alloc (.cells #[fnv] 50)).alloc (.map #[] 0)).heap.size = V.heap.size + 2 := by simp
        rw [← hfnv] at zE bE nE kE bM zM
        obtain ⟨WE, hWE⟩ : ∃ WE, V.alloc (.cells #[.func (.func 47) #[] #[.pointer (some ⟨w2.heap.size, 0, none⟩), .pointer (some ⟨w.heap.size, 0, none⟩), .pointer (some ⟨w2.heap.size + 1 + 1, 0, none⟩)]] 50) = WE := ⟨_, rfl⟩
        rw [hWE] at zE bE nE kE bM zM
        obtain ⟨WM, hWM⟩ : ∃ WM, WE.alloc (.map #[] 0) = WM := ⟨_, rfl⟩
        rw [hWM] at kE bM zM
        have eM := (HE.out.1.below bE).below (by rw [zE]; exact bM)
        obtain ⟨b0, o0, cp0, a0, c0, rfl, m0, -⟩ := eM.rows.get HE.out.2.2.2.2
        have y3 := eM.box.c4.1.2.2.2
        rw [Nat.add_zero] at m0
        rw [hlw] at m0
        obtain ⟨i0, hi0, hz00, hz01, hz02⟩ := info_parts infoInt
        have HV := Lib.hid (And.intro bE (And.intro nE (And.intro kE bM)))
        have hk0 : decide (0 < D.nx.length) = true := decide_eq_true hnpos
        clear bE nE kE bM eM hfnv
        go_wp2_with (first
          | (at_make; refine wpList_make_full _ rfl _ _ 23 rfl (V.heap.size + 1) 3 i0 (.int .i64 0) 1 Tryz.underlying23 hi0 hz00 hz01 .i64 .i64 D.aut.wide D.aut.wide D.aut.wide rfl rfl rfl rfl (by rw [hz02]; omega) (by unfold maxLen; omega) (by omega) ?_; intro w4 hown4 hgrow4)
          | go_in)
        have HM4 := Lib.hid (And.intro hown4 hgrow4)
        have hCl : ∀ c, c < many → one c < D.nx.length := fun c hc => (HE.out.2.2.2.1.one c hc).1.lt HD.out.1.ok
        have hCc : ∀ p, Reach D.aut p → cls p ≤ 1000000 := fun p hp => by have := HE.out.2.2.2.1.lt p hp; omega
        have hCn : ∀ c k, c < many → k < D.aut.wide → nextC D.aut cls one c k < many := fun c k hc hk => HE.out.2.2.2.1.lt _ (((HE.out.2.2.2.1.one c hc).1).nx hk)
        have hz4 : V.heap.size + 3 ≤ w4.heap.size := by have := (hown4.lt WM.heap.size rfl).2; omega
        have hPw : Pow10 WE := (H.out.2.2.1.below HE.out.2.2.1.1 (Nat.le_refl _)).below HV.out.1 (Nat.le_refl _)
        have HPw := Lib.hid hPw
        obtain ⟨W5, hW5⟩ : ∃ W5, w4.alloc (.cells #[.slice none 0 0] 23) = W5 := ⟨_, rfl⟩
        have h5 : Cols W5 (V.heap.size + 1) (V.heap.size + 1) (V.heap.size + 2) w4.heap.size D.aut.wide (.slice none 0 0) (blocksC D.aut cls one many 0) (mgF D.aut cls one many D.aut.wide 0) 0 (keysC D.aut cls one many 0) := by
          rw [← hW5]
          refine ⟨Blk.new _ _ _, World.ownsRow_nil _ _ _ _, by simp [Value.ownBlock], ?_, ?_, by omega, Nat.le_refl _⟩
          · have := hown4.alloc (.cells #[.slice none 0 0] 23)
            rw [clsCells_zero, zM] at this
            rw [clsCells_congr (g := fun _ => 0) (fun z _ => by simp [mgF])]
            exact this
          · exact ((HV.out.2.2.1).kept hgrow4 (by simp)).kept (grown_alloc _ _) (by simp)
        have hb5 : RowKit.Below (V.heap.size + 1) WE W5 := by
          rw [← hW5]
          exact (HV.out.2.2.2.grown hgrow4 (by omega) (fun k e => by cases e)).alloc (by omega) _
        have hz5 : W5.heap.size = w4.heap.size + 1 := by rw [← hW5]; simp
        have H5 := Lib.hid (And.intro h5 hb5)
        clear hown4 hgrow4 hPw h5 hb5 m0 y3 hk0
        try simp only [hW5]
        clear hW5
        obtain ⟨bB, hbB⟩ : ∃ bB, w4.heap.size = bB := ⟨_, rfl⟩
        rw [hbB] at hz4 hz5 H5
        try simp only [hbB]
        clear hbB HM4
        go_loopw [13, 14, 15, 62] (fun _ _ _ c wr => ∃ (k nn : Nat) (vB : Value), k ≤ D.aut.wide ∧ c = .int .i64 k ∧ nn ≤ k ∧ Cols wr (V.heap.size + 1) (V.heap.size + 1) (V.heap.size + 2) bB D.aut.wide vB (blocksC D.aut cls one many k) (mgF D.aut cls one many D.aut.wide k) nn (keysC D.aut cls one many k) ∧ RowKit.Below (V.heap.size + 1) WE wr ∧ bB < wr.heap.size) (fun _ _ _ c _ => D.aut.wide - (intOf c).toNat)
        case atStart => exact ⟨0, 0, .slice none 0 0, by omega, rfl, by omega, H5.out.1, H5.out.2, by omega⟩
        case round =>
          obtain ⟨k, nn, vB, hk, rfl, hnn, hcol, hbr, hzr⟩ := hrel
          by_cases hkw : k < D.aut.wide
          · have q1 : decide (k < D.aut.wide) = true := decide_eq_true hkw
            have HR1 := Lib.hid (And.intro hcol hbr)
            clear hcol hbr
            obtain ⟨U, hU⟩ : ∃ U, U = wr := ⟨_, rfl⟩
            subst hU
            go_wp2_with fail
            go_loopw [14, 15, 66] (fun c14 _ c66 wi => ∃ c : Nat, c ≤ many ∧ c66 = .int .i64 c ∧ wi.ownsRow U.heap.size 3 1 c14 c (natCells (colL D.aut cls one c k)) ∧ RowKit.Below U.heap.size U wi) (fun _ _ c _ => many - (intOf c).toNat)
            case atStart => exact ⟨0, by omega, rfl, World.ownsRow_nil _ _ _ _, Below.refl _ _⟩
            case round =>
              obtain ⟨c, hc, rfl, hrow, hbi⟩ := hrel
              obtain ⟨al, cpl, rfl⟩ := own_shape hrow
              have hbWi : RowKit.Below (V.heap.size + 1) WE wr := HR1.out.2.trans (hbi.mono (by omega))
              by_cases hcm : c < many
              · have q2 : decide (c < many) = true := decide_eq_true hcm
                have hEi := (HE.out.1.below HV.out.1).below (by rw [zE]; exact hbWi)
                have hcall := onext_any wr _ _ _ _ _ _ _ _ _ _ _ _ _ _ D.aut.wide c k hEi HD.out.1.nxt (hCl c hcm) hkw (by omega) (by omega) (by omega)
                have hfn := (HV.out.2.1.below hbWi (by omega)).cell 0
                simp only [List.getElem?_toArray, List.getElem?_cons_zero] at hfn
                obtain ⟨y, hy⟩ : ∃ y, cls (nxtF D.nx (one c) k) = y := ⟨_, rfl⟩
                have hy6 : y ≤ 1000000 := by rw [← hy]; have := hCn c k hcm hkw; unfold nextC at this; exact Nat.le_trans (Nat.le_of_lt this) (by omega)
                rw [hy] at hcall
                have HY := Lib.hid hy
                have HRi := Lib.hid (And.intro hrow hbi)
                clear hy hrow hbi hEi hbWi
                go_wp2_with fail
                refine hcall.mono ?_
                rintro e w5 ⟨rfl, b5⟩
                have hrow5 := own_only HRi.out.1 (Only.of_below (S := []) b5) (by simp)
                have hbi5 := HRi.out.2.trans (b5.mono HRi.out.2.size)
                have hone1 := one_at (w := w5) (u := .int .i64 (y : Int)) (t := 3)
                have hrow6 := hrow5.alloc (.cells #[.int .i64 (y : Int)] 3)
                have hz55 := hbi5.size
                clear hcall HRi hfn b5
                go_wp2_with (at_builtin; refine wpList_append_own _ rfl _ _ 23 rfl U.heap.size 3 i0 (.int .i64 0) 1 8 Tryz.underlying23 hi0 hz00 hz01 hz02 rfl (by decide) _ _ _ rfl hrow6 ⟨w5.heap.size, 0, none⟩ 1 1 [.int .i64 (y : Int)] rfl rfl hone1 (fun u hu => by simp at hu; subst hu; rfl) (by unfold maxLen; omega) (by omega) (by simp; omega) ?_; intro v' w8 hown8 hgrow8 _)
                go_roundw
                case rel =>
                  refine ⟨c + 1, by omega, by go_num, ?_, (hbi5.alloc (by omega) _).grown hgrow8 (by simp; omega) (fun j e => (hrow5.lt j e).1)⟩
                  have e1 : nextC D.aut cls one c k = y := HY.out
                  rw [colL_snoc, natCells_snoc, e1]
                  exact hown8
                case measure => simp [intOf]; omega
              · obtain rfl : many = c := by omega
                have q2 : decide (many < many) = false := decide_eq_false (by omega)
                have hcW := HR1.out.1.below hbi
                obtain ⟨l, hl⟩ : ∃ l, colL D.aut cls one many k = l := ⟨_, rfl⟩
                rw [hl] at hrow
                have hll : l.length = many := by rw [← hl]; exact colL_len ..
                have hl6 : ∀ n ∈ l, n ≤ 1000000 := fun n hn => by
                  rw [← hl] at hn
                  obtain ⟨c, hc, rfl⟩ := List.mem_map.1 hn
                  have := hCn c k (by simpa using hc) hkw
                  omega
                have hkey := key_any (.slice al many cpl) l wr (NatsAt.of_own hrow) (by omega) hl6 (HPw.out.below hbWi (by omega))
                have hkl := keyT_len hl6
                have hcT : colT D.aut cls one many k = keyT l := by unfold colT; rw [hl]
                obtain ⟨bl, hbl⟩ : ∃ bl, blocksC D.aut cls one many k = bl := ⟨_, rfl⟩
                have hblk := blocksC_le (d := D.aut) (cls := cls) (one := one) (many := many) k
                rw [hbl] at hcW hblk
                obtain ⟨abv, cbv, rfl⟩ := own_shape hcW.bl
                have hksl : (keysC D.aut cls one many k).length = bl.length := by unfold keysC; rw [hbl, List.length_map]
                have HCW := Lib.hid (And.intro hcW (And.intro hbl (And.intro hcT hbWi)))
                have HKL := Lib.hid hblk
                have hblen := hblk.1
                have hzz5 : bB < wr.heap.size := by have := hbi.size; omega
                clear hbi hcW hbl hcT hbWi hl hl6 hrow hblk HR1
                go_wp2_with fail
                refine hkey.mono ?_
                rintro e w5 ⟨rfl, b5⟩
                have hcol5 := HCW.out.1.below b5
                have hb5 := HCW.out.2.2.2.trans (b5.mono (by omega))
                have hbs : (⟨(keyT l).toArray⟩ : ByteArray).data.toList = keyT l := by simp
                have hsz : (⟨(keyT l).toArray⟩ : ByteArray).size = (keyT l).length := by show (keyT l).toArray.size = _; simp
                have hnum := numof_any _ _ _ ⟨(keyT l).toArray⟩ w5 hcol5.num (by rw [hsz]; unfold maxLen; omega) (by unfold maxLen; omega) (by omega)
                rw [hbs] at hnum
                obtain ⟨m, hm⟩ : ∃ m, numOf (keysC D.aut cls one many k) (keyT l) = m := ⟨_, rfl⟩
                rw [hm] at hnum
                have hz5w := b5.size
                have H6 := Lib.hid (And.intro hcol5 (And.intro hb5 hm))
                clear hkey b5 hcol5 hb5 hbs hsz hm
                go_wp2_with fail
                refine hnum.mono ?_
                rintro e w6 ⟨rfl, ⟨m6, hm6, hnum6⟩, hg6⟩
                have hcol6 := H6.out.1.num_ hg6 hnum6
                have hks : addT (keysC D.aut cls one many k) (keyT l) = keysC D.aut cls one many (k + 1) := by rw [keysC_succ, HCW.out.2.2.1]
                rw [hks] at hcol6
                have hb6 := H6.out.2.1.grown hg6 (by omega) (fun j e => by cases e; exact Nat.le_refl _)
                have hz6 := hg6.size
                have hmer : mergedC D.aut cls one many D.aut.wide k = m := by rw [merged_is hkw, HCW.out.2.2.1, H6.out.2.2]
                have hcol7 := hcol6.set (k := k) (y := m) (mg' := mgF D.aut cls one many D.aut.wide (k + 1)) hkw fun z _ => by rw [mgF_succ, hmer]
                have k0 := hcol6.mg.cellAt k (by omega)
                have k1' := hcol6.mg.frozenAt k
                rw [clsCells_at hkw] at k0
                obtain ⟨z0, hz0⟩ : ∃ z0 : Value, Value.int .i64 ((mgF D.aut cls one many D.aut.wide k k : Nat) : Int) = z0 := ⟨_, rfl⟩
                rw [hz0] at k0
                have b7 := hb6.setCell (p := ⟨V.heap.size + 2, k, none⟩) (by show V.heap.size + 1 ≤ V.heap.size + 2; omega) (.int .i64 (m : Int))
                have e0 := hcol7.mg.cellAt k (by omega)
                rw [clsCells_at hkw, show mgF D.aut cls one many D.aut.wide (k + 1) k = m by rw [mgF_succ, if_pos rfl, hmer]] at e0
                have e1 := hcol7.blk.cell 0
                simp only [List.getElem?_toArray, List.getElem?_cons_zero] at e1
                have H7 := Lib.hid (And.intro hcol7 (And.intro b7 hmer))
                have hz7 : (w6.setCell ⟨V.heap.size + 2, k, none⟩ (.int .i64 (m : Int))).heap.size = w6.heap.size := by simp
                obtain ⟨w7, hw7⟩ : ∃ w7, w6.setCell ⟨V.heap.size + 2, k, none⟩ (.int .i64 (m : Int)) = w7 := ⟨_, rfl⟩
                rw [hw7] at e0 e1 H7 hz7
                have lc : ∀ {p : Addr} {v : Value}, w7.cell? p = some v → ∀ d os, (Sort.grow (redrawn w7 d) os).cell? p = some v := fun {p v} hp d os => ((below_regrown w7 d os).cell (World.block_lt_of_cell? w7 p hp)).trans hp
                have q4 := lc e0
                have q5 := lc e1
                clear lc e0 e1 hnum hcol6 hks hb6 hg6 hnum6 hmer hcol7 b7 hz0
                by_cases hold : (blocksC D.aut cls one many k).any (eqC D.aut cls one many k) = true
                · obtain ⟨n1, n2⟩ := merged_old hold
                  rw [HCW.out.2.2.1, H6.out.2.2, HCW.out.2.1] at n2
                  have q6 : ((m : Int) == (bl.length : Int)) = false := by rw [beq_eq_false_iff_ne]; omega
                  rw [HCW.out.2.1] at n1
                  have HN := Lib.hid n1
                  clear n1 hold
                  go_wp2_with fail
                  try simp only [hw7]
                  refine wp_region_quiet_below (by kernel_rfl) (by kernel_rfl) ?_
                  repeat (go_big_quiet_step (fail))
                  refine wpQuiet_nil ?_
                  intro _ hw'
                  obtain ⟨⟨dq, osq⟩, hw''⟩ := hw'
                  subst hw''
                  have bb : RowKit.Below w7.heap.size w7 (Sort.grow (redrawn w7 dq) osq) := below_regrown w7 dq osq
                  generalize Sort.grow (redrawn w7 dq) osq = w8 at *
                  have hz8 := bb.size
                  have H8 := Lib.hid (And.intro (H7.out.1.below bb) (H7.out.2.1.trans (bb.mono (by omega))))
                  clear q4 q5 k0 k1' hw7 bb
                  go_wp2_with fail
                  go_roundw
                  case rel => exact ⟨k + 1, m6, _, by omega, by go_num, by omega, by rw [HN.out]; exact H8.out.1, H8.out.2, by omega⟩
                  case measure => simp [intOf]; omega
                · obtain ⟨n1, n2⟩ := merged_new hold
                  rw [HCW.out.2.2.1, H6.out.2.2, HCW.out.2.1] at n2
                  have q6 : ((m : Int) == (bl.length : Int)) = true := by rw [beq_iff_eq]; omega
                  rw [HCW.out.2.1] at n1
                  have HN := Lib.hid n1
                  clear n1 n2 hold
                  go_wp2_with fail
                  try simp only [hw7]
                  refine wp_region_quiet_below (by kernel_rfl) (by kernel_rfl) ?_
                  repeat (go_big_quiet_step (fail))
                  refine wpQuiet_nil ?_
                  intro _ hw'
                  obtain ⟨⟨dq, osq⟩, hw''⟩ := hw'
                  subst hw''
                  have bb : RowKit.Below w7.heap.size w7 (Sort.grow (redrawn w7 dq) osq) := below_regrown w7 dq osq
                  generalize Sort.grow (redrawn w7 dq) osq = w8 at *
                  have hz8 := bb.size
                  have hcol8 := H7.out.1.below bb
                  have hb8 := H7.out.2.1.trans (bb.mono (by omega))
                  have hbv := own_blk_ne hcol8.bl hcol8.blk (by decide)
                  have c0' := hcol8.blk.cell 0
                  simp only [List.getElem?_toArray, List.getElem?_cons_zero] at c0'
                  have hone8 := one_at (w := w8) (u := .int .i64 (k : Int)) (t := 3)
                  have hown8 := hcol8.bl.alloc (.cells #[.int .i64 (k : Int)] 3)
                  have hblk8 := hcol8.blk.alloc (.cells #[.int .i64 (k : Int)] 3)
                  have H8 := Lib.hid (And.intro hcol8 hb8)
                  clear q4 q5 k0 k1' hw7 bb hcol8 hb8
                  go_wp2_with (at_builtin; refine wpList_append_lies _ rfl _ _ 23 rfl (V.heap.size + 1) 3 i0 (.int .i64 0) 1 8 Tryz.underlying23 hi0 hz00 hz01 hz02 rfl (by decide) _ _ _ rfl hown8 ⟨w8.heap.size, 0, none⟩ 1 1 [.int .i64 (k : Int)] rfl rfl hone8 (fun u hu => by simp at hu; subst hu; rfl) (by decide) (by unfold maxLen; omega) (by omega) (by simp; omega) _ rfl ?_; intro g9 cap9 w9 hown9 hgrow9 hat9 hlt9; (have y0 := (hblk8.grown hgrow9 (fun e => hbv e.symm)).cell 0); (have x0 := (hblk8.grown hgrow9 (fun e => hbv e.symm)).frozen 0); simp only [List.getElem?_toArray, List.getElem?_cons_zero] at y0)
                  go_roundw
                  case rel => exact ⟨k + 1, m6, _, by omega, by go_num, by omega, by rw [HN.out]; exact H8.out.1.push hown9 hgrow9 hat9, (((H8.out.2.alloc (by omega) _).grown hgrow9 (by simp; omega) (fun j e => (H8.out.1.bl.lt j e).1)).setCell (p := ⟨bB, 0, none⟩) (by show V.heap.size + 1 ≤ bB; omega) _), by simp; have := hgrow9.size; simp at this; omega⟩
                  case measure => simp [intOf]; omega
          · obtain rfl : D.aut.wide = k := by omega
            have q1 : decide (D.aut.wide < D.aut.wide) = false := decide_eq_false (by omega)
            obtain ⟨bl, hbl⟩ : ∃ bl, blocksC D.aut cls one many D.aut.wide = bl := ⟨_, rfl⟩
            have hblk := blocksC_le (d := D.aut) (cls := cls) (one := one) (many := many) D.aut.wide
            rw [hbl] at hcol hblk
            obtain ⟨abv, cbv, rfl⟩ := own_shape hcol.bl
            have hz : D.aut.wide = D.aut.wide := rfl
            have hBk := HD.out.1.blk.1
            have hFew : Few (D.aut.lang (blkF D.z)) := by
              have := Aut.statesL_le HD.out.1.ok hBk.blk
              have h2 : D.aut.many = D.nx.length := rfl
              unfold Few; omega
            have hom := orderC_many HE.out.2.2.2.1 hBk hFew
            have hon := orderC_nodup (d := D.aut) (cls := cls) (one := one) (bl := bl)
            have hol := orderC_lt HE.out.2.2.2.1 hBk
            rw [hbl] at hom hol
            have hEr := (HE.out.1.below HV.out.1).below (by rw [zE]; exact hbr)
            have hbD := HE.out.2.1.2.below (HV.out.1.trans (hbr.mono (by omega)))
            have hbF := HE.out.2.1.1.below (HV.out.1.trans (hbr.mono (by omega)))
            have hfn := HV.out.2.1.below hbr (by omega)
            have hst := HD.out.1.ok.st
            have hs0 := HD.out.1.s0
            obtain ⟨p0, hp0⟩ : ∃ p0 : Nat, D.start = (p0 : Int) := ⟨D.start.toNat, by omega⟩
            have hp1 : D.aut.start = p0 := by show D.start.toNat = p0; omega
            have hp2 : p0 < D.nx.length := by rw [← hp1]; exact hst
            have hmet : ∀ W, RowKit.Below wr.heap.size wr W → Calls Tryz.prog 50 #[.int .i64 (cls p0), .int .i64 bl.length, .func (.func 51) #[] #[.pointer (some ⟨V.heap.size, 0, none⟩), .pointer (some ⟨bB, 0, none⟩)]] W fun e w' => ∃ v, e = .returned v ∧ w'.ownsRow (W.heap.size + 1) 3 1 v (orderC D.aut cls one bl).length (natCells (orderC D.aut cls one bl)) ∧ RowKit.Below W.heap.size W w' := fun W hW => by
              have hf1 : ∀ n k, n < many → k < bl.length → stepC D.aut cls one bl n k < many := fun n k h1 h2 => hCn n _ h1 (hblk.2 _ (getD_mem h2))
              have := met_any 51 #[.pointer (some ⟨V.heap.size, 0, none⟩), .pointer (some ⟨bB, 0, none⟩)] (.inr ⟨rfl, _, _, rfl⟩) (stepC D.aut cls one bl) (cls p0) bl.length many fuelL W (by omega) (by omega) hf1 (by rw [← hp1]; exact HE.out.2.2.2.1.lt _ (.start _)) (by rw [fuelL_eq]; omega) (fun n k W' h1 h2 hW' => by
                have hWW := hW.trans (hW'.mono hW.size)
                have hx : bl[k]? = some (bl.getD k 0) := by rw [List.getD_eq_getElem?_getD, List.getElem?_eq_getElem h2]; rfl
                have hxw := hblk.2 _ (getD_mem (a := 0) h2)
                have hc8 := hcol.below hWW
                exact ostep_any W' _ _ _ V.heap.size bB n k (bl.getD k 0) (stepC D.aut cls one bl n k) abv bl cbv hx (by omega) (by omega) (by omega) (hfn.below hWW hfn.lt) hc8.blk (NatsAt.of_own hc8.bl) fun d os => by
                  have hE9 := (hEr.below hWW).below (below_regrown W' d os)
                  exact onext_any _ _ _ _ _ _ _ _ _ _ _ _ _ _ _ D.aut.wide n _ hE9 HD.out.1.nxt (hCl n h1) hxw (by omega) (by omega) (by omega))
              have e2 : orderC D.aut cls one bl = metF (stepC D.aut cls one bl) bl.length fuelL 0 [cls p0] := by unfold orderC; rw [hp1]; rfl
              rw [e2]
              exact this
            have hcr : wr.ownsRow w1.heap.size 3 1 (.slice ac D.nx.length kc) D.nx.length (clsCells cls D.nx.length) := hEr.cls
            obtain ⟨gc, capc, hec, -, hgc⟩ := hcr.form (by omega)
            have hec' : ac = some ⟨gc, 0, none⟩ := by simpa using (Value.slice.inj hec).1
            subst hec'
            have m0 := hcr.cellAt p0 (by omega)
            rw [clsCells_at hp2] at m0
            have v0 := hEr.cvar.cell 0
            have v1 := hcol.blk.cell 0
            have y0 := hEr.box.c4.1.1
            rw [hp0] at y0
            simp only [List.getElem?_toArray, List.getElem?_cons_zero] at v0 v1
            have lc : ∀ {p : Addr} {v : Value}, wr.cell? p = some v → ∀ d os, (Sort.grow (redrawn wr d) os).cell? p = some v := fun {p v} hp d os => ((below_regrown wr d os).cell (World.block_lt_of_cell? wr p hp)).trans hp
            have q4 := lc m0
            have q5 := lc v0
            have q6 := lc v1
            have q7 := lc y0
            have HC1 := Lib.hid (And.intro hcol (And.intro hbl (And.intro hom (And.intro hon hol))))
            have HC2 := Lib.hid (And.intro hbr (And.intro hmet (And.intro hblk (And.intro hBk hFew))))
            have hblen : bl.length ≤ 256 := by have := hblk.1; omega
            clear lc hec hmet m0 v0 v1 y0 hcol hbl hom hon hol hbr hblk hBk hFew hEr hbD hbF hfn hst hs0 hp0 hp1 hz
            go_wp2_with fail
            refine wp_region_below_tail 8 (by kernel_rfl) (by kernel_rfl) ?_
            simp only [List.take_succ_cons, List.take_zero, List.drop_succ_cons, List.drop_zero]
            repeat (go_big_quiet_step (fail))
            refine wpQuiet_nil ?_
            intro _ hw'
            obtain ⟨⟨dq, osq⟩, hw''⟩ := hw'
            subst hw''
            have bb : RowKit.Below wr.heap.size wr (Sort.grow (redrawn wr dq) osq) := below_regrown wr dq osq
            generalize Sort.grow (redrawn wr dq) osq = w5 at *
            clear q4 q5 q6 q7
            show wpList _ _ _ (_ :: _) _ _
            go_wp2_with fail
            refine (HC2.out.2.1 w5 bb).mono ?_
            rintro e w6 ⟨rv6, rfl, hown6, b6⟩
            obtain ⟨o, ho⟩ : ∃ o, orderC D.aut cls one bl = o := ⟨_, rfl⟩
            have hom := HC1.out.2.2.1
            have hon := HC1.out.2.2.2.1
            have hol := HC1.out.2.2.2.2
            rw [ho] at hown6 hom hon hol
            rw [hom] at hown6
            obtain ⟨ao, co, rfl⟩ := own_shape hown6
            have bb6 := bb.trans (b6.mono bb.size)
            have hz6 := bb6.size
            have hz65 := b6.size
            have hbx := HC2.out.1.trans (bb6.mono (by omega))
            have hcol6 := HC1.out.1.below bb6
            have HX := Lib.hid (And.intro hown6 (And.intro hbx hcol6))
            have HO := Lib.hid (And.intro ho (And.intro hom (And.intro hon hol)))
            have hmany4 : many ≤ 4096 := by omega
            clear b6 bb bb6 hown6 hbx hcol6 ho hom hon hol
            go_wp2_with (first
              | (at_make; refine wpList_make_full _ rfl _ _ 23 rfl w6.heap.size 3 i0 (.int .i64 0) 1 Tryz.underlying23 hi0 hz00 hz01 .i64 .i64 many many many rfl rfl rfl rfl (by rw [hz02]; omega) (by unfold maxLen; omega) (by omega) ?_; intro w7 hown7 hgrow7)
              | go_in)
            have hown7' : w7.ownsRow w6.heap.size 3 1 (.slice (some ⟨w6.heap.size, 0, none⟩) many many) many (clsCells (atF o 0) many) := by
              rw [clsCells_zero] at hown7
              rw [clsCells_congr (g := fun _ => 0) (fun z _ => by simp [atF])]
              exact hown7
            have b7 : RowKit.Below w6.heap.size w6 w7 := (Below.refl _ _).grown hgrow7 (Nat.le_refl _) (fun k e => by cases e)
            have H7 := Lib.hid (And.intro hown7' b7)
            clear hown7 hgrow7 hown7' b7
            go_loopw [18, 19, 110] (fun _ _ c wr => ∃ j : Nat, j ≤ many ∧ c = .int .i64 j ∧ wr.ownsRow w6.heap.size 3 1 (.slice (some ⟨w6.heap.size, 0, none⟩) many many) many (clsCells (atF o j) many) ∧ RowKit.Below w6.heap.size w6 wr) (fun _ _ c _ => many - (intOf c).toNat)
            case atStart => exact ⟨0, by omega, rfl, H7.out.1, H7.out.2⟩
            case round =>
              obtain ⟨j, hj, rfl, hrow, hbr⟩ := hrel
              have hox := own_only HX.out.1 (Only.of_below (S := []) hbr) (by simp)
              by_cases hlt : j < many
              · have q1 : decide (j < many) = true := decide_eq_true hlt
                obtain ⟨x, hx⟩ : ∃ x, o[j]? = some x := ⟨_, List.getElem?_eq_getElem (by have := HO.out.2.1; omega)⟩
                have hxM := HO.out.2.2.2 x (List.mem_of_getElem? hx)
                obtain ⟨b8, o8, rfl, m0⟩ := (NatsAt.of_own hox).get hx
                have k0 := hrow.cellAt x (by omega)
                have k2 := hrow.frozenAt x
                rw [clsCells_at hxM] at k0
                obtain ⟨z0, hz0⟩ : ∃ z0 : Value, Value.int .i64 ((atF o j x : Nat) : Int) = z0 := ⟨_, rfl⟩
                rw [hz0] at k0
                have hfill := own_fill (y := j) (f' := atF o (j + 1)) hrow hxM fun z _ => atF_succ HO.out.2.2.1 hx z
                have HF := Lib.hid (And.intro hfill (hbr.setCell (p := ⟨w6.heap.size, x, none⟩) (Nat.le_refl _) (.int .i64 (j : Int))))
                clear hrow hbr hox hx hfill hz0
                go_wp2_with fail
                go_roundw
                case rel => exact ⟨j + 1, by omega, by go_num, HF.out.1, HF.out.2⟩
                case measure => simp [intOf]; omega
              · obtain rfl : many = j := by omega
                have q1 : decide (many < many) = false := decide_eq_false (by omega)
                have HA := Lib.hid (And.intro hrow hbr)
                obtain ⟨U, hU⟩ : ∃ U, U = wr := ⟨_, rfl⟩
                subst hU
                have hzU := hbr.size
                clear hrow hbr hox
                go_wp2_with (first
                  | (at_make; refine wpList_make_full _ rfl _ _ 23 rfl U.heap.size 3 i0 (.int .i64 0) 1 Tryz.underlying23 hi0 hz00 hz01 .i64 .i64 256 256 256 rfl rfl rfl rfl (by rw [hz02]; omega) (by unfold maxLen; omega) (by omega) ?_; intro w8 hown8 hgrow8)
                  | go_in)
                have hown8' : w8.ownsRow U.heap.size 3 1 (.slice (some ⟨U.heap.size, 0, none⟩) 256 256) 256 (clsCells (fillF (fun b => mergedC D.aut cls one many D.aut.wide (blkF D.z b)) 0) 256) := by
                  rw [clsCells_zero] at hown8
                  rw [clsCells_congr (g := fun _ => 0) (fun z _ => by simp [fillF])]
                  exact hown8
                have b8 : RowKit.Below U.heap.size U w8 := (Below.refl _ _).grown hgrow8 (Nat.le_refl _) (fun k e => by cases e)
                obtain ⟨oB, hoB⟩ : ∃ oB, w8.heap.size = oB := ⟨_, rfl⟩
                have hzo : U.heap.size < oB := by have := (hown8.lt U.heap.size rfl).2; omega
                have nB := Blk.new w8 26 #[.int .i64 0, .slice none 0 0, .slice (some ⟨U.heap.size, 0, none⟩) 256 256, .slice none 0 0]
                rw [hoB] at nB
                have H8 := Lib.hid (And.intro (hown8'.alloc (.cells #[.int .i64 0, .slice none 0 0, .slice (some ⟨U.heap.size, 0, none⟩) 256 256, .slice none 0 0] 26)) (And.intro (b8.alloc (by omega) (.cells #[.int .i64 0, .slice none 0 0, .slice (some ⟨U.heap.size, 0, none⟩) 256 256, .slice none 0 0] 26)) nB))
                have hz8 : (w8.alloc (.cells #[.int .i64 0, .slice none 0 0, .slice (some ⟨U.heap.size, 0, none⟩) 256 256, .slice none 0 0] 26)).heap.size = oB + 1 := by simp; omega
                simp only [hoB]
                generalize w8.alloc (.cells #[.int .i64 0, .slice none 0 0, .slice (some ⟨U.heap.size, 0, none⟩) 256 256, .slice none 0 0] 26) = W8 at *
                obtain ⟨ab, cb, rfl, -⟩ := id HE.out.2.1.2
                obtain ⟨bf, of_, cf, rfl, -⟩ := HE.out.2.1.1.get (n := 0) hnpos
                clear hown8 hgrow8 hown8' b8 hoB nB
                go_loopw [21, 125] (fun _ c wr => ∃ j : Nat, j ≤ 256 ∧ c = .int .i64 j ∧ wr.ownsRow U.heap.size 3 1 (.slice (some ⟨U.heap.size, 0, none⟩) 256 256) 256 (clsCells (fillF (fun b => mergedC D.aut cls one many D.aut.wide (blkF D.z b)) j) 256) ∧ RowKit.Below U.heap.size U wr ∧ Blk wr oB 26 #[.int .i64 0, .slice none 0 0, .slice (some ⟨U.heap.size, 0, none⟩) 256 256, .slice none 0 0]) (fun _ c _ => 256 - (intOf c).toNat)
                case atStart => exact ⟨0, by omega, rfl, H8.out.1, H8.out.2.1, H8.out.2.2⟩
                case round =>
                  obtain ⟨j, hj, rfl, hrow, hbr, hnB⟩ := hrel
                  have hbX : RowKit.Below w6.heap.size w6 wr := HA.out.2.trans (hbr.mono (by omega))
                  have hbW : RowKit.Below (V.heap.size + 1) WE wr := HX.out.2.1.trans (hbX.mono (by omega))
                  have hbV : RowKit.Below V.heap.size V wr := HV.out.1.trans (hbW.mono (by omega))
                  by_cases hlt : j < 256
                  · have q1 : decide ((j : Int) < 256) = true := decide_eq_true (by omega)
                    obtain ⟨-, -, hbk, -⟩ := HD.out.1.step (p := 0) (b := j) (by have := HNL.out; omega) hlt
                    have hbw := HC2.out.2.2.2.1.blk.lt j hlt
                    obtain ⟨b9, o9, rfl, m0⟩ := (HE.out.2.1.2.below hbV).get hbk
                    have hcolr := HX.out.2.2.below hbX
                    have m1 := hcolr.mg.cellAt (blkF D.z j) (by omega)
                    rw [clsCells_at hbw, show mgF D.aut cls one many D.aut.wide D.aut.wide (blkF D.z j) = mergedC D.aut cls one many D.aut.wide (blkF D.z j) by unfold mgF; rw [if_pos hbw]] at m1
                    obtain ⟨mb, hmb⟩ : ∃ mb, mergedC D.aut cls one many D.aut.wide (blkF D.z j) = mb := ⟨_, rfl⟩
                    rw [hmb] at m1
                    change wr.cell? _ = some (.int .i64 ((blkF D.z j : Nat) : Int)) at m0
                    obtain ⟨bk, hbkE⟩ : ∃ bk, blkF D.z j = bk := ⟨_, rfl⟩
                    rw [hbkE] at m0 m1 hbw
                    have y2 := ((HE.out.1.below hbV)).box.c4.1.2.2.1
                    have v2 := hnB.c4.1.2.2.1
                    have lc : ∀ {p : Addr} {v : Value}, wr.cell? p = some v → ∀ d os, (Sort.grow (redrawn wr d) os).cell? p = some v := fun {p v} hp d os => ((below_regrown wr d os).cell (World.block_lt_of_cell? wr p hp)).trans hp
                    have q4 := lc m0
                    have q5 := lc m1
                    have q6 := lc y2
                    have q7 := lc v2
                    have hbk256 := HD.out.1.blk.2
                    have HRR := Lib.hid (And.intro hrow (And.intro hbr (And.intro hnB (And.intro hmb hbkE))))
                    clear lc m0 m1 y2 v2 hrow hbr hnB hmb hbkE hbk hbX hbW hbV hcolr
                    rw [hbk256] at q6
                    rw [hbk256]
                    go_wp2_with fail
                    refine wp_region_below_tail 12 (by kernel_rfl) (by kernel_rfl) ?_
                    simp only [List.take_succ_cons, List.take_zero, List.drop_succ_cons, List.drop_zero]
                    repeat (go_big_quiet_step (fail))
                    refine wpQuiet_nil ?_
                    intro _ hw'
                    obtain ⟨⟨dq, osq⟩, hw''⟩ := hw'
                    subst hw''
                    have bb : RowKit.Below wr.heap.size wr (Sort.grow (redrawn wr dq) osq) := below_regrown wr dq osq
                    generalize Sort.grow (redrawn wr dq) osq = w9 at *
                    clear q4 q5 q6 q7
                    have hrow9 := own_only HRR.out.1 (Only.of_below (S := []) bb) (by simp)
                    have k0 := hrow9.cellAt j (by omega)
                    have k2 := hrow9.frozenAt j
                    rw [clsCells_at hlt] at k0
                    obtain ⟨z0, hz0⟩ : ∃ z0 : Value, Value.int .i64 ((fillF (fun b => mergedC D.aut cls one many D.aut.wide (blkF D.z b)) j j : Nat) : Int) = z0 := ⟨_, rfl⟩
                    rw [hz0] at k0
                    have hfill := own_fill (y := mb) (f' := fillF (fun b => mergedC D.aut cls one many D.aut.wide (blkF D.z b)) (j + 1)) hrow9 hlt fun z _ => by rw [fillF_succ, HRR.out.2.2.2.1]
                    have HF := Lib.hid (And.intro hfill (And.intro ((HRR.out.2.1.trans (bb.mono HRR.out.2.1.size)).setCell (p := ⟨U.heap.size, j, none⟩) (Nat.le_refl _) (.int .i64 (mb : Int))) ((HRR.out.2.2.1.below bb HRR.out.2.2.1.lt).far (p := ⟨U.heap.size, j, none⟩) (by show oB ≠ U.heap.size; omega) (.int .i64 (mb : Int)))))
                    clear hrow9 hfill hz0 bb HRR
                    show wpList _ _ _ (_ :: _) _ _
                    go_wp2_with fail
                    go_roundw
                    case rel => exact ⟨j + 1, by omega, by go_num, HF.out.1, HF.out.2.1, HF.out.2.2⟩
                    case measure => simp [intOf]; omega
                  · have hj2 : j = 256 := by omega
                    have q1 : decide ((j : Int) < 256) = false := decide_eq_false (by omega)
                    rw [hj2, fillF_all] at hrow
                    clear hj2 hj hlt
                    obtain ⟨mc, hmc, hO0⟩ : ∃ mc, mc = natCells ((List.range 256).map fun b => mergedC D.aut cls one many D.aut.wide (blkF D.z b)) ∧ Outs wr U.heap.size oB U.heap.size (.slice none 0 0) (.slice none 0 0) [] [] [] mc :=
                      ⟨_, rfl, hnB, World.ownsRow_nil _ _ _ _, World.ownsRow_nil _ _ _ _, fun j l hj => by simp at hj, hrow, by omega⟩
                    have HMC := Lib.hid hmc
                    have H9 := Lib.hid (And.intro hO0 hbr)
                    have hzb := hbr.size
                    clear hrow hnB hO0 hbr hmc
                    go_wp2_with fail
                    go_loopw [23, 24, 25, 143] (fun _ _ _ c wr => ∃ (i : Nat) (fv' nv' : Value) (ms : List Value) (fins : List Bool) (rows : List (List Nat)), i ≤ many ∧ c = .int .i64 i ∧ Hid (fins = ((o.take i).map fun c => D.aut.fin (one c)) ∧ rows = (o.take i).map (rowO D.aut cls one bl o many)) ∧ Outs wr U.heap.size oB U.heap.size fv' nv' ms fins rows mc ∧ RowKit.Below U.heap.size U wr) (fun _ _ _ c _ => many - (intOf c).toNat)
                    case atStart => exact ⟨0, _, _, _, [], [], by omega, rfl, Lib.hid ⟨by simp, by simp⟩, H9.out.1, H9.out.2⟩
                    case round =>
                      obtain ⟨i, fv', nv', ms, fins, rows, hi, rfl, hfr, hO, hbr⟩ := hrel
                      have hbX : RowKit.Below w6.heap.size w6 wr := HA.out.2.trans (hbr.mono (by omega))
                      have hfl : fins.length = i := by rw [hfr.out.1]; have := HO.out.2.1; simp; omega
                      have hrl' : rows.length = i := by rw [hfr.out.2]; have := HO.out.2.1; simp; omega
                      by_cases hlt : i < many
                      · have q1 : decide (i < many) = true := decide_eq_true hlt
                        obtain ⟨c, hc⟩ : ∃ c, o[i]? = some c := ⟨_, List.getElem?_eq_getElem (by have := HO.out.2.1; omega)⟩
                        have hcM := HO.out.2.2.2 c (List.mem_of_getElem? hc)
                        have hox := own_only HX.out.1 (Only.of_below (S := []) hbX) (by simp)
                        obtain ⟨b9, o9, rfl, m0⟩ := (NatsAt.of_own hox).get hc
                        have hcolr := HX.out.2.2.below hbX
                        have v1 := hcolr.blk.cell 0
                        simp only [List.getElem?_toArray, List.getElem?_cons_zero] at v1
                        have HO2 := Lib.hid (And.intro hO (And.intro hbr (And.intro hc (And.intro hfl hrl'))))
                        obtain ⟨W, hW⟩ : ∃ W, W = wr := ⟨_, rfl⟩
                        subst hW
                        have hzW := hbr.size
                        clear hO hbr hc hox hcolr hbX hfl hrl'
                        go_wp2_with (first
                          | (at_make; refine wpList_make_full _ rfl _ _ 23 rfl W.heap.size 3 i0 (.int .i64 0) 1 Tryz.underlying23 hi0 hz00 hz01 .i64 .i64 bl.length bl.length bl.length rfl rfl rfl rfl (by rw [hz02]; omega) (by unfold maxLen; omega) (by omega) ?_; intro w9 hown9 hgrow9)
                          | go_in)
                        have hown9' : w9.ownsRow W.heap.size 3 1 (.slice (some ⟨W.heap.size, 0, none⟩) bl.length bl.length) bl.length (clsCells (fillF (fun k => atF o many (nextC D.aut cls one c (bl.getD k 0))) 0) bl.length) := by
                          rw [clsCells_zero] at hown9
                          rw [clsCells_congr (g := fun _ => 0) (fun z _ => by simp [fillF])]
                          exact hown9
                        have b9' : RowKit.Below W.heap.size W w9 := (Below.refl _ _).grown hgrow9 (Nat.le_refl _) (fun k e => by cases e)
                        have H9' := Lib.hid (And.intro hown9' b9')
                        clear hown9 hgrow9 hown9' b9' m0 v1
                        go_loopw [25, 152] (fun _ c' wr => ∃ k : Nat, k ≤ bl.length ∧ c' = .int .i64 k ∧ wr.ownsRow W.heap.size 3 1 (.slice (some ⟨W.heap.size, 0, none⟩) bl.length bl.length) bl.length (clsCells (fillF (fun k => atF o many (nextC D.aut cls one c (bl.getD k 0))) k) bl.length) ∧ RowKit.Below W.heap.size W wr) (fun _ c _ => bl.length - (intOf c).toNat)
                        case atStart => exact ⟨0, by omega, rfl, H9'.out.1, H9'.out.2⟩
                        case round =>
                          obtain ⟨k, hk, rfl, hrow, hbw⟩ := hrel
                          have hbX : RowKit.Below w6.heap.size w6 wr := HA.out.2.trans ((HO2.out.2.1.trans (hbw.mono HO2.out.2.1.size)).mono (by omega))
                          have hbE : RowKit.Below (V.heap.size + 1) WE wr := HX.out.2.1.trans (hbX.mono (by omega))
                          have hcolr := HX.out.2.2.below hbX
                          by_cases hkl : k < bl.length
                          · have q2 : decide (k < bl.length) = true := decide_eq_true hkl
                            obtain ⟨x, hx⟩ : ∃ x, bl[k]? = some x := ⟨_, List.getElem?_eq_getElem hkl⟩
                            have hxg : bl.getD k 0 = x := by rw [List.getD_eq_getElem?_getD, hx]; rfl
                            have hxw := HC2.out.2.2.1.2 x (List.mem_of_getElem? hx)
                            obtain ⟨b10, o10, rfl, m1⟩ := (NatsAt.of_own hcolr.bl).get hx
                            obtain ⟨z, hz⟩ : ∃ z, nextC D.aut cls one c x = z := ⟨_, rfl⟩
                            have hzM : z < many := by rw [← hz]; exact hCn c x hcM hxw
                            have hatr := own_only HA.out.1 (Only.of_below (S := []) (HO2.out.2.1.trans (hbw.mono HO2.out.2.1.size))) (by simp)
                            have m2 := hatr.cellAt z (by omega)
                            rw [clsCells_at hzM] at m2
                            obtain ⟨az, haz⟩ : ∃ az, atF o many z = az := ⟨_, rfl⟩
                            rw [haz] at m2
                            have v1 := hcolr.blk.cell 0
                            have v2 := (HV.out.2.1.below hbE (by omega)).cell 0
                            simp only [List.getElem?_toArray, List.getElem?_cons_zero] at v1 v2
                            have hEr := (HE.out.1.below HV.out.1).below (by rw [zE]; exact hbE)
                            have hcall : ∀ d os, Calls Tryz.prog 47 #[.int .i64 c, .int .i64 x, .pointer (some ⟨w2.heap.size, 0, none⟩), .pointer (some ⟨w.heap.size, 0, none⟩), .pointer (some ⟨w2.heap.size + 1 + 1, 0, none⟩)] (Sort.grow (redrawn wr d) os) fun e w' => e = .returned (.int .i64 z) ∧ RowKit.Below (Sort.grow (redrawn wr d) os).heap.size (Sort.grow (redrawn wr d) os) w' := fun d os => by
                              rw [← hz]
                              exact onext_any _ _ _ _ _ _ _ _ _ _ _ _ _ _ _ D.aut.wide c x (hEr.below (below_regrown wr d os)) HD.out.1.nxt (hCl c hcM) hxw (by omega) (by omega) (by omega)
                            have lc : ∀ {p : Addr} {v : Value}, wr.cell? p = some v → ∀ d os, (Sort.grow (redrawn wr d) os).cell? p = some v := fun {p v} hp d os => ((below_regrown wr d os).cell (World.block_lt_of_cell? wr p hp)).trans hp
                            have q4 := lc m1
                            have q5 := lc m2
                            have q6 := lc v1
                            have q7 := lc v2
                            have HRR := Lib.hid (And.intro hrow (And.intro hbw (And.intro hxg (And.intro hz haz))))
                            clear lc m1 m2 v1 v2 hrow hbw hxg hz haz hx hatr hcolr hEr hbE hbX
                            go_wp2_with fail
                            refine wp_region_below_tail 12 (by kernel_rfl) (by kernel_rfl) ?_
                            simp only [List.take_succ_cons, List.take_zero, List.drop_succ_cons, List.drop_zero]
                            iterate 9 (go_big_quiet_step (fail))
                            go_big_quiet_step ((go_at_call 47; exact Calls.regrown_of (hcall _ _)))
                            repeat (go_big_quiet_step (fail))
                            refine wpQuiet_nil ?_
                            intro _ hw'
                            obtain ⟨⟨dq, osq⟩, hw''⟩ := hw'
                            subst hw''
                            have bb : RowKit.Below wr.heap.size wr (Sort.grow (redrawn wr dq) osq) := below_regrown wr dq osq
                            generalize Sort.grow (redrawn wr dq) osq = w10 at *
                            clear q4 q5 q6 q7 hcall
                            have hrow9 := own_only HRR.out.1 (Only.of_below (S := []) bb) (by simp)
                            have k0 := hrow9.cellAt k (by omega)
                            have k2 := hrow9.frozenAt k
                            rw [clsCells_at hkl] at k0
                            obtain ⟨z0, hz0⟩ : ∃ z0 : Value, Value.int .i64 ((fillF (fun k => atF o many (nextC D.aut cls one c (bl.getD k 0))) k k : Nat) : Int) = z0 := ⟨_, rfl⟩
                            rw [hz0] at k0
                            have hfill := own_fill (y := az) (f' := fillF (fun k => atF o many (nextC D.aut cls one c (bl.getD k 0))) (k + 1)) hrow9 hkl fun z _ => by rw [fillF_succ, HRR.out.2.2.1, HRR.out.2.2.2.1, HRR.out.2.2.2.2]
                            have HF := Lib.hid (And.intro hfill ((HRR.out.2.1.trans (bb.mono HRR.out.2.1.size)).setCell (p := ⟨W.heap.size, k, none⟩) (Nat.le_refl _) (.int .i64 (az : Int))))
                            clear hrow9 hfill hz0 bb HRR
                            show wpList _ _ _ (_ :: _) _ _
                            go_wp2_with fail
                            go_roundw
                            case rel => exact ⟨k + 1, by omega, by go_num, HF.out.1, HF.out.2⟩
                            case measure => simp [intOf]; omega
                          · obtain rfl : k = bl.length := by omega
                            have q2 : decide (bl.length < bl.length) = false := decide_eq_false (by omega)
                            rw [fillF_all] at hrow
                            change wr.ownsRow W.heap.size 3 1 (.slice (some ⟨W.heap.size, 0, none⟩) bl.length bl.length) bl.length (natCells (rowO D.aut cls one bl o many c)) at hrow
                            have hrl2 : (rowO D.aut cls one bl o many c).length = bl.length := by simp [rowO]
                            have hrowB : wr.ownsRow U.heap.size 3 1 (.slice (some ⟨W.heap.size, 0, none⟩) bl.length bl.length) (rowO D.aut cls one bl o many c).length (natCells (rowO D.aut cls one bl o many c)) := by rw [hrl2]; exact own_base hrow hzW
                            have hOr := HO2.out.1.below hbw
                            obtain ⟨anv, cnv, hnv⟩ := own_shape hOr.nxt
                            rw [HO2.out.2.2.2.2] at hnv
                            subst hnv
                            have hnx := hOr.nxt
                            rw [HO2.out.2.2.2.2] at hnx
                            obtain ⟨⟨y0, y1, y2, y3⟩, x0, x1, x2, x3⟩ := hOr.blk.c4
                            obtain ⟨r0, hr0, hr00, hr01, hr02⟩ := info_parts infoRow
                            have honeR := one_at (w := wr) (u := .slice (some ⟨W.heap.size, 0, none⟩) bl.length bl.length) (t := 23)
                            have hownR := hnx.alloc (.cells #[.slice (some ⟨W.heap.size, 0, none⟩) bl.length bl.length] 23)
                            have hblkR := hOr.blk.alloc (.cells #[.slice (some ⟨W.heap.size, 0, none⟩) bl.length bl.length] 23)
                            have hbnR := own_blk_ne hOr.nxt hOr.blk (by decide)
                            have hbrU : RowKit.Below U.heap.size U wr := HO2.out.2.1.trans (hbw.mono hzW)
                            have hzw' := hbrU.size
                            have HR5 := Lib.hid (And.intro hOr (And.intro hrowB hbrU))
                            clear hrow hrl2 hrowB hOr hnx hbw hbX hbE hcolr hbrU y0 y1 y2 x0 x1 x2 x3
                            go_wp2_with (at_builtin; refine wpList_append_lies _ rfl _ _ 24 rfl U.heap.size 23 r0 (.slice none 0 0) 1 24 Tryz.underlying24 hr0 hr00 hr01 hr02 rfl (by decide) _ _ _ rfl hownR ⟨wr.heap.size, 0, none⟩ 1 1 [.slice (some ⟨W.heap.size, 0, none⟩) bl.length bl.length] rfl rfl honeR (fun u hu => by simp at hu; subst hu; rfl) (by decide) (by unfold maxLen; omega) (by omega) (by simp; omega) _ rfl ?_; intro g11 cap11 w11 hown11 hgrow11 hat11 hlt11; obtain ⟨⟨p0, p1, p2, p3⟩, f0, f1, f2, f3⟩ := (hblkR.grown hgrow11 (fun e => hbnR e.symm)).c4)
                            have hpush := HR5.out.1.pushRow (l := rowO D.aut cls one bl o many c) (u := .slice (some ⟨W.heap.size, 0, none⟩) bl.length bl.length) (g := g11) (cap := cap11) HR5.out.2.1 (by rw [HO2.out.2.2.2.2]; exact hown11) hgrow11
                            rw [HO2.out.2.2.2.2] at hpush
                            have hb11 : RowKit.Below U.heap.size U (w11.setCell ⟨oB, 3, none⟩ (.slice (some ⟨g11, 0, none⟩) (i + 1) cap11)) := ((HR5.out.2.2.alloc (by omega) _).grown hgrow11 (by simp; omega) (fun j e => (HR5.out.1.nxt.lt j e).1)).setCell (p := ⟨oB, 3, none⟩) (by show U.heap.size ≤ oB; omega) _
                            clear hown11 hgrow11 hat11 hlt11 p0 p1 p2 p3 f0 f1 f2 f3 hownR hblkR honeR hbnR
                            obtain ⟨w12, hw12⟩ : ∃ w12, w11.setCell ⟨oB, 3, none⟩ (.slice (some ⟨g11, 0, none⟩) (i + 1) cap11) = w12 := ⟨_, rfl⟩
                            rw [hw12] at hpush hb11
                            try simp only [hw12]
                            clear hw12 HR5 H9'
                            have hbX : RowKit.Below w6.heap.size w6 w12 := HA.out.2.trans (hb11.mono (by omega))
                            have hbE : RowKit.Below (V.heap.size + 1) WE w12 := HX.out.2.1.trans (hbX.mono (by omega))
                            have hbV : RowKit.Below V.heap.size V w12 := HV.out.1.trans (hbE.mono (by omega))
                            have hEr := (HE.out.1.below HV.out.1).below (by rw [zE]; exact hbE)
                            obtain ⟨x, hx⟩ : ∃ x, one c = x := ⟨_, rfl⟩
                            have hxM := hCl c hcM
                            rw [hx] at hxM
                            obtain ⟨bf', of', cf', he, m4⟩ := (HE.out.2.1.1.below hbV).get hxM
                            obtain ⟨⟨rfl, rfl⟩, rfl⟩ : (bf = bf' ∧ of_ = of') ∧ cf = cf' := by simpa using he
                            obtain ⟨fb, hfb⟩ : ∃ fb, D.aut.fin x = fb := ⟨_, rfl⟩
                            rw [hfb] at m4
                            obtain ⟨afv, cfv, hfv⟩ := own_shape hpush.fin
                            rw [HO2.out.2.2.2.1] at hfv
                            subst hfv
                            have m1 := hpush.blk.c4.1.2.1
                            have m2 := hEr.box.c4.1.2.1
                            have m3 := hEr.mvar.cell 0
                            simp only [List.getElem?_toArray, List.getElem?_cons_zero] at m3
                            have hlook : ∀ W, RowKit.Below w12.heap.size w12 W → (Instr.lookup 71 (.map (some (w2.heap.size + 1))) (.int .i64 (c : Int)) false).run Tryz.prog W = .ok (.int .i64 (x : Int)) W := fun W hW => by
                              have := TabAt.look (hEr.tab.below hW hEr.tab.lt) (x := c) (by unfold maxLen; omega)
                              rw [hx] at this
                              exact this
                            obtain ⟨s0, hs0, hs00, hs01, hs02⟩ := info_parts infoBool
                            have HP12 := Lib.hid (And.intro hx hfb)
                            have HM := Lib.hid (And.intro (And.intro hpush hb11) (And.intro m1 (And.intro m2 (And.intro m3 (And.intro m4 hlook)))))
                            clear hpush hb11 hx hfb hbX hbE hbV hEr he m1 m2 m3 m4 hlook
                            go_wp2_with fail
                            refine wp_region_T [10, 11, 12] (by kernel_rfl) ?_
                            intro W13 bb
                            have hpush := HM.out.1.1.below bb
                            have hb13 := HM.out.1.2.trans (bb.mono HM.out.1.2.size)
                            have hfx := hpush.fin
                            rw [HO2.out.2.2.2.1] at hfx
                            have honeB := one_at (w := W13) (u := .bool fb) (t := 4)
                            have hownB := hfx.alloc (.cells #[.bool fb] 4)
                            have hblkB := hpush.blk.alloc (.cells #[.bool fb] 4)
                            have hbnB := own_blk_ne hpush.fin hpush.blk (by decide)
                            have hz13 := hb13.size
                            have lc : ∀ {p : Addr} {v : Value}, w12.cell? p = some v → ∀ d os, (Sort.grow (redrawn W13 d) os).cell? p = some v := fun {p v} hp d os => ((bb.trans ((below_regrown W13 d os).mono bb.size)).cell (World.block_lt_of_cell? w12 p hp)).trans hp
                            have q4 := lc HM.out.2.1
                            have q5 := lc HM.out.2.2.1
                            have q6 := lc HM.out.2.2.2.1
                            have q7 := lc HM.out.2.2.2.2.1
                            have q8 : ∀ d os, (Instr.lookup 71 (.map (some (w2.heap.size + 1))) (.int .i64 (c : Int)) false).run Tryz.prog (Sort.grow (redrawn W13 d) os) = .ok (.int .i64 (x : Int)) (Sort.grow (redrawn W13 d) os) := fun d os => HM.out.2.2.2.2.2 _ (bb.trans ((below_regrown W13 d os).mono bb.size))
                            have HR6 := Lib.hid (And.intro hpush hb13)
                            clear lc hpush hb13 hfx bb
                            refine stepsQ [0, 1, 2, 3, 4, 5, 6, 7, 8] (by kernel_rfl) (by kernel_rfl) (by kernel_rfl) (Grown.of_below (Below.refl _ _)) ?_
                            simp only [atIdx, List.filterMap_cons, List.filterMap_nil, List.getElem?_toArray, List.getElem_toArray, List.getElem?_cons_zero, List.getElem?_cons_succ, List.getElem_cons_zero, List.getElem_cons_succ]
                            iterate 9 (show wpQuiet _ _ _ _ (_ :: _) _; go_big_quiet_step (fail))
                            refine wpQuiet_nil ?_
                            clear q4 q5 q6 q7 q8
                            show stepT _ _ _ _ _ _ _ _ _
                            refine stepS (i := 9) rfl (by kernel_rfl) ?_
                            intro K hK
                            go_simp
                            refine hK _ _ ⟨fun _ => Grown.of_below ((Below.refl _ _).alloc (Nat.le_refl _) _), ?_⟩
                            refine stepS (i := 10) rfl (by kernel_rfl) ?_
                            intro K hK
                            refine step_append_lies _ rfl (.tmp 176) (.tmp 184) 22 rfl U.heap.size 4 s0 (.bool false) 1 1 Tryz.underlying22 hs0 hs00 hs01 hs02 rfl (by decide) _ _ _ (by simp [Act.eval, Act.put]) hownB ⟨W13.heap.size, 0, none⟩ 1 1 [.bool fb] (by simp [Act.eval, Act.put]) rfl honeB (fun u hu => by simp at hu; subst hu; rfl) (by decide) (by unfold maxLen; omega) (by omega) (by simp; omega) _ rfl ?_
                            intro g14 cap14 w14 hown14 hgrow14 hat14 hlt14
                            have c14 := (hblkB.grown hgrow14 (fun e => hbnB e.symm)).c4
                            have p1 := c14.1.2.1
                            have f1 := c14.2.2.1
                            go_simp
                            refine hK _ _ ⟨fun h => absurd (by decide) h, ?_⟩
                            refine stepS (i := 11) rfl (by kernel_rfl) ?_
                            intro K hK
                            go_simp
                            refine hK _ _ ⟨fun h => absurd (by decide) h, ?_⟩
                            refine stepS (i := 12) rfl (by kernel_rfl) ?_
                            intro K hK
                            go_simp
                            refine hK _ _ ⟨fun h => absurd (by decide) h, ?_⟩
                            refine stepT_end (by kernel_rfl) ?_
                            have hpush := HR6.out.1.pushFin (b := fb) (g := g14) (cap := cap14) (by rw [HO2.out.2.2.2.1]; exact hown14) hgrow14
                            rw [HO2.out.2.2.2.1] at hpush
                            have hb14 : RowKit.Below U.heap.size U (w14.setCell ⟨oB, 1, none⟩ (.slice (some ⟨g14, 0, none⟩) (i + 1) cap14)) := ((HR6.out.2.alloc (by omega) _).grown hgrow14 (by simp; omega) (fun j e => (HR6.out.1.fin.lt j e).1)).setCell (p := ⟨oB, 1, none⟩) (by show U.heap.size ≤ oB; omega) _
                            have HR7 := Lib.hid (And.intro hpush hb14)
                            clear hpush hb14 hown14 hgrow14 hat14 hlt14 c14 p1 f1 hownB hblkB honeB hbnB
                            go_wp2_with fail
                            go_roundw
                            case rel =>
                              have ht : o.take (i + 1) = o.take i ++ [c] := by rw [List.take_add_one, HO2.out.2.2.1]; rfl
                              have e1 : fins ++ [fb] = (o.take (i + 1)).map (fun c => D.aut.fin (one c)) := by rw [ht, List.map_append, List.map_singleton, HP12.out.1, HP12.out.2, hfr.out.1]
                              have e2 : rows ++ [rowO D.aut cls one bl o many c] = (o.take (i + 1)).map (rowO D.aut cls one bl o many) := by rw [ht, List.map_append, List.map_singleton, hfr.out.2]
                              exact ⟨i + 1, _, _, _, _, _, by omega, by go_num, Lib.hid ⟨e1, e2⟩, HR7.out.1, HR7.out.2⟩
                            case measure => simp [intOf]; omega
                      · obtain rfl : many = i := by omega
                        have q1 : decide (many < many) = false := decide_eq_false (by omega)
                        have htk : o.take many = o := List.take_of_length_le (by have := HO.out.2.1; omega)
                        obtain ⟨rfl, rfl⟩ := hfr.out
                        rw [htk] at hO
                        rw [HMC.out] at hO
                        obtain ⟨afv, cfv, rfl⟩ := own_shape hO.fin
                        obtain ⟨anv, cnv, rfl⟩ := own_shape hO.nxt
                        have hne4 : w.heap.size + 1 < U.heap.size := by have := HE.out.2.2.1.2.lt; omega
                        have hfarO := ((((hO.far (a := ⟨w.heap.size + 1, 0, none⟩) hne4 (.int .i64 0)).far (a := ⟨w.heap.size + 1, 1, none⟩) hne4 (.slice afv ((o.map fun c => D.aut.fin (one c)).length) cfv)).far (a := ⟨w.heap.size + 1, 2, none⟩) hne4 (.slice (some ⟨U.heap.size, 0, none⟩) 256 256)).far (a := ⟨w.heap.size + 1, 3, none⟩) hne4 (.slice anv ((o.map (rowO D.aut cls one bl o many)).length) cnv))
                        have hdfa := hfarO.dfaAt
                        have hag := fun (w2 : World) ha => (hfarO.agree (w2 := w2) ha).dfaAt
                        have e1 : (o.map fun c => D.aut.fin (one c)).length = many := by rw [List.length_map]; exact HO.out.2.1
                        have e2 : (o.map (rowO D.aut cls one bl o many)).length = many := by rw [List.length_map]; exact HO.out.2.1
                        simp only [e1, e2] at *
                        rw [← canon_eq HE.out.2.2.2.1 HC2.out.2.2.2.1 HD.out.1.ok HC2.out.2.2.2.2 HC1.out.2.1 HO.out.1 HO.out.2.1] at hdfa hag
                        have hbW : RowKit.Below V.heap.size V wr := HV.out.1.trans ((HX.out.2.1.trans (hbX.mono (by omega))).mono (by omega))
                        have hbR := HE.out.2.2.1.1.trans (hbW.mono HE.out.2.2.1.1.size)
                        have hrb := HE.out.2.2.1.2.below hbW HE.out.2.2.1.2.lt
                        obtain ⟨⟨p0, p1, p2, p3⟩, -⟩ := hO.blk.c4
                        obtain ⟨⟨r0, r1, r2, r3⟩, f0, f1, f2, f3⟩ := hrb.c4
                        have hb4 := blk_set4 hrb (.int .i64 0) (.slice afv many cfv) (.slice (some ⟨U.heap.size, 0, none⟩) 256 256) (.slice anv many cnv)
                        obtain ⟨⟨r0', r1', r2', r3'⟩, -⟩ := hb4.c4
                        have ho4 := only_set4 wr (w.heap.size + 1) (.int .i64 0) (.slice afv many cfv) (.slice (some ⟨U.heap.size, 0, none⟩) 256 256) (.slice anv many cnv)
                        have hbl4 := ho4.below (B := wr.heap.size) (Nat.le_refl _)
                        have HZ := Lib.hid (And.intro hdfa (And.intro hbR (And.intro ho4 hag)))
                        clear hO hfarO hag hdfa hbW hbR hrb hb4 ho4 hbX htk hbr hbl4
                        go_wp2_with fail
                        refine bodyPost_ret (v := .agg #[.int .i64 0, .slice afv many cfv, .slice (some ⟨U.heap.size, 0, none⟩) 256 256, .slice anv many cnv]) (by simp [results, Tryz.results26, go_sem, r0', r1', r2', r3']) rfl ⟨_, rfl, ?_, HZ.out.2.1.trans (HZ.out.2.2.1.below HZ.out.2.1.size (by simp)), fun w2 ha => ?_⟩
                        · rw [HD.out.2.1]
                          exact HZ.out.1
                        · rw [HD.out.2.1]
                          exact HZ.out.2.2.2 w2 fun k hk => ha k (by omega)
theorem of_any (v : Value) (D : DfaI) (w : World) (h : DfaAt w v D) (hD : D.In) (hT : Pow10 w) : Calls Tryz.prog 26 #[v] w fun e w' => ∃ rv, e = .returned rv ∧ DfaAt w' rv (ofD D) ∧ Below w.heap.size w w' :=
  (of_any2 v D w h hD hT).mono fun e w' ⟨rv, h1, h2, h3, _⟩ => ⟨rv, h1, h2, h3⟩
end Go.Proofs.YtmmlakheimfijaaGreatDoor
