/-
  The walk of the reference's Of. Conditions: the labels lie as Go's; texts no longer than texts can be.
-/
import Derived.Test.YtgdfklgbdfpinaaDoorLbRefOf
namespace Go.Proofs.YtgdfklgbdfpinaaDoor
set_option linter.unusedVariables false
set_option linter.unusedSimpArgs false
open Go.RowKit Go.Maps Go.Sort Go.ChangeShapes Go.WideShapes

theorem nm_of_ok {x : Lab} (h : oneE x = 0) : nm x ≠ [] := by
  obtain ⟨h1, _⟩ := oneE_ok h
  obtain ⟨h2, _⟩ := labelB_of h1
  intro e
  have : x.1.data.toList.length = 0 := by rw [show x.1.data.toList = [] from e]; rfl
  have h3 : x.1.size = x.1.data.toList.length := by simp
  omega

set_option maxRecDepth 100000 in
set_option maxHeartbeats 8000000 in
theorem refof_any (A : Option Addr) (cap : Nat) (l : List Lab) (w : World) (h : IsLab w w.heap.size A l) (hlen : l.length ≤ 100000) (hs : ∀ x ∈ l, x.1.size ≤ maxLen ∧ x.2.size ≤ maxLen) :
    Calls Tryd.prog 10 #[.slice A l.length cap] w fun e w' => OfTells l e w w' := by
  by_cases h8 : 32 < l.length
  · have h8' : decide (32 < (l.length : Int)) = true := decide_eq_true (by omega)
    have HE : Hid (ofErr l = 3) := Lib.hid (by rw [ofErr, if_pos h8])
    go_enter Tryd.func10, Tryd.ntmps10
    go_wp2_with fail
    refine bodyPost_ret (by simp [results, Tryd.results10, go_sem]; try rfl) rfl ?_
    exact ofTells_bad HE.out (by decide) (Below.refl _ _)
  have h8' : decide (32 < (l.length : Int)) = false := decide_eq_false (by omega)
  have H := Lib.hid (And.intro h hs)
  clear h hs
  go_enter Tryd.func10, Tryd.ntmps10
  go_wp2_with fail
  go_loopw [4, 5, 6] (fun c4 c5 _ wr => ∃ (j : Nat), j ≤ l.length ∧ c5 = .int .i64 j ∧ c4 = .bool (twiceB l j) ∧ Hid ((l.take j).find? badB = none) ∧ Below w.heap.size w wr) (fun _ c _ _ => l.length - (intOf c).toNat)
  case atStart => exact ⟨0, by omega, rfl, rfl, Lib.hid rfl, Below.refl _ _⟩
  case round =>
    obtain ⟨j, hj, rfl, rfl, hc, hb⟩ := hrel
    by_cases hlt : j < l.length
    · obtain ⟨b, off, ⟨nm1, vl⟩, rfl, hbB, hx, hcell⟩ := H.out.1.at_ hlt
      obtain ⟨m0, m1⟩ := hcell wr hb
      obtain ⟨s1, s2⟩ := H.out.2 _ (List.mem_of_getElem? hx)
      simp only at m0 m1 s1 s2
      have htn := twice_next hx
      have HX := Lib.hid (And.intro hx htn)
      have HC := Lib.hid hcell
      clear hx hcell htn
      obtain ⟨tw, htw⟩ : ∃ tw, twiceB l j = tw := ⟨_, rfl⟩
      rw [htw]
      have HTW := Lib.hid htw
      clear htw
      obtain ⟨lb, hlb2⟩ : ∃ lb, labelB nm1 = lb := ⟨_, rfl⟩
      have hlab : ∀ w, _ := fun w => reflabel_lit nm1 w lb s1 hlb2
      have HLB := Lib.hid hlb2
      clear hlb2
      cases lb with
      | false =>
        go_wp2_with (go_at_call 25; refine (hlab _).mono ?_; rintro e w' ⟨rfl, rfl⟩)
        refine bodyPost_ret (by simp [results, Tryd.results10, go_sem]; try rfl) rfl ?_
        refine ofTells_bad ?_ (by decide) hb
        have e0 : oneE (nm1, vl) = 4 := by rw [oneE, if_pos HLB.out]
        rw [ofErr, if_neg h8, find_at hc.out HX.out.1 (by rw [badB, e0]; rfl)]
        exact e0
      | true =>
        by_cases k : 1024 < vl.size
        · have k1 : decide (1024 < (vl.size : Int)) = true := decide_eq_true (by omega)
          have KK := Lib.hid k
          clear k
          go_wp2_with (go_at_call 25; refine (hlab _).mono ?_; rintro e w' ⟨rfl, rfl⟩)
          refine bodyPost_ret (by simp [results, Tryd.results10, go_sem]; try rfl) rfl ?_
          refine ofTells_bad ?_ (by decide) hb
          have e0 : oneE (nm1, vl) = 3 := by rw [oneE, if_neg (by rw [HLB.out]; simp), if_pos KK.out]
          rw [ofErr, if_neg h8, find_at hc.out HX.out.1 (by rw [badB, e0]; rfl)]
          exact e0
        · have k1 : decide (1024 < (vl.size : Int)) = false := decide_eq_false (by omega)
          have HO : Hid (oneE (nm1, vl) = 0) := Lib.hid (by rw [oneE, if_neg (by rw [HLB.out]; simp), if_neg k])
          clear k
          go_wp2_with (go_at_call 25; refine (hlab _).mono ?_; rintro e w' ⟨rfl, rfl⟩)
          clear hlab m1
          go_loopw [4, 6] (fun c4 c6 wr => ∃ (k : Nat), k ≤ j ∧ c6 = .int .i64 k ∧ c4 = .bool (tw || decide (nm1.data.toList ∈ names (l.take k))) ∧ Below w.heap.size w wr) (fun _ c _ => j - (intOf c).toNat)
          case atStart => exact ⟨0, by omega, rfl, by simp [names], hb⟩
          case round =>
            obtain ⟨k, hk, rfl, rfl, hb2⟩ := hrel
            by_cases hlt2 : k < j
            · have hkl : k < l.length := by omega
              obtain ⟨b', off', ⟨nm2, v2⟩, hA, -, hy, hcell'⟩ := H.out.1.at_ hkl
              obtain ⟨rfl, rfl⟩ : b = b' ∧ off = off' := by simpa using hA
              obtain ⟨n0, -⟩ := hcell' _ hb2
              have n1 := (HC.out _ hb2).1
              simp only at n0 n1
              have hnx := names_next hy
              have heq := str_eq nm2 nm1
              obtain ⟨q, hq⟩ : ∃ q, decide (nm2 = nm1) = q := ⟨_, rfl⟩
              rw [hq] at heq
              have hbq : (tw || decide (nm1.data.toList ∈ names (l.take (k + 1)))) = ((tw || decide (nm1.data.toList ∈ names (l.take k))) || q) := by
                rw [hnx, Bool.or_assoc, ← hq]
                congr 1
                by_cases e1 : nm1.data.toList ∈ names (l.take k)
                · simp [e1]
                · by_cases e2 : nm2 = nm1
                  · subst e2; simp [nm]
                  · have e3 : ¬ nm1.data.toList = nm2.data.toList := fun e => e2 (nm_inj e).symm
                    simp [e1, e2, e3, nm]
              have HB := Lib.hid hbq
              clear hbq hq hy hcell' hnx hA
              obtain ⟨t4, ht4⟩ : ∃ t4, (tw || decide (nm1.data.toList ∈ names (l.take k))) = t4 := ⟨_, rfl⟩
              rw [ht4] at HB ⊢
              clear ht4
              cases t4
              · go_wp2_with fail
                go_quiet (fail)
                have B6 : Below w.heap.size w (wr.drewN nq) := hb2.trans ((below_regrownN wr nq).mono hb2.size)
                generalize wr.drewN nq = w6 at *
                clear n0 n1
                go_wp2_with fail
                go_roundw
                case rel => exact ⟨k + 1, by omega, by go_num, by rw [HB.out]; rfl, B6⟩
                case measure => simp [intOf]; omega
              · go_wp2_with fail
                go_quiet (fail)
                have B6 : Below w.heap.size w (wr.drewN nq) := hb2.trans ((below_regrownN wr nq).mono hb2.size)
                generalize wr.drewN nq = w6 at *
                clear n0 n1
                go_wp2_with fail
                go_roundw
                case rel => exact ⟨k + 1, by omega, by go_num, by rw [HB.out]; rfl, B6⟩
                case measure => simp [intOf]; omega
            · obtain rfl : k = j := by omega
              go_wp2_with fail
              go_roundw
              case rel => exact ⟨k + 1, by omega, by go_num, by rw [HX.out.2, HTW.out]; rfl, Lib.hid (find_next hc.out HX.out.1 (by rw [badB, HO.out]; rfl)), hb2⟩
              case measure => simp [intOf]; omega
    · obtain rfl : j = l.length := by omega
      have hfind : l.find? badB = none := by
        have := hc.out
        rwa [List.take_of_length_le (Nat.le_refl _)] at this
      obtain ⟨tw, htw⟩ : ∃ tw, twiceB l l.length = tw := ⟨_, rfl⟩
      rw [htw]
      cases tw with
      | true =>
        have HE : Hid (ofErr l = 5) := Lib.hid (by
          rw [ofErr, if_neg h8, hfind]
          have h2 := of_decide_eq_true htw
          rw [List.take_of_length_le (Nat.le_refl _)] at h2
          exact if_neg h2)
        clear htw hfind
        go_wp2_with fail
        refine bodyPost_ret (by simp [results, Tryd.results10, go_sem]; try rfl) rfl ?_
        exact ofTells_bad HE.out (by decide) hb
      | false =>
        have hnd : (names l).Nodup := by
          have h2 := of_decide_eq_false htw
          rw [List.take_of_length_le (Nat.le_refl _)] at h2
          exact Decidable.byContradiction h2
        have hE : ofErr l = 0 := by rw [ofErr, if_neg h8, hfind]; exact if_pos hnd
        have hne : ∀ x ∈ l, nm x ≠ [] := fun x hx => by
          have h2 := List.find?_eq_none.1 hfind x hx
          exact nm_of_ok (by simpa [badB] using h2)
        have HF := Lib.hid (And.intro hnd hE)
        have HS0 := Lib.hid (Sel.start hne)
        clear htw hfind hnd hE hne hc
        obtain ⟨i0, hi0, hz00, hz01, hz02⟩ := info_parts infoLab
        go_wp2_with fail
        go_loopw [7, 8, 9, 10, 11] (fun c7 c8 c9 _ _ wr => ∃ (n : Nat) (lst : ByteArray) (ch : List Lab), n ≤ l.length ∧ c9 = .int .i64 n ∧ c8 = .string lst ∧ wr.ownsRow w.heap.size 42 2 c7 (keepL ch).length (labCells (keepL ch)) ∧ Hid (Sel l lst.data.toList ch ∧ ch.length = n) ∧ lst.size ≤ maxLen ∧ Below w.heap.size w wr) (fun _ _ c _ _ _ => l.length - (intOf c).toNat)
        case atStart => exact ⟨0, ⟨#[]⟩, [], by omega, rfl, rfl, World.ownsRow_nil _ _ _ _, Lib.hid ⟨HS0.out, rfl⟩, by decide, hb⟩
        case round =>
          clear hb
          obtain ⟨n, lst, ch, hn, rfl, rfl, hown, hsel, hlst, hb⟩ := hrel
          by_cases hlt : n < l.length
          · go_wp2_with fail
            go_loopw [10, 11] (fun c10 c11 wr => ∃ (i : Nat) (b : Int), i ≤ l.length ∧ c11 = .int .i64 i ∧ c10 = .int .i64 b ∧ Hid (Best l lst.data.toList i b) ∧ wr.ownsRow w.heap.size 42 2 u7 (keepL ch).length (labCells (keepL ch)) ∧ Below w.heap.size w wr) (fun _ c _ => l.length - (intOf c).toNat)
            case atStart => exact ⟨0, -1, by omega, rfl, rfl, Lib.hid (.inl ⟨rfl, fun x hx => by simp at hx⟩), hown, hb⟩
            case round =>
              clear hb hown
              obtain ⟨i, bst, hi, rfl, rfl, hbest, hown, hb⟩ := hrel
              by_cases hlt2 : i < l.length
              · obtain ⟨b, off, ⟨nm1, vl⟩, rfl, hbB, hx, hcell⟩ := H.out.1.at_ hlt2
                obtain ⟨m0, -⟩ := hcell _ hb
                have s1 := (H.out.2 _ (List.mem_of_getElem? hx)).1
                simp only at m0 s1
                obtain ⟨p, hp⟩ : ∃ p, cmpS nm1 lst = p := ⟨_, rfl⟩
                have hcmp1 : ∀ w, _ := fun w => refcmp_lit nm1 lst p w s1 hlst hp
                have hgt := cmp_gt nm1 lst
                rw [hp] at hgt
                have HX := Lib.hid (And.intro hx hown)
                clear hp hx hcell hown
                by_cases hg : lst.data.toList < nm1.data.toList
                · rw [decide_eq_true hg] at hgt
                  have HG := Lib.hid hg
                  clear hg
                  rcases hbest.out with ⟨rfl, hall⟩ | ⟨k, ⟨nm2, v2⟩, rfl, hk, hy, hall⟩
                  · have HA := Lib.hid hall
                    clear hall
                    go_wp2_with fail
                    go_quiet ((go_at_call 26; exact Calls.quiet_of (hcmp1 _)))
                    have B6 : Below w.heap.size w (wr.drewN nq) := hb.trans ((below_regrownN wr nq).mono hb.size)
                    have O6 : (wr.drewN nq).ownsRow w.heap.size 42 2 u7 (keepL ch).length (labCells (keepL ch)) := HX.out.2
                    generalize wr.drewN nq = w6 at *
                    clear m0
                    go_wp2_with fail
                    go_roundw
                    case rel => exact ⟨i + 1, i, by omega, by go_num, rfl, Lib.hid (Best.first HA.out HX.out.1 HG.out), O6, B6⟩
                    case measure => simp [intOf]; omega
                  · have hkl : k < l.length := (List.getElem?_eq_some_iff.1 hk).1
                    obtain ⟨b', off', x', hA, -, hk', hcell'⟩ := H.out.1.at_ hkl
                    obtain ⟨rfl, rfl⟩ : b = b' ∧ off = off' := by simpa using hA
                    obtain rfl : x' = (nm2, v2) := Option.some.inj (hk'.symm.trans hk)
                    obtain ⟨n0, -⟩ := hcell' _ hb
                    have s3 := (H.out.2 _ (List.mem_of_getElem? hk)).1
                    simp only at n0 s3
                    obtain ⟨q, hq⟩ : ∃ q, cmpS nm1 nm2 = q := ⟨_, rfl⟩
                    have hcmp2 : ∀ w, _ := fun w => refcmp_lit nm1 nm2 q w s1 s3 hq
                    have hlt3 := cmp_lt nm1 nm2
                    rw [hq] at hlt3
                    have HA := Lib.hid (And.intro hk (And.intro hy hall))
                    have k0 : decide ((k : Int) < 0) = false := decide_eq_false (by omega)
                    clear hq hk hk' hy hall hcell' hA
                    by_cases hg2 : nm1.data.toList < nm2.data.toList
                    · rw [decide_eq_true hg2] at hlt3
                      have HG2 := Lib.hid hg2
                      clear hg2
                      go_wp2_with fail
                      refine wp_region_quiet_lit (by kernel_rfl) (by kernel_rfl) ?_
                      iterate 22 (go_big_quiet_step ((go_at_call 26; exact Calls.quiet_of (hcmp1 _))))
                      repeat (go_big_quiet_step ((go_at_call 26; exact Calls.quiet_of (hcmp2 _))))
                      refine wpQuiet_nil ?_
                      intro _ hw'
                      obtain ⟨nq, hw''⟩ := hw'
                      subst hw''
                      have B6 : Below w.heap.size w (wr.drewN nq) := hb.trans ((below_regrownN wr nq).mono hb.size)
                      have O6 : (wr.drewN nq).ownsRow w.heap.size 42 2 u7 (keepL ch).length (labCells (keepL ch)) := HX.out.2
                      generalize wr.drewN nq = w6 at *
                      clear m0 n0
                      go_wp2_with fail
                      go_roundw
                      case rel => exact ⟨i + 1, i, by omega, by go_num, rfl, Lib.hid (Best.better HA.out.2.2 HX.out.1 HG.out HG2.out), O6, B6⟩
                      case measure => simp [intOf]; omega
                    · rw [decide_eq_false hg2] at hlt3
                      have HG2 := Lib.hid hg2
                      clear hg2
                      go_wp2_with fail
                      refine wp_region_quiet_lit (by kernel_rfl) (by kernel_rfl) ?_
                      iterate 22 (go_big_quiet_step ((go_at_call 26; exact Calls.quiet_of (hcmp1 _))))
                      repeat (go_big_quiet_step ((go_at_call 26; exact Calls.quiet_of (hcmp2 _))))
                      refine wpQuiet_nil ?_
                      intro _ hw'
                      obtain ⟨nq, hw''⟩ := hw'
                      subst hw''
                      have B6 : Below w.heap.size w (wr.drewN nq) := hb.trans ((below_regrownN wr nq).mono hb.size)
                      have O6 : (wr.drewN nq).ownsRow w.heap.size 42 2 u7 (keepL ch).length (labCells (keepL ch)) := HX.out.2
                      generalize wr.drewN nq = w6 at *
                      clear m0 n0
                      go_wp2_with fail
                      go_roundw
                      case rel => exact ⟨i + 1, k, by omega, by go_num, rfl, Lib.hid (Best.worse HA.out.2.2 HA.out.1 HA.out.2.1 HX.out.1 HG2.out), O6, B6⟩
                      case measure => simp [intOf]; omega
                · rw [decide_eq_false hg] at hgt
                  have HG := Lib.hid hg
                  clear hg
                  go_wp2_with fail
                  go_quiet ((go_at_call 26; exact Calls.quiet_of (hcmp1 _)))
                  have B6 : Below w.heap.size w (wr.drewN nq) := hb.trans ((below_regrownN wr nq).mono hb.size)
                  have O6 : (wr.drewN nq).ownsRow w.heap.size 42 2 u7 (keepL ch).length (labCells (keepL ch)) := HX.out.2
                  generalize wr.drewN nq = w6 at *
                  clear m0
                  go_wp2_with fail
                  go_roundw
                  case rel => exact ⟨i + 1, bst, by omega, by go_num, rfl, Lib.hid (hbest.out.pass HX.out.1 HG.out), O6, B6⟩
                  case measure => simp [intOf]; omega
              · obtain rfl : i = l.length := by omega
                rcases hbest.out with ⟨rfl, hall⟩ | ⟨k, ⟨nm2, v2⟩, rfl, hk, hy, hall⟩
                · rw [List.take_of_length_le (Nat.le_refl _)] at hall
                  have hof : IsOf l (keepL ch) := hsel.out.1.isOf hall
                  obtain ⟨A3, c3, rfl, hlb⟩ := isLab_row hown
                  have HT := Lib.hid (And.intro hof (And.intro hlb hb))
                  clear hof hlb hown hall
                  go_wp2_with fail
                  refine bodyPost_ret (by simp [results, Tryd.results10, go_sem]; try rfl) rfl ?_
                  exact ⟨A3, c3, _, by rw [HF.out.2], HT.out.2.1, fun _ => HT.out.1, fun h => absurd HF.out.2 h, HT.out.2.2⟩
                · rw [List.take_of_length_le (Nat.le_refl _)] at hall
                  have hnext := hsel.out.1.next HF.out.1 (List.mem_of_getElem? hk) hy hall
                  have hkl : k < l.length := (List.getElem?_eq_some_iff.1 hk).1
                  obtain ⟨b, off, x', rfl, hbB, hk', hcell⟩ := H.out.1.at_ hkl
                  obtain rfl : x' = (nm2, v2) := Option.some.inj (hk'.symm.trans hk)
                  obtain ⟨m0, m1⟩ := hcell _ hb
                  have s3 := (H.out.2 _ (List.mem_of_getElem? hk)).1
                  simp only at m0 m1 s3
                  have hkp := keepL_snoc ch (nm2, v2)
                  have hkl2 := keepL_len ch
                  have hcl := hsel.out.2
                  have k0 : decide ((k : Int) < 0) = false := decide_eq_false (by omega)
                  have HN := Lib.hid (And.intro hnext (And.intro hkp hown))
                  clear hk hk' hy hall hnext hkp hcell hown
                  have hbz := hb.size
                  by_cases hv : v2.size = 0
                  · have ev := empty_bytes hv
                    have ev' : v2.toList = [] := nil_of_zero hv
                    have HV := Lib.hid hv
                    clear hv
                    go_wp2_with fail
                    go_roundw
                    case rel =>
                      refine ⟨n + 1, nm2, ch ++ [(nm2, v2)], by omega, by go_num, rfl, ?_, Lib.hid ⟨HN.out.1, by simp [hsel.out.2]⟩, s3, hb⟩
                      rw [HN.out.2.1, if_neg (by rw [HV.out]; simp)]
                      exact HN.out.2.2
                    case measure => simp [intOf]; omega
                  · have ev := some_of_pos (s := v2) (by omega)
                    have ev' : ¬ v2.toList = [] := by intro e; rw [e] at ev; cases ev
                    have HV := Lib.hid hv
                    clear hv
                    have hown2 := HN.out.2.2.alloc (.cells #[.string nm2, .string v2] 42)
                    have htwo := two_new (w := wr) (u := .string nm2) (v := .string v2) (t := 42)
                    go_wp2_with (at_builtin; refine wpList_append_own _ rfl _ _ 22 rfl w.heap.size 42 i0 (.agg #[.string ⟨#[]⟩, .string ⟨#[]⟩]) 2 32 Tryd.underlying22 hi0 hz00 hz01 hz02 rfl (by decide) _ _ _ rfl hown2 ⟨wr.heap.size, 0, none⟩ 1 1 [.string nm2, .string v2] rfl rfl htwo (fun u hu => by simp at hu; rcases hu with rfl | rfl <;> rfl) (by unfold maxLen; omega) (by omega) (by simp; omega) ?_; intro v' w7 hown7 hgrow7 _)
                    go_roundw
                    case rel =>
                      refine ⟨n + 1, nm2, ch ++ [(nm2, v2)], by omega, by go_num, rfl, ?_, Lib.hid ⟨HN.out.1, by simp [hsel.out.2]⟩, s3, (hb.alloc (o := .cells #[.string nm2, .string v2] 42) (by omega)).grown hgrow7 (by simp; omega) (fun j e => own_ge HN.out.2.2 e)⟩
                      rw [HN.out.2.1, if_pos HV.out, labCells_snoc, List.length_append]
                      exact hown7
                    case measure => simp [intOf]; omega
          · obtain rfl : n = l.length := by omega
            have hof : IsOf l (keepL ch) := hsel.out.1.isOf (hsel.out.1.full HF.out.1 hsel.out.2)
            obtain ⟨A3, c3, rfl, hlb⟩ := isLab_row hown
            have HT := Lib.hid (And.intro hof (And.intro hlb hb))
            clear hof hlb hown
            go_wp2_with fail
            refine bodyPost_ret (by simp [results, Tryd.results10, go_sem]; try rfl) rfl ?_
            exact ⟨A3, c3, _, by rw [HF.out.2], HT.out.2.1, fun _ => HT.out.1, fun h => absurd HF.out.2 h, HT.out.2.2⟩
end Go.Proofs.YtgdfklgbdfpinaaDoor
