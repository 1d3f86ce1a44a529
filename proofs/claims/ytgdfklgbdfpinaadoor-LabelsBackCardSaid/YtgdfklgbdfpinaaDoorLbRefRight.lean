/-
  The walk of the reference's Right: it tells rightE too. Conditions: the labels lie as Go's; texts no longer than texts can be.
-/
import Derived.Test.YtgdfklgbdfpinaaDoorLbRight
namespace Go.Proofs.YtgdfklgbdfpinaaDoor
set_option linter.unusedVariables false
set_option linter.unusedSimpArgs false
open Go.RowKit Go.Sort

theorem cmp_flip (a b : ByteArray) : cmpS a b = 1 ↔ cmpS b a = -1 := by
  have n2 : ∀ {x y : List UInt8}, x < y → y < x → False := fun h1 h2 => List.lt_irrefl _ (List.lt_trans h1 h2)
  rcases cmpS_is a b with ⟨e, h⟩ | ⟨e, h⟩ | ⟨e, h⟩ <;> rcases cmpS_is b a with ⟨f, k⟩ | ⟨f, k⟩ | ⟨f, k⟩ <;> rw [e, f] <;> simp
  · exact n2 h k
  · subst h; exact List.lt_irrefl _ k
  · subst k; exact List.lt_irrefl _ h
  · exact n2 h k

set_option maxRecDepth 100000 in
set_option maxHeartbeats 4000000 in
theorem refright_any (A : Option Addr) (cap : Nat) (l : List Lab) (w : World) (h : IsLab w w.heap.size A l) (hlen : l.length ≤ 100000) (hs : ∀ x ∈ l, x.1.size ≤ maxLen ∧ x.2.size ≤ maxLen) :
    Calls Tryd.prog 12 #[.slice A l.length cap] w fun e w' => e = .returned (.int .i64 (rightE l)) ∧ Below w.heap.size w w' := by
  by_cases h8 : 32 < l.length
  · have h8' : decide (32 < (l.length : Int)) = true := decide_eq_true (by omega)
    go_enter Tryd.func12, Tryd.ntmps12
    go_wp2_with fail
    go_ret
    exact ⟨ret_int (by rw [rightE, if_pos h8]), Below.refl _ _⟩
  have h8' : decide (32 < (l.length : Int)) = false := decide_eq_false (by omega)
  have H := Lib.hid (And.intro h hs)
  clear h hs
  go_enter Tryd.func12, Tryd.ntmps12
  go_wp2_with fail
  go_loopw [3] (fun c wr => ∃ (j : Nat), j ≤ l.length ∧ c = .int .i64 j ∧ Hid (rightE l = rightK l (l.length - j) j) ∧ Below w.heap.size w wr) (fun c _ => l.length - (intOf c).toNat)
  case atStart => exact ⟨0, by omega, rfl, Lib.hid (by rw [rightE, if_neg h8]; rfl), Below.refl _ _⟩
  case round =>
    obtain ⟨j, hj, rfl, hc, hb⟩ := hrel
    by_cases hlt : j < l.length
    · obtain ⟨b, off, ⟨nm, vl⟩, rfl, hbB, hx, hcell⟩ := H.out.1.at_ hlt
      obtain ⟨m0, m1⟩ := hcell wr hb
      obtain ⟨s1, s2⟩ := H.out.2 _ (List.mem_of_getElem? hx)
      simp only at m0 m1 s1 s2
      have hst := rightK_step l j hlt
      rw [← hc.out] at hst
      have HX := Lib.hid (And.intro hx hst)
      have HC := Lib.hid hcell
      clear hx hst hcell
      obtain ⟨lb, hlb2⟩ : ∃ lb, labelB nm = lb := ⟨_, rfl⟩
      have hlab : ∀ w, _ := fun w => reflabel_lit nm w lb s1 hlb2
      have HLB := Lib.hid hlb2
      clear hlb2
      cases lb with
      | false =>
        go_wp2_with (go_at_call 25; refine (hlab _).mono ?_; rintro e w' ⟨rfl, rfl⟩)
        go_ret
        refine ⟨ret_int ?_, hb⟩
        have e0 : oneE (nm, vl) = 4 := by rw [oneE, if_pos HLB.out]
        have e1 : stepR l j = 4 := by simp only [stepR, HX.out.1, e0]; rfl
        rw [HX.out.2, e1]
        rfl
      | true =>
        by_cases k : 1024 < vl.size
        · have k1 : decide (1024 < (vl.size : Int)) = true := decide_eq_true (by omega)
          have KK := Lib.hid k
          clear k
          go_wp2_with (go_at_call 25; refine (hlab _).mono ?_; rintro e w' ⟨rfl, rfl⟩)
          go_ret
          refine ⟨ret_int ?_, hb⟩
          have e0 : oneE (nm, vl) = 3 := by rw [oneE, if_neg (by rw [HLB.out]; simp), if_pos KK.out]
          have e1 : stepR l j = 3 := by simp only [stepR, HX.out.1, e0]; rfl
          rw [HX.out.2, e1]
          rfl
        · have k1 : decide (1024 < (vl.size : Int)) = false := decide_eq_false (by omega)
          have HO : Hid (oneE (nm, vl) = 0) := Lib.hid (by rw [oneE, if_neg (by rw [HLB.out]; simp), if_neg k])
          clear k
          by_cases hv : vl.size = 0
          · have ev := empty_bytes hv
            have ev' : vl.toList = [] := nil_of_zero hv
            have HV := Lib.hid hv
            clear hv
            go_wp2_with (go_at_call 25; refine (hlab _).mono ?_; rintro e w' ⟨rfl, rfl⟩)
            go_ret
            refine ⟨ret_int ?_, hb⟩
            have e1 : stepR l j = 2 := by simp only [stepR, HX.out.1, HO.out, ne_eq, not_true_eq_false, if_false, HV.out, if_true]
            rw [HX.out.2, e1]
            rfl
          · have ev := some_of_pos (s := vl) (by omega)
            have ev' : ¬ vl.toList = [] := by intro e; rw [e] at ev; cases ev
            have HV := Lib.hid hv
            clear hv
            by_cases j0 : j = 0
            · have j0' : decide (0 < (j : Int)) = false := decide_eq_false (by omega)
              have j0'' : decide (0 < j) = false := decide_eq_false (by omega)
              have J0 := Lib.hid j0
              clear j0
              go_wp2_with (go_at_call 25; refine (hlab _).mono ?_; rintro e w' ⟨rfl, rfl⟩)
              go_quiet (fail)
              have B6 : Below w.heap.size w (w'.drewN nq) := hb.trans ((below_regrownN w' nq).mono hb.size)
              generalize w'.drewN nq = w6 at *
              go_wp2_with fail
              go_quiet (fail)
              have B7 : Below w.heap.size w (w6.drewN nq) := B6.trans ((below_regrownN w6 nq).mono B6.size)
              generalize w6.drewN nq = w7 at *
              go_wp2_with fail
              go_roundw
              case rel =>
                have e1 : stepR l j = 0 := by
                  have e0 := J0.out
                  simp only [stepR, HX.out.1, HO.out, ne_eq, not_true_eq_false, if_false, HV.out]
                  rw [if_pos e0]
                exact ⟨j + 1, by omega, by go_num, Lib.hid (by rw [HX.out.2, e1, if_pos rfl]), B7⟩
              case measure => simp [intOf]; omega
            · have j0' : decide (0 < (j : Int)) = true := decide_eq_true (by omega)
              have j0'' : decide (0 < j) = true := decide_eq_true (by omega)
              obtain ⟨i, hij⟩ : ∃ i, j = i + 1 := ⟨j - 1, by omega⟩
              obtain ⟨b', off', ⟨pn, pv⟩, hA, hbB', hy, hcell'⟩ := H.out.1.at_ (j := i) (by omega)
              obtain ⟨rfl, rfl⟩ : b = b' ∧ off = off' := by simpa using hA
              have HC' := Lib.hid hcell'
              obtain ⟨n0, -⟩ := hcell' wr hb
              have sp := (H.out.2 _ (List.mem_of_getElem? hy)).1
              simp only at n0 sp
              have wj : IntKind.i64.wrap ((j : Int) - 1) = (i : Int) := by rw [IntWalk.i64_in _ (by omega)]; omega
              have hil : i < l.length := by omega
              have HY := Lib.hid (And.intro hy hij)
              clear hy hcell' j0 hij
              have e0 : stepR l j = if pn = nm then 5 else if cmpS pn nm = 1 then 2 else 0 := by
                have ej := HY.out.2
                subst ej
                simp only [stepR, HX.out.1, HO.out, ne_eq, not_true_eq_false, if_false, HV.out, Nat.add_sub_cancel, HY.out.1, Nat.succ_ne_zero]
              have E0 := Lib.hid e0
              clear e0
              have heq := str_eq nm pn
              by_cases hnp : nm = pn
              · rw [decide_eq_true hnp] at heq
                have HE := Lib.hid hnp
                clear hnp
                go_wp2_with (go_at_call 25; refine (hlab _).mono ?_; rintro e w' ⟨rfl, rfl⟩)
                go_quiet (fail)
                have B6 : Below w.heap.size w (w'.drewN nq) := hb.trans ((below_regrownN w' nq).mono hb.size)
                generalize w'.drewN nq = w6 at *
                go_wp2_with fail
                go_ret
                refine ⟨ret_int ?_, B6⟩
                rw [HX.out.2, E0.out, if_pos HE.out.symm]
                rfl
              · rw [decide_eq_false hnp] at heq
                have HE := Lib.hid hnp
                clear hnp
                obtain ⟨cc, hcc⟩ : ∃ cc, cmpS nm pn = cc := ⟨_, rfl⟩
                have hcmp : ∀ w, _ := fun w => refcmp_lit nm pn cc w s1 sp hcc
                have hc3 : cc = -1 ∨ cc = 1 := by
                  rcases cmpS_is nm pn with ⟨h, _⟩ | ⟨_, h⟩ | ⟨h, _⟩
                  · left; omega
                  · exact absurd h HE.out
                  · right; omega
                have HCC := Lib.hid hcc
                clear hcc
                rcases hc3 with rfl | rfl
                · go_wp2_with (go_at_call 25; refine (hlab _).mono ?_; rintro e w' ⟨rfl, rfl⟩)
                  go_quiet (fail)
                  have B6 : Below w.heap.size w (w'.drewN nq) := hb.trans ((below_regrownN w' nq).mono hb.size)
                  replace m0 := (HC.out _ B6).1
                  replace n0 := (HC'.out _ B6).1
                  generalize w'.drewN nq = w6 at *
                  go_wp2_with fail
                  go_quiet ((go_at_call 26; exact Calls.quiet_of (hcmp _)))
                  have B7 : Below w.heap.size w (w6.drewN nq) := B6.trans ((below_regrownN w6 nq).mono B6.size)
                  generalize w6.drewN nq = w7 at *
                  go_wp2_with fail
                  go_ret
                  refine ⟨ret_int ?_, B7⟩
                  have e1 : stepR l j = 2 := by rw [E0.out, if_neg (fun e => HE.out e.symm), if_pos ((cmp_flip pn nm).2 HCC.out)]
                  rw [HX.out.2, e1]
                  rfl
                · go_wp2_with (go_at_call 25; refine (hlab _).mono ?_; rintro e w' ⟨rfl, rfl⟩)
                  go_quiet (fail)
                  have B6 : Below w.heap.size w (w'.drewN nq) := hb.trans ((below_regrownN w' nq).mono hb.size)
                  replace m0 := (HC.out _ B6).1
                  replace n0 := (HC'.out _ B6).1
                  generalize w'.drewN nq = w6 at *
                  go_wp2_with fail
                  go_quiet ((go_at_call 26; exact Calls.quiet_of (hcmp _)))
                  have B7 : Below w.heap.size w (w6.drewN nq) := B6.trans ((below_regrownN w6 nq).mono B6.size)
                  generalize w6.drewN nq = w7 at *
                  go_wp2_with fail
                  go_roundw
                  case rel =>
                    have e1 : stepR l j = 0 := by
                      rw [E0.out, if_neg (fun e => HE.out e.symm), if_neg (fun h => by have h2 := (cmp_flip pn nm).1 h; rw [HCC.out] at h2; cases h2)]
                    exact ⟨j + 1, by omega, by go_num, Lib.hid (by rw [HX.out.2, e1, if_pos rfl]), B7⟩
                  case measure => simp [intOf]; omega
    · obtain rfl : j = l.length := by omega
      have HF := Lib.hid (show rightE l = 0 by rw [hc.out, Nat.sub_self]; rfl)
      go_wp2_with fail
      go_ret
      exact ⟨ret_int HF.out.symm, hb⟩
end Go.Proofs.YtgdfklgbdfpinaaDoor
