/-
  The walks of labels.one, labels.Right and the reference's Right. Conditions: the labels lie as Go's; texts no longer than texts can be.
-/
import Derived.Test.YtgdfklgbdfpinaaDoorLbCmp
namespace Go.Proofs.YtgdfklgbdfpinaaDoor
set_option linter.unusedVariables false
set_option linter.unusedSimpArgs false
open Go.RowKit Go.Sort

/-- what is wrong with a label by itself -/
def oneE (x : Lab) : Int := if labelB x.1 = false then 4 else if 1024 < x.2.size then 3 else 0
def stepR (l : List Lab) (i : Nat) : Int := match l[i]? with
  | none => 0
  | some x => if oneE x ≠ 0 then oneE x else if x.2.size = 0 then 2 else if i = 0 then 0 else match l[i - 1]? with
    | none => 0
    | some p => if p.1 = x.1 then 5 else if cmpS p.1 x.1 = 1 then 2 else 0
def rightK (l : List Lab) : Nat → Nat → Int
  | 0, _ => 0
  | k + 1, i => if stepR l i = 0 then rightK l k (i + 1) else stepR l i
/-- what keeps labels from being a map -/
def rightE (l : List Lab) : Int := if 32 < l.length then 3 else rightK l l.length 0
theorem rightK_step (l : List Lab) (i : Nat) (h : i < l.length) : rightK l (l.length - i) i = if stepR l i = 0 then rightK l (l.length - (i + 1)) (i + 1) else stepR l i := by
  rw [show l.length - i = (l.length - (i + 1)) + 1 from by omega, rightK]

set_option maxRecDepth 100000 in
set_option maxHeartbeats 2000000 in
theorem one_any (a b : ByteArray) (w : World) (ha : a.size ≤ maxLen) (hb : b.size ≤ maxLen) : Calls Tryd.prog 22 #[.agg #[.string a, .string b]] w fun e w' => e = .returned (.int .i64 (oneE (a, b))) ∧ Below w.heap.size w w' := by
  have hlb := hb
  unfold maxLen at hb
  have q := Blk.new w 42 #[.string a, .string b]
  have b1 := (Below.refl w.heap.size w).alloc (Nat.le_refl _) (.cells #[.string a, .string b] 42)
  have Q := Lib.hid (And.intro q b1)
  obtain ⟨⟨c0, c1⟩, -⟩ := q.c2
  clear q b1
  obtain ⟨lb, hlb2⟩ : ∃ lb, labelB a = lb := ⟨_, rfl⟩
  have HLB := Lib.hid hlb2
  clear hlb2
  go_enter Tryd.func22, Tryd.ntmps22
  go_wp2_with fail
  refine (label_lit a _ lb ha HLB.out).mono ?_
  rintro e w5 ⟨rfl, b5⟩
  have q5 := Q.out.1.below b5 (by simp)
  obtain ⟨⟨v0, v1⟩, -⟩ := q5.c2
  have B5 : Below w.heap.size w w5 := Q.out.2.trans (b5.mono (by simp))
  clear q5 b5 c0 c1
  cases lb
  · go_wp2_with fail
    go_ret
    exact ⟨ret_int (by rw [oneE, if_pos HLB.out]), B5⟩
  · by_cases k : 1024 < b.size
    · have k1 : decide (1024 < (b.size : Int)) = true := decide_eq_true (by omega)
      have KK := Lib.hid k
      clear k
      go_wp2_with fail
      go_ret
      exact ⟨ret_int (by rw [oneE, if_neg (by rw [HLB.out]; simp), if_pos KK.out]), B5⟩
    · have k1 : decide (1024 < (b.size : Int)) = false := decide_eq_false (by omega)
      have KK := Lib.hid k
      clear k
      go_wp2_with fail
      go_ret
      exact ⟨ret_int (by rw [oneE, if_neg (by rw [HLB.out]; simp), if_neg KK.out]), B5⟩
theorem one_lit (a b : ByteArray) (c : Int) (w : World) (ha : a.size ≤ maxLen) (hb : b.size ≤ maxLen) (h : oneE (a, b) = c) : Calls Tryd.prog 22 #[.agg #[.string a, .string b]] w fun e w' => e = .returned (.int .i64 c) ∧ Below w.heap.size w w' := by
  rw [← h]; exact one_any a b w ha hb
theorem oneE_cases (x : Lab) : oneE x = 0 ∨ oneE x = 3 ∨ oneE x = 4 := by
  unfold oneE
  split
  · exact .inr (.inr rfl)
  · split
    · exact .inr (.inl rfl)
    · exact .inl rfl
theorem oneE_ok {x : Lab} (h : oneE x = 0) : labelB x.1 = true ∧ x.2.size ≤ 1024 := by
  unfold oneE at h
  split at h
  · cases h
  · split at h
    · cases h
    · rename_i h1 h2
      exact ⟨by simpa using h1, by omega⟩
theorem empty_bytes {s : ByteArray} (h : s.size = 0) : s.toList.isEmpty = true := by rw [nil_of_zero h]; rfl

set_option maxRecDepth 100000 in
set_option maxHeartbeats 4000000 in
theorem right_any (A : Option Addr) (cap : Nat) (l : List Lab) (w : World) (h : IsLab w w.heap.size A l) (hlen : l.length ≤ 100000) (hs : ∀ x ∈ l, x.1.size ≤ maxLen ∧ x.2.size ≤ maxLen) :
    Calls Tryd.prog 11 #[.slice A l.length cap] w fun e w' => e = .returned (.int .i64 (rightE l)) ∧ Below w.heap.size w w' := by
  by_cases h8 : 32 < l.length
  · have h8' : decide (32 < (l.length : Int)) = true := decide_eq_true (by omega)
    go_enter Tryd.func11, Tryd.ntmps11
    go_wp2_with fail
    go_ret
    exact ⟨ret_int (by rw [rightE, if_pos h8]), Below.refl _ _⟩
  have h8' : decide (32 < (l.length : Int)) = false := decide_eq_false (by omega)
  have H := Lib.hid (And.intro h hs)
  clear h hs
  go_enter Tryd.func11, Tryd.ntmps11
  go_wp2_with fail
  go_loopw [11] (fun c wr => ∃ (j : Nat), j ≤ l.length ∧ c = .int .i64 j ∧ Hid (rightE l = rightK l (l.length - j) j) ∧ Below w.heap.size w wr) (fun c _ => l.length - (intOf c).toNat)
  case atStart => exact ⟨0, by omega, rfl, Lib.hid (by rw [rightE, if_neg h8]; rfl), Below.refl _ _⟩
  case round =>
    obtain ⟨j, hj, rfl, hc, hb⟩ := hrel
    by_cases hlt : j < l.length
    · obtain ⟨b, off, ⟨nm, vl⟩, rfl, hbB, hx, hcell⟩ := H.out.1.at_ hlt
      obtain ⟨m0, m1⟩ := hcell wr hb
      obtain ⟨s1, s2⟩ := H.out.2 _ (List.mem_of_getElem? hx)
      simp only at m0 m1 s1 s2
      have hst := rightK_step l j hlt
      rw [← hc.out] at hst
      have q4 := Blk.new wr 42 #[.string nm, .string vl]
      have b4 := hb.alloc (by have := hb.size; omega) (.cells #[.string nm, .string vl] 42)
      have HX := Lib.hid (And.intro hx (And.intro hst (And.intro q4 b4)))
      have HC := Lib.hid hcell
      clear hx hst q4 b4 hcell
      obtain ⟨oe, hoe⟩ : ∃ oe, oneE (nm, vl) = oe := ⟨_, rfl⟩
      have HO := Lib.hid hoe
      have hoc := oneE_cases (nm, vl)
      rw [hoe] at hoc
      clear hoe
      go_wp2_with fail
      refine (one_lit nm vl oe _ s1 s2 HO.out).mono ?_
      rintro e w5 ⟨rfl, b5⟩
      have q5 := HX.out.2.2.1.below b5 (by simp)
      obtain ⟨⟨v0, v1⟩, -⟩ := q5.c2
      have B5 : Below w.heap.size w w5 := HX.out.2.2.2.trans (b5.mono (by have := hb.size; simp; omega))
      have Q5 := Lib.hid q5
      clear q5 b5
      by_cases hoe0 : oe = 0
      · subst hoe0
        by_cases hv : vl.size = 0
        · have ev := empty_bytes hv
          have ev' : vl.toList = [] := nil_of_zero hv
          have HV := Lib.hid hv
          clear hv
          go_wp2_with fail
          go_ret
          refine ⟨ret_int ?_, B5⟩
          have e1 : stepR l j = 2 := by simp only [stepR, HX.out.1, HO.out, ne_eq, not_true_eq_false, if_false, HV.out, if_true]
          rw [HX.out.2.1, e1]
          rfl
        · have ev := some_of_pos (s := vl) (by omega)
          have ev' : ¬ vl.toList = [] := by intro e; rw [e] at ev; cases ev
          have HV := Lib.hid hv
          clear hv
          by_cases j0 : j = 0
          · have j0' : ((j : Int) == 0) = true := by simp [j0]
            have J0 := Lib.hid j0
            clear j0
            go_wp2_with fail
            go_roundw
            case rel =>
              have e1 : stepR l j = 0 := by
                have e0 := J0.out
                simp only [stepR, HX.out.1, HO.out, ne_eq, not_true_eq_false, if_false, HV.out]
                rw [if_pos e0]
              exact ⟨j + 1, by omega, by go_num, Lib.hid (by rw [HX.out.2.1, e1, if_pos rfl]), B5⟩
            case measure => simp [intOf]; omega
          · have j0' : ((j : Int) == 0) = false := by simp [j0]
            obtain ⟨i, rfl⟩ : ∃ i, j = i + 1 := ⟨j - 1, by omega⟩
            obtain ⟨b', off', ⟨pn, pv⟩, hA, hbB', hy, hcell'⟩ := H.out.1.at_ (j := i) (by omega)
            obtain ⟨rfl, rfl⟩ : b = b' ∧ off = off' := by simpa using hA
            obtain ⟨n0, -⟩ := hcell' w5 B5
            simp only at n0
            have wj : IntKind.i64.wrap ((((i + 1 : Nat)) : Int) - 1) = (i : Int) := by rw [IntWalk.i64_in _ (by omega)]; omega
            have wj2 : IntKind.i64.wrap ((i : Int) + 1 - 1) = (i : Int) := by rw [IntWalk.i64_in _ (by omega)]; omega
            have wj3 : IntKind.i64.wrap (i : Int) = (i : Int) := IntWalk.i64_in _ (by omega)
            have hil : i < l.length := by omega
            have HY := Lib.hid hy
            clear hy hcell' m0 m1
            obtain ⟨cc, hcc⟩ : ∃ cc, cmpS pn nm = cc := ⟨_, rfl⟩
            have hcs := cmpS_is pn nm
            rw [hcc] at hcs
            have HCS := Lib.hid hcs
            have hc3 : cc = -1 ∨ cc = 0 ∨ cc = 1 := by rcases hcs with ⟨h, _⟩ | ⟨h, _⟩ | ⟨h, _⟩ <;> simp [h]
            have hcmp : ∀ w, _ := fun w => cmp_lit pn nm cc w hcc
            have HCC := Lib.hid hcc
            clear hcs hcc
            have e0 : stepR l (i + 1) = if pn = nm then 5 else if cmpS pn nm = 1 then 2 else 0 := by
              simp only [stepR, HX.out.1, HO.out, ne_eq, not_true_eq_false, if_false, HV.out, Nat.add_sub_cancel, HY.out, Nat.succ_ne_zero]
            have E0 := Lib.hid e0
            clear e0
            go_wp2_with fail
            go_quiet ((go_at_call 27; exact Calls.quiet_of_same (hcmp _)))
            have B6 : Below w.heap.size w (w5.drewN nq) := B5.trans ((below_regrownN w5 nq).mono B5.size)
            generalize w5.drewN nq = w6 at *
            clear n0 v0 v1
            rcases hc3 with rfl | rfl | rfl
            · go_wp2_with fail
              go_roundw
              case rel =>
                have hne : ¬ pn = nm := by
                  rcases HCS.out with ⟨_, h⟩ | ⟨h, _⟩ | ⟨h, _⟩
                  · intro e; subst e; exact List.lt_irrefl _ h
                  · cases h
                  · cases h
                have e1 : stepR l (i + 1) = 0 := by rw [E0.out, if_neg hne, HCC.out]; rfl
                exact ⟨i + 1 + 1, by omega, by go_num, Lib.hid (by rw [HX.out.2.1, e1, if_pos rfl]), B6⟩
              case measure => simp [intOf]; omega
            · go_wp2_with fail
              go_ret
              refine ⟨ret_int ?_, B6⟩
              have he : pn = nm := by
                rcases HCS.out with ⟨h, _⟩ | ⟨_, h⟩ | ⟨h, _⟩
                · cases h
                · exact h
                · cases h
              rw [HX.out.2.1, E0.out, if_pos he]
              rfl
            · go_wp2_with fail
              go_ret
              refine ⟨ret_int ?_, B6⟩
              have hne : ¬ pn = nm := by
                rcases HCS.out with ⟨h, _⟩ | ⟨h, _⟩ | ⟨_, h⟩
                · cases h
                · cases h
                · intro e; subst e; exact List.lt_irrefl _ h
              rw [HX.out.2.1, E0.out, if_neg hne, HCC.out, if_pos rfl]
              rfl
      · have hoe' : (oe == 0) = false := by simp [hoe0]
        have hoe'' : (oe != 0) = true := by simp [hoe0]
        have HZ := Lib.hid hoe0
        clear hoe0
        go_wp2_with fail
        go_ret
        refine ⟨ret_int ?_, B5⟩
        have e1 : stepR l j = oe := by simp only [stepR, HX.out.1, HO.out, ne_eq, HZ.out, not_false_eq_true, if_true]
        rw [HX.out.2.1, e1, if_neg HZ.out]
    · obtain rfl : j = l.length := by omega
      have HF := Lib.hid (show rightE l = 0 by rw [hc.out, Nat.sub_self]; rfl)
      go_wp2_with fail
      go_ret
      exact ⟨ret_int HF.out.symm, hb⟩
end Go.Proofs.YtgdfklgbdfpinaaDoor
