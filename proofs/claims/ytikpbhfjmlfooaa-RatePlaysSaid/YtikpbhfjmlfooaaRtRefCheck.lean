/-
  The walk of the reference's Check. Conditions: the classes lie as Go's.
-/
import Derived.Test.YtikpbhfjmlfooaaRtCheck
namespace Go.Proofs.Ytikpbhfjmlfooaa
set_option linter.unusedVariables false
set_option linter.unusedSimpArgs false
open Go.RowKit Go.Maps Go.Sort

theorem timeB_true {n : Int} (h : timeB n = true) : 0 ≤ n ∧ n ≤ 1099511627776 := withinB_true.1 h
theorem timeB_false {n : Int} (h : timeB n = false) : n < 0 ∨ 1099511627776 < n := by
  have := withinB_false.1 h
  omega
theorem any_take {l : List Cls} {j k : Nat} {x y : Cls} (hk : k < j) (hy : l[k]? = some y) (h : y.1 = x.1) : anyName (l.take j) x.1 = true := by
  rw [anyName, List.any_eq_true]
  refine ⟨y, ?_, by simp [h]⟩
  have : (l.take j)[k]? = some y := by rw [List.getElem?_take]; simp [hk, hy]
  exact List.mem_of_getElem? this
theorem any_succ {l : List Cls} {k : Nat} {y : Cls} {s : ByteArray} (hy : l[k]? = some y) (h : ¬ y.1 = s) (h0 : anyName (l.take k) s = false) : anyName (l.take (k + 1)) s = false := by
  have ht : l.take (k + 1) = l.take k ++ [y] := by rw [List.take_add_one, hy]; rfl
  rw [ht, anyName_snoc, h0, decide_eq_false h]
  rfl
theorem str_eq (a b : ByteArray) : (a.toList == b.toList) = decide (a = b) := by
  rw [toList_data, toList_data]
  by_cases h : a = b
  · subst h; simp
  · have : a.data.toList ≠ b.data.toList := fun e => h (by rw [← txt_data a, ← txt_data b, e])
    rw [decide_eq_false h]
    simpa using this

set_option maxRecDepth 100000 in
set_option maxHeartbeats 4000000 in
theorem refcheck_any (A : Option Addr) (cap : Nat) (l : List Cls) (w : World) (h : IsCls w w.heap.size A l) (hlen : l.length ≤ 1000) :
    Calls Try.prog 34 #[.slice A l.length cap] w fun e w' => e = .returned (.int .i64 (checkE l)) ∧ Below w.heap.size w w' := by
  by_cases h8 : 8 < l.length
  · have h8' : decide (8 < (l.length : Int)) = true := decide_eq_true (by omega)
    go_enter Try.func34, Try.ntmps34
    go_wp2_with fail
    go_ret
    exact ⟨ret_int (by rw [checkE, if_pos h8]), Below.refl _ _⟩
  have h8' : decide (8 < (l.length : Int)) = false := decide_eq_false (by omega)
  have H := Lib.hid h
  clear h
  go_enter Try.func34, Try.ntmps34
  go_wp2_with fail
  go_loopw [3] (fun c wr => ∃ j : Nat, j ≤ l.length ∧ c = .int .i64 j ∧ Hid (checkFrom [] l = checkFrom (l.take j) (l.drop j)) ∧ Below w.heap.size w wr) (fun c _ => l.length - (intOf c).toNat)
  case atStart => exact ⟨0, by omega, rfl, Lib.hid rfl, Below.refl _ _⟩
  case round =>
    obtain ⟨j, hj, rfl, hc, hb⟩ := hrel
    by_cases hlt : j < l.length
    · obtain ⟨b, off, ⟨nm, cp, fl⟩, rfl, hbB, hx, ⟨hs, hcp, hfl⟩, hcell⟩ := H.out.at_ hlt
      obtain ⟨m0, m1, m2⟩ := hcell wr hb
      simp only at m0 m1 m2 hs hcp hfl
      have hst := check_step l j _ hx
      have hfull : checkE l = if stepE (l.take j) (nm, cp, fl) = 0 then checkFrom (l.take (j + 1)) (l.drop (j + 1)) else stepE (l.take j) (nm, cp, fl) := by
        rw [checkE, if_neg h8, hc.out, hst]
      have HX := Lib.hid (And.intro hx hfull)
      have HCELL := Lib.hid hcell
      clear hx hst hfull hcell
      obtain ⟨wd, hwd⟩ : ∃ wd, wordB nm = wd := ⟨_, rfl⟩
      have HW := Lib.hid hwd
      clear hwd
      go_wp2_with fail
      refine (refword_lit nm _ wd hs HW.out).mono ?_
      rintro e w5 ⟨rfl, rfl⟩
      cases wd
      · go_wp2_with fail
        go_ret
        refine ⟨ret_int ?_, hb⟩
        have : stepE (l.take j) (nm, cp, fl) = 4 := by rw [stepE, if_pos HW.out]
        rw [HX.out.2, this]
        rfl
      · have n1 : ¬ wordB nm = false := by rw [HW.out]; simp
        have N1 := Lib.hid n1
        clear n1
        cases ht : (timeB cp && timeB fl)
        · have h7 : stepE (l.take j) (nm, cp, fl) = 7 := by rw [stepE, if_neg N1.out, if_pos ht]
          have H7 := Lib.hid h7
          clear h7
          have hk : cp < 0 ∨ (0 ≤ cp ∧ 1099511627776 < cp) ∨ (0 ≤ cp ∧ cp ≤ 1099511627776 ∧ fl < 0) ∨ (0 ≤ cp ∧ cp ≤ 1099511627776 ∧ 0 ≤ fl ∧ 1099511627776 < fl) := by
            rw [Bool.and_eq_false_iff] at ht
            rcases ht with h | h
            · have := timeB_false h; omega
            · have := timeB_false h; omega
          clear ht
          rcases hk with k | ⟨k0, k⟩ | ⟨k0, k1, k⟩ | ⟨k0, k1, k2, k⟩
          · have q1 : decide (cp < 0) = true := decide_eq_true k
            go_wp2_with fail
            go_ret
            exact ⟨ret_int (by rw [HX.out.2, H7.out]; rfl), hb⟩
          · have q1 : decide (cp < 0) = false := decide_eq_false (by omega)
            have q2 : decide (1099511627776 < cp) = true := decide_eq_true k
            go_wp2_with fail
            go_ret
            exact ⟨ret_int (by rw [HX.out.2, H7.out]; rfl), hb⟩
          · have q1 : decide (cp < 0) = false := decide_eq_false (by omega)
            have q2 : decide (1099511627776 < cp) = false := decide_eq_false (by omega)
            have q3 : decide (fl < 0) = true := decide_eq_true k
            go_wp2_with fail
            go_ret
            exact ⟨ret_int (by rw [HX.out.2, H7.out]; rfl), hb⟩
          · have q1 : decide (cp < 0) = false := decide_eq_false (by omega)
            have q2 : decide (1099511627776 < cp) = false := decide_eq_false (by omega)
            have q3 : decide (fl < 0) = false := decide_eq_false (by omega)
            have q4 : decide (1099511627776 < fl) = true := decide_eq_true k
            go_wp2_with fail
            go_ret
            exact ⟨ret_int (by rw [HX.out.2, H7.out]; rfl), hb⟩
        · have HT := Lib.hid ht
          obtain ⟨t1, t2⟩ := Bool.and_eq_true_iff.1 ht
          have k1 := timeB_true t1
          have k2 := timeB_true t2
          clear ht t1 t2
          have q1 : decide (cp < 0) = false := decide_eq_false (by omega)
          have q2 : decide (1099511627776 < cp) = false := decide_eq_false (by omega)
          have q3 : decide (fl < 0) = false := decide_eq_false (by omega)
          have q4 : decide (1099511627776 < fl) = false := decide_eq_false (by omega)
          go_wp2_with fail
          clear m0 m1 m2
          go_loopw [4] (fun c wi => ∃ k : Nat, k ≤ j ∧ c = .int .i64 k ∧ Hid (anyName (l.take k) nm = false) ∧ Below w.heap.size w wi) (fun c _ => j - (intOf c).toNat)
          case atStart => exact ⟨0, by omega, rfl, Lib.hid rfl, hb⟩
          case round =>
            clear hb
            obtain ⟨k, hk, rfl, ha, hbi⟩ := hrel
            by_cases hkj : k < j
            · obtain ⟨b', off', ⟨nm', cp', fl'⟩, hA', hbB', hx', -, hcell'⟩ := H.out.at_ (show k < l.length by omega)
              obtain ⟨rfl, rfl⟩ : b' = b ∧ off' = off := by simpa [eq_comm] using hA'
              have m0 := (HCELL.out wr hbi).1
              have m1 := (hcell' wr hbi).1
              simp only at m0 m1
              have he := str_eq nm' nm
              have HX' := Lib.hid hx'
              clear hcell' hx' hA'
              by_cases hnn : nm' = nm
              · rw [decide_eq_true hnn] at he
                have HN := Lib.hid hnn
                clear hnn
                go_wp2_with fail
                go_quiet (fail)
                go_wp2_with fail
                go_ret
                refine ⟨ret_int ?_, below_drewN hbi _⟩
                have n2 : ¬ (timeB cp && timeB fl) = false := by rw [HT.out]; simp
                have h5 : stepE (l.take j) (nm, cp, fl) = 5 := by rw [stepE, if_neg N1.out, if_neg n2, if_pos (any_take hkj HX'.out HN.out)]
                rw [HX.out.2, h5]
                rfl
              · rw [decide_eq_false hnn] at he
                have HN := Lib.hid hnn
                clear hnn
                go_wp2_with fail
                go_quiet (fail)
                go_wp2_with fail
                exact ⟨⟨k + 1, by omega, by go_num, Lib.hid (any_succ HX'.out HN.out ha.out), below_drewN hbi _⟩, by simp [intOf]; omega⟩
            · obtain rfl : k = j := by omega
              go_wp2_with fail
              refine ⟨⟨k + 1, by omega, by go_num, Lib.hid ?_, hbi⟩, by simp [intOf]; omega⟩
              have n2 : ¬ (timeB cp && timeB fl) = false := by rw [HT.out]; simp
              have h0 : stepE (l.take k) (nm, cp, fl) = 0 := by rw [stepE, if_neg N1.out, if_neg n2, if_neg (by simp only; rw [ha.out]; simp)]
              have hE := HX.out.2
              rw [checkE, if_neg h8, h0, if_pos rfl] at hE
              exact hE
    · obtain rfl : j = l.length := by omega
      have hfull : checkE l = 0 := by
        rw [checkE, if_neg h8, hc.out, List.drop_length, checkFrom]
      have HF := Lib.hid hfull
      clear hfull
      go_wp2_with fail
      go_ret
      exact ⟨ret_int HF.out.symm, hb⟩
theorem refcheck_lit (A : Option Addr) (cap : Nat) (l : List Cls) (w : World) (E : Int) (h : IsCls w w.heap.size A l) (hlen : l.length ≤ 1000) (hE : checkE l = E) :
    Calls Try.prog 34 #[.slice A l.length cap] w fun e w' => e = .returned (.int .i64 E) ∧ Below w.heap.size w w' := by rw [← hE]; exact refcheck_any A cap l w h hlen
end Go.Proofs.Ytikpbhfjmlfooaa
