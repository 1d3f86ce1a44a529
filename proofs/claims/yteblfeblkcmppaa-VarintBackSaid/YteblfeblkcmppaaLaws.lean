/-
  The walks of the three laws of layer 7: each returns true. Conditions: the numbers are of 64 bits.
-/
import Derived.Test.YteblfeblkcmppaaRefTake
import Derived.Lib.QuietBelow
import Derived.BigQuiet
namespace Go.Proofs.Yteblfeblkcmppaa
set_option linter.unusedVariables false
open Go.RowKit Go.Sort

theorem refput9 (n : Int) (w : World) (h0 : 0 ≤ n) (hn : n ≤ 18446744073709551615) :
    Calls Try.prog 7 #[.int .u64 n] w fun e w' => e = .returned (.string (txt (put n.toNat))) ∧ Below w.heap.size w w' :=
  refput_any 9 n w h0 (by omega) (by omega) hn

theorem take_lit (s : ByteArray) (w : World) (a b c : Int) (hs : s.size ≤ 1000) (h : take s.data.toList = (a.toNat, b.toNat, c.toNat)) (ha : 0 ≤ a) (hb : 0 ≤ b) (hc : 0 ≤ c) :
    Calls Try.prog 10 #[.string s] w fun e w' => e = .returned (.tuple #[.int .u64 a, .int .i64 b, .int .i64 c]) ∧ w = w' := by
  refine (take_any s w hs).mono ?_
  rintro e w' ⟨rfl, rfl⟩
  exact ⟨(ret_tuple3 h (by omega) (by omega) (by omega)).symm, rfl⟩

theorem u64_in {n : Int} (h : (Lit.int .u64 n).wf = true) : 0 ≤ n ∧ n ≤ 18446744073709551615 := by
  simpa [Lit.wf, IntKind.min, IntKind.max, IntKind.signed, IntKind.bits] using h

theorem works_any (w : World) : Calls Try.prog 9 #[] w fun e w' => e = .returned (.bool true) ∧ Below w.heap.size w w' := by
  have L1 := Lib.hid (show put (300 : Int).toNat = [172, 2] by decide)
  go_enter Try.func9, Try.ntmps9
  go_wp2_with fail
  refine (take_lit _ _ 300 2 0 (by decide) (by decide) (by decide) (by decide) (by decide)).mono ?_
  rintro e w' ⟨rfl, rfl⟩
  go_wp2_with fail
  refine (take_lit _ _ 0 0 2 (by decide) (by decide) (by decide) (by decide) (by decide)).mono ?_
  rintro e w' ⟨rfl, rfl⟩
  go_wp2_with fail
  refine (take_lit _ _ 0 0 1 (by decide) (by decide) (by decide) (by decide) (by decide)).mono ?_
  rintro e w' ⟨rfl, rfl⟩
  go_wp2_with fail
  refine (put_any _ _ (by decide) (by decide)).mono ?_
  rintro e w1 ⟨rfl, hb⟩
  rw [L1.out]
  have t := txt_toList [172, 2]
  go_wp2_with fail
  refine (size_any _ _ (by decide) (by decide)).mono ?_
  rintro e w2 ⟨rfl, hb2⟩
  rw [L1.out]
  go_wp2_with fail
  go_ret
  exact ⟨rfl, hb.trans (hb2.mono hb.size)⟩

namespace varintPutsW
theorem walk (n : Int) (w : World) (wn : (Lit.int .u64 n).wf = true) :
    Calls Try.prog 3 #[.int .u64 n] w fun e w' => e = .returned (.bool true) ∧ Below w.heap.size w w' := by
  obtain ⟨h0, h1⟩ := u64_in wn
  clear wn
  go_enter Try.func3, Try.ntmps3
  go_wp2_with fail
  refine (put_any _ _ h0 h1).mono ?_
  rintro e w1 ⟨rfl, b1⟩
  go_wp2_with fail
  refine (refput9 _ _ h0 h1).mono ?_
  rintro e w2 ⟨rfl, b2⟩
  go_wp2_with fail
  refine (size_any _ _ h0 h1).mono ?_
  rintro e w3 ⟨rfl, b3⟩
  go_wp2_with fail
  refine (refput9 _ _ h0 h1).mono ?_
  rintro e w4 ⟨rfl, b4⟩
  have t1 := txt_size (put n.toNat)
  go_wp2_with fail
  refine (works_any _).mono ?_
  rintro e w5 ⟨rfl, b5⟩
  go_wp2_with fail
  go_ret
  have c2 := b1.trans (b2.mono b1.size)
  have c3 := c2.trans (b3.mono c2.size)
  have c4 := c3.trans (b4.mono c3.size)
  exact ⟨rfl, c4.trans (b5.mono c4.size)⟩
end varintPutsW

namespace varintTakesW
theorem walk (s : ByteArray) (w : World) (hs : s.size ≤ maxLen) :
    Calls Try.prog 4 #[.string s] w fun e w' => e = .returned (.bool true) ∧ Below w.heap.size w w' := by
  unfold maxLen at hs
  by_cases h : 200 < s.size
  · go_enter Try.func4, Try.ntmps4
    go_wp2_with fail
    refine (works_any _).mono ?_
    rintro e w5 ⟨rfl, b5⟩
    go_wp2_with fail
    go_ret
    exact ⟨rfl, b5⟩
  · obtain ⟨⟨a, b, c⟩, ht⟩ : ∃ t, take s.data.toList = t := ⟨_, rfl⟩
    have HT := Lib.hid ht
    clear ht
    go_enter Try.func4, Try.ntmps4
    go_wp2_with fail
    refine (take_any _ _ (by omega)).mono ?_
    rintro e w1 ⟨rfl, rfl⟩
    rw [HT.out, tuple3]
    go_wp2_with fail
    refine (reftake_any _ _ (by omega)).mono ?_
    rintro e w1 ⟨rfl, b1⟩
    rw [HT.out, tuple3]
    go_wp2_with fail
    refine (works_any _).mono ?_
    rintro e w5 ⟨rfl, b5⟩
    go_wp2_with fail
    go_ret
    exact ⟨rfl, b1.trans (b5.mono b1.size)⟩
end varintTakesW

namespace varintBackW
/-- what was put begins nothing else that was put -/
theorem apart {n m : Nat} (hn : n < 18446744073709551616) (hm : m < 18446744073709551616) (hne : n ≠ m) (hl : (put n).length ≤ (put m).length) : (put m).take (put n).length ≠ put n := by
  intro h
  have h1 := take_put n ((put m).drop (put n).length) hn
  rw [← h, h, ← h] at h1
  have h2 := take_put m [] hm
  rw [List.append_nil] at h2
  have h3 : put n ++ (put m).drop (put n).length = put m := by
    have := List.take_append_drop (put n).length (put m)
    rw [h] at this
    exact this
  have h4 := take_put n ((put m).drop (put n).length) hn
  rw [h3, h2] at h4
  simp only [Prod.mk.injEq] at h4
  exact hne h4.1.symm

theorem three (n m : Int) (p q : List UInt8) (hn : 0 ≤ n ∧ n ≤ 18446744073709551615) (hm : 0 ≤ m ∧ m ≤ 18446744073709551615) (hp : put n.toNat = p) (hq : put m.toNat = q) :
    ((n == m) = true) ∨ ((n == m) = false ∧ ((decide (q.length < p.length) = true) ∨ ((decide (q.length < p.length) = false) ∧ (((txt (q.take p.length)).toList == (txt p).toList) = false)))) := by
  by_cases h : n = m
  · exact .inl (by simp [h])
  · refine .inr ⟨by simp [h], ?_⟩
    by_cases h2 : q.length < p.length
    · exact .inl (by simpa using h2)
    · refine .inr ⟨by simpa using h2, ?_⟩
      rw [txt_toList, txt_toList]
      have := apart (n := n.toNat) (m := m.toNat) (by omega) (by omega) (by omega) (by rw [hp, hq]; omega)
      rw [hp, hq] at this
      simpa using this

theorem takeF_err (f i acc : Nat) (s : List UInt8) (b u c : Nat) (h : takeF f s i acc = (b, u, c)) (hc : c ≠ 0) : b = 0 ∧ u = 0 ∧ True := by
  induction f generalizing i acc s with
  | zero => simp only [takeF, Prod.mk.injEq] at h; exact ⟨h.1.symm, h.2.1.symm, trivial⟩
  | succ f ih =>
    cases s with
    | nil => simp only [takeF, Prod.mk.injEq] at h; exact ⟨h.1.symm, h.2.1.symm, trivial⟩
    | cons d r =>
      rw [takeF] at h
      split at h
      · split at h
        · simp only [Prod.mk.injEq] at h; exact ⟨h.1.symm, h.2.1.symm, trivial⟩
        · split at h
          · simp only [Prod.mk.injEq] at h; exact ⟨h.1.symm, h.2.1.symm, trivial⟩
          · simp only [Prod.mk.injEq] at h; exact absurd h.2.2.symm hc
      · exact ih _ _ _ h

theorem below_drewN' (w : World) (n : Nat) : Below w.heap.size w (w.drewN n) := by
  induction n with
  | zero => exact Below.refl _ _
  | succ n ih => exact ih.trans ⟨rfl, rfl, rfl, Nat.le_refl _, fun _ _ => rfl⟩

set_option maxHeartbeats 1000000 in
set_option maxRecDepth 100000 in
theorem walk (n m : Int) (s : ByteArray) (w : World) (wn : (Lit.int .u64 n).wf = true) (wm : (Lit.int .u64 m).wf = true) (hs : s.size ≤ maxLen) :
    Calls Try.prog 5 #[.int .u64 n, .int .u64 m, .string s] w fun e w' => e = .returned (.bool true) ∧ Below w.heap.size w w' := by
  unfold maxLen at hs
  obtain ⟨n0, n1⟩ := u64_in wn
  obtain ⟨m0, m1⟩ := u64_in wm
  clear wn wm
  by_cases h : 200 < s.size
  · go_enter Try.func5, Try.ntmps5
    go_wp2_with fail
    refine (works_any _).mono ?_
    rintro e w5 ⟨rfl, b5⟩
    go_wp2_with fail
    go_ret
    exact ⟨rfl, b5⟩
  · have hpl := putF_len 9 n.toNat
    have hql := putF_len 9 m.toNat
    obtain ⟨p, hp⟩ : ∃ p, put n.toNat = p := ⟨_, rfl⟩
    obtain ⟨q, hq⟩ : ∃ q, put m.toNat = q := ⟨_, rfl⟩
    have hp' : putF 9 n.toNat = p := hp
    have hq' : putF 9 m.toNat = q := hq
    rw [hp'] at hpl
    rw [hq'] at hql
    have HP := Lib.hid hp
    have HQ := Lib.hid hq
    have hadd : ∀ wx, (Op.stringOp .add (txt p) s).run Try.prog wx = .ok (.string (txt (p ++ s.data.toList))) wx := fun wx => by
      rw [run_string_add_sum (P := Try.prog) wx (txt p) s (by rw [txt_size]; omega)]
      conv => lhs; rw [← txt_data s]
      rw [txt_append]
    have ht1 := take_put n.toNat s.data.toList (by omega)
    rw [hp] at ht1
    have HT1 := Lib.hid (show take (txt (p ++ s.data.toList)).data.toList = (n.toNat, (p.length : Int).toNat, (0 : Int).toNat) from by simpa [txt] using ht1)
    have hsz : (txt (p ++ s.data.toList)).size ≤ 1000 := by have e : s.data.toList.length = s.size := Array.length_toList; rw [txt_size, List.length_append, e]; omega
    obtain ⟨⟨b, u, c⟩, ht⟩ : ∃ t, take s.data.toList = t := ⟨_, rfl⟩
    have HT := Lib.hid ht
    have htp := txt_size p
    clear ht ht1 hp hq hp' hq'
    have HZ := Lib.hid (three n m p q (by omega) (by omega) HP.out HQ.out)
    have htq := txt_size q
    have HSL := Lib.hid (fun (hz2 : decide (q.length < p.length) = false) => show ∀ wx, (Instr.slice 9 (.string (txt q)) none (some (.int .i64 (p.length : Int))) none).run Try.prog wx = .ok (.string (txt (q.take p.length))) wx from fun wx => by
      have hz2' : ¬ q.length < p.length := by simpa using hz2
      rw [run_slice_string_to_if _ _ _ _ _ Try.underlying9, if_pos ⟨by omega, by rw [txt_size]; omega⟩, extract_txt]
      simp [txt])
    go_enter Try.func5, Try.ntmps5
    go_wp2_with fail
    refine (put_any _ _ n0 n1).mono ?_
    rintro e w1 ⟨rfl, b1⟩
    rw [HP.out]
    go_wp2_with fail
    refine (take_lit _ _ n p.length 0 hsz HT1.out n0 (by omega) (by omega)).mono ?_
    rintro e w2 ⟨rfl, rfl⟩
    by_cases hc : c = 0
    · subst hc
      obtain ⟨u1, u2, u3, u4⟩ := take_back _ _ _ HT.out
      have e : s.data.toList.length = s.size := Array.length_toList
      obtain ⟨B, hB⟩ : ∃ B : Int, B = b := ⟨_, rfl⟩
      obtain ⟨U, hU⟩ : ∃ U : Int, U = u := ⟨_, rfl⟩
      have U1 : 1 ≤ U := by omega
      have U2 : U ≤ s.size := by omega
      have U3 : decide ((s.size : Int) < U) = false := by simp; omega
      have U4 : decide (U < 1) = false := by simp; omega
      clear e
      have B0 : 0 ≤ B := by omega
      have B1 : B ≤ 18446744073709551615 := by omega
      have hBT : put B.toNat = s.data.toList.take U.toNat := by rw [hB, hU]; exact u3
      have HT2 := Lib.hid (show take s.data.toList = (B.toNat, U.toNat, (0 : Int).toNat) by rw [HT.out]; simp; omega)
      have HU := Lib.hid hBT
      have hsl2 : ∀ wx, (Instr.slice 9 (.string s) none (some (.int .i64 U)) none).run Try.prog wx = .ok (.string (txt (s.data.toList.take U.toNat))) wx := fun wx => by
        rw [run_slice_string_to_if _ _ _ _ _ Try.underlying9, if_pos ⟨by omega, U2⟩, extract_txt]
        simp
      have hcmp : ((txt (put B.toNat)).toList == (txt (s.data.toList.take U.toNat)).toList) = true := by rw [txt_toList, txt_toList, hBT]; simp
      clear u1 u2 u3 u4 hB hBT hU
      go_wp2_with fail
      refine (take_lit _ _ B U 0 (by omega) HT2.out B0 (by omega) (by omega)).mono ?_
      rintro e w2 ⟨rfl, rfl⟩
      go_wp2_with fail
      refine wp_region_quiet_below (by kernel_rfl) (by kernel_rfl) ?_
      repeat (go_big_quiet_step ((go_at_call 6; exact Calls.regrown_of (put_any _ _ B0 B1))))
      refine wpQuiet_nil ?_
      intro _ hw'
      obtain ⟨⟨dq, osq⟩, hw''⟩ := hw'
      subst hw''
      have b2 := below_regrown w1 dq osq
      generalize grow (redrawn w1 dq) osq = w2 at *
      go_wp2_with fail
      refine (put_any _ _ m0 m1).mono ?_
      rintro e w3 ⟨rfl, b3⟩
      rw [HQ.out]
      have c3 := (b1.trans (b2.mono b1.size)).trans (b3.mono (Nat.le_trans b1.size b2.size))
      clear b1 b2 b3
      rcases HZ.out with hz | ⟨hz1, hz | ⟨hz2, hz3⟩⟩
      · go_wp2_with fail
        refine (works_any _).mono ?_
        rintro e w5 ⟨rfl, b5⟩
        go_wp2_with fail
        go_ret
        exact ⟨rfl, c3.trans (b5.mono c3.size)⟩
      · go_wp2_with fail
        refine (works_any _).mono ?_
        rintro e w5 ⟨rfl, b5⟩
        go_wp2_with fail
        go_ret
        exact ⟨rfl, c3.trans (b5.mono c3.size)⟩
      · have hsl3 := HSL.out hz2
        go_wp2_with fail
        refine (works_any _).mono ?_
        rintro e w5 ⟨rfl, b5⟩
        go_wp2_with fail
        go_ret
        exact ⟨rfl, c3.trans (b5.mono c3.size)⟩
    · have he := takeF_err _ _ _ _ _ _ _ (show takeF 10 s.data.toList 0 0 = (b, u, c) from HT.out) hc
      obtain ⟨he1, he2, he3⟩ := he
      subst he1
      subst he2
      obtain ⟨C, hC⟩ : ∃ C : Int, C = c := ⟨_, rfl⟩
      have hC0 : (C == 0) = false := by simp; omega
      have hC1 : (C != 0) = true := by simp; omega
      have C0 : 0 ≤ C := by omega
      have HT2 := Lib.hid (show take s.data.toList = ((0 : Int).toNat, (0 : Int).toNat, C.toNat) by rw [HT.out]; simp; omega)
      clear hC
      go_wp2_with fail
      refine (take_lit _ _ 0 0 C (by omega) HT2.out (by omega) (by omega) C0).mono ?_
      rintro e w2 ⟨rfl, rfl⟩
      go_wp2_with fail
      refine wp_region_quiet_below (by kernel_rfl) (by kernel_rfl) ?_
      repeat (go_big_quiet_step (fail))
      refine wpQuiet_nil ?_
      intro _ hw'
      obtain ⟨⟨dq, osq⟩, hw''⟩ := hw'
      subst hw''
      have b2 := below_regrown w1 dq osq
      generalize grow (redrawn w1 dq) osq = w2 at *
      go_wp2_with fail
      refine (put_any _ _ m0 m1).mono ?_
      rintro e w3 ⟨rfl, b3⟩
      rw [HQ.out]
      have c3 := (b1.trans (b2.mono b1.size)).trans (b3.mono (Nat.le_trans b1.size b2.size))
      clear b1 b2 b3
      rcases HZ.out with hz | ⟨hz1, hz | ⟨hz2, hz3⟩⟩
      · go_wp2_with fail
        refine (works_any _).mono ?_
        rintro e w5 ⟨rfl, b5⟩
        go_wp2_with fail
        go_ret
        exact ⟨rfl, c3.trans (b5.mono c3.size)⟩
      · go_wp2_with fail
        refine (works_any _).mono ?_
        rintro e w5 ⟨rfl, b5⟩
        go_wp2_with fail
        go_ret
        exact ⟨rfl, c3.trans (b5.mono c3.size)⟩
      · have hsl3 := HSL.out hz2
        go_wp2_with fail
        refine (works_any _).mono ?_
        rintro e w5 ⟨rfl, b5⟩
        go_wp2_with fail
        go_ret
        exact ⟨rfl, c3.trans (b5.mono c3.size)⟩
end varintBackW

end Go.Proofs.Yteblfeblkcmppaa
