/-
  The walk of the law QuoteSafe: it returns true. Conditions: the tables of unicode/utf8 lie as laid.
-/
import Derived.Test.YtjglnpoeddopjaaDoorQuOpen
import Derived.Test.YtjglnpoeddopjaaDoorQuSafe
namespace Go.Proofs.YtjglnpoeddopjaaDoor
set_option linter.unusedVariables false
open Go.RowKit Go.Sort

theorem ok_lt {S : ByteArray} : ∀ {g p : Nat}, okAt S g p → p < S.size := by
  intro g p h
  cases g with
  | zero => have : p + 1 = S.size := h; omega
  | succ g => rcases h with h | ⟨h, _⟩ <;> omega
theorem ok_step {S : ByteArray} {g p : Nat} (h : okAt S g p) (hp : p + 1 < S.size) :
    ∃ g', rune S p ≠ 0 ∧ 32 ≤ byt S p ∧ byt S p ≠ 127 ∧ byt S p ≠ 34 ∧ okAt S g' (p + (if byt S p = 92 then 2 else rune S p)) := by
  cases g with
  | zero => have : p + 1 = S.size := h; omega
  | succ g =>
    rcases h with h | ⟨_, h1, h2, h3, h4, h5⟩
    · omega
    · exact ⟨g, h1, h2, h3, h4, h5⟩

set_option maxHeartbeats 4000000 in
set_option maxRecDepth 1000000 in
theorem law_safe (s : ByteArray) (w : World) (hs : s.size ≤ maxLen) (hT : Lib.Utf8Tabs 0 1 w) :
    Calls Tryd.prog 6 #[.string s] w fun e w' => e = .returned (.bool true) ∧ Below w.heap.size w w' := by
  have HT := Lib.hid hT
  clear hT
  go_enter Tryd.func6, Tryd.ntmps6
  by_cases h : 500 < (s.size : Int)
  · go_wp2_with (go_at_call 7; refine (works_any _ HT.out).mono ?_)
    first | (rintro _ w1 rfl b1) | (rintro _ w1 ⟨rfl, b1⟩)
    have B1 := Lib.hid b1
    clear b1
    go_wp2_with fail
    go_ret
    exact ⟨rfl, B1.out⟩
  · have hs1 : s.size ≤ 1000000 := by omega
    have hql := qtext_len s
    have hqs := txt_size (qtext s)
    have hqd := txt_list (qtext s)
    have hq2 : 2 ≤ (qtext s).length := by simp [qtext]
    have hq0 : byt (txt (qtext s)) 0 = 34 := by rw [byt_getD, hqd]; simp [qtext]
    have hqe : byt (txt (qtext s)) ((qtext s).length - 1) = 34 := by
      rw [byt_getD, hqd, List.getD_eq_getElem?_getD, ← List.getLast?_eq_getElem?]
      have e : qtext s = (34 :: body s s.size 0) ++ [34] := by simp [qtext]
      rw [e, List.getLast?_concat]
      rfl
    have hok : ∃ g, okAt (txt (qtext s)) g 1 := by
      refine ok_body _ s s.size 0 1 ?_ (by omega)
      rw [hqd]
      simp [qtext]
    go_wp2_with (go_at_call 8; refine (text_any s _ hs1 HT.out).mono ?_)
    first | (rintro _ w1 rfl b1) | (rintro _ w1 ⟨rfl, b1⟩)
    have B1 := Lib.hid b1
    clear b1
    generalize txt (qtext s) = Q at *
    rw [← hqs] at hql hq2 hqe
    have hz : Q.size ≤ 2002 := by omega
    clear hql hqs hqd
    have HOK := Lib.hid hok
    have hb0 := byt_at Q 0 (by omega)
    have hbe := byt_at Q (Q.size - 1) (by omega)
    rw [hq0] at hb0
    rw [hqe] at hbe
    clear hok hq0 hqe
    have hq3 : decide ((Q.size : Int) < 2) = false := decide_eq_false (by omega)
    have hq4 : ¬ ((Q.size : Int) < 2) := by omega
    go_wp2_with fail
    go_loopw [4] (fun a wr => ∃ (p g : Nat), a = .int .i64 p ∧ Below w.heap.size w wr ∧ Hid (okAt Q g p) ∧ p < Q.size) (fun a _ => Q.size - (intOf a).toNat)
    case atStart => exact ⟨1, HOK.out.choose, rfl, B1.out, Lib.hid HOK.out.choose_spec, by omega⟩
    case round =>
      obtain ⟨p, g, rfl, hbw, hok, hp⟩ := hrel
      by_cases hlt : p + 1 < Q.size
      · obtain ⟨g', s1, s2, s3, s4, s5⟩ := ok_step hok hlt
        have hnx := ok_lt s5
        have hbt := byt_at Q p hp
        obtain ⟨d, hd⟩ : ∃ d, Q[p]'hp = d := ⟨_, rfl⟩
        rw [hd] at hbt
        have hrn := refrune_any Q p wr hp (by unfold maxLen; omega)
        rw [← hbt] at s2 s3 s4 s5 hnx
        obtain ⟨r, er⟩ : ∃ r, rune Q p = r := ⟨_, rfl⟩
        rw [er] at s1 s5 hnx hrn
        have HS5 := Lib.hid s5
        have HRN := Lib.hid hrn
        clear s5 hrn er hbt
        have t1 : ((r : Int) == 0) = false := beq_eq_false_iff_ne.2 (by omega)
        have t2 : ¬ ((d.toNat : Int) < 32) := by omega
        have t3 : ((d.toNat : Int) == 127) = false := beq_eq_false_iff_ne.2 (by omega)
        have t4 : ((d.toNat : Int) == 34) = false := beq_eq_false_iff_ne.2 (by omega)
        have t5 : decide ((d.toNat : Int) < 32) = false := decide_eq_false t2
        have hlt' : (p : Int) < Q.size - 1 := by omega
        by_cases h92 : d.toNat = 92
        · have t6 : ((d.toNat : Int) == 92) = true := by rw [h92]; rfl
          rw [if_pos h92] at HS5 hnx
          have H92 := Lib.hid h92
          clear h92
          go_wp2_with (go_at_call 14; refine HRN.out.mono ?_; rintro e w' ⟨rfl, rfl⟩)
          refine ⟨⟨p + 2, g', by go_num, hbw, HS5, hnx⟩, by simp [intOf]; omega⟩
        · have t6 : ((d.toNat : Int) == 92) = false := beq_eq_false_iff_ne.2 (by omega)
          rw [if_neg h92] at HS5 hnx
          clear h92
          go_wp2_with (go_at_call 14; refine HRN.out.mono ?_; rintro e w' ⟨rfl, rfl⟩)
          refine ⟨⟨p + r, g', by go_num, hbw, HS5, hnx⟩, by simp [intOf]; omega⟩
      · obtain rfl : p = Q.size - 1 := by omega
        go_wp2_with (go_at_call 7; refine (works_any _ (Utf8Tabs_below HT.out hbw)).mono ?_)
        first | (rintro _ w5 rfl b5) | (rintro _ w5 ⟨rfl, b5⟩)
        have B5 := Lib.hid (hbw.trans (b5.mono hbw.size))
        clear b5
        go_wp2_with fail
        go_ret
        exact ⟨rfl, B5.out⟩

theorem quoteSafeW.walk (s : ByteArray) (W : World) (hs : s.size ≤ maxLen) (hL : laidMet Tryd.prog Rows.quoteSafeRow.laid W) :
    Calls Tryd.prog 6 #[.string s] W fun e w' => e = .returned (.bool true) ∧ Below W.heap.size W w' :=
  law_safe s W hs (tabs_in hL rfl)
end Go.Proofs.YtjglnpoeddopjaaDoor
