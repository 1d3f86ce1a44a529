/-
  LabelsBack: the walk of the law. Conditions: the labels and the texts lie as Go's; the tables of unicode/utf8 lie as laid.
-/
import Derived.Test.YtgdfklgbdfpinaaDoorLbBackLaw
namespace Go.Proofs.YtgdfklgbdfpinaaDoor
set_option linter.unusedVariables false
set_option linter.unusedSimpArgs false
open Go.RowKit Go.Sort Go.ChangeShapes Go.WideShapes Go.ChangeAt

theorem ltext_len {l : List Lab} (h : Small l) : (ltext l).length ≤ 184082 := by
  have h1 := textK_len h l.length
  have h2 := h.1
  simp only [ltext, List.length_append, List.length_cons, List.length_nil]
  omega

set_option maxHeartbeats 8000000 in
set_option maxRecDepth 1000000 in
theorem law_lback (A : Option Addr) (cap : Nat) (l : List Lab) (a b : ByteArray) (w : World) (h : IsLab w w.heap.size A l) (hlen : l.length ≤ maxLen) (hs : ∀ x ∈ l, x.1.size ≤ maxLen ∧ x.2.size ≤ maxLen) (ha : a.size ≤ maxLen) (hb : b.size ≤ maxLen) (hT : Lib.Utf8Tabs 0 1 w) :
    Calls Tryd.prog 5 #[.slice A l.length cap, .string a, .string b] w fun e w' => e = .returned (.bool true) ∧ Below w.heap.size w w' := by
  have HT := Lib.hid hT
  have hwk := works_any w hT
  clear hT
  cases hg : greatB l with
  | true =>
    have hgr := great_lit A cap l w true h hlen hg
    clear hg h
    go_enter Tryd.func5, Tryd.ntmps5
    go_wp2_with fail
    refine hgr.mono ?_
    rintro r w' ⟨rfl, rfl⟩
    go_wp2_with fail
    refine hwk.mono ?_
    rintro r w1 ⟨rfl, b1⟩
    go_wp2_with fail
    go_ret
    exact ⟨rfl, b1⟩
  | false =>
    have hgr := great_lit A cap l w false h hlen hg
    have hsm := greatB_small hg
    have hl40 := hsm.1
    have hl1 : l.length ≤ 100000 := by omega
    have H := Lib.hid h
    clear hg h
    by_cases ha50 : 50 < a.size
    · have k1 : decide (50 < (a.size : Int)) = true := decide_eq_true (by omega)
      clear ha50
      go_enter Tryd.func5, Tryd.ntmps5
      go_wp2_with fail
      refine hgr.mono ?_
      rintro r w' ⟨rfl, rfl⟩
      go_wp2_with fail
      refine hwk.mono ?_
      rintro r w1 ⟨rfl, b1⟩
      go_wp2_with fail
      go_ret
      exact ⟨rfl, b1⟩
    have k1 : decide (50 < (a.size : Int)) = false := decide_eq_false (by omega)
    by_cases hb50 : 50 < b.size
    · have k2 : decide (50 < (b.size : Int)) = true := decide_eq_true (by omega)
      clear ha50 hb50
      go_enter Tryd.func5, Tryd.ntmps5
      go_wp2_with fail
      refine hgr.mono ?_
      rintro r w' ⟨rfl, rfl⟩
      go_wp2_with fail
      refine hwk.mono ?_
      rintro r w1 ⟨rfl, b1⟩
      go_wp2_with fail
      go_ret
      exact ⟨rfl, b1⟩
    have k2 : decide (50 < (b.size : Int)) = false := decide_eq_false (by omega)
    clear hwk
    obtain ⟨eo, heo⟩ : ∃ eo, ofErr l = eo := ⟨_, rfl⟩
    have HE := Lib.hid heo
    clear heo
    have hrt : ∀ w (h : IsLab w w.heap.size A l), _ := fun w h => right_any A cap l w h hl1 hs
    by_cases hr : rightE l = 0
    · obtain ⟨he0, hof0⟩ := right_of hr
      rw [hr] at hrt
      have HR0 := Lib.hid (And.intro he0 hof0)
      clear hr he0 hof0
      go_enter Tryd.func5, Tryd.ntmps5
      go_wp2_with fail
      refine hgr.mono ?_
      rintro r w' ⟨rfl, rfl⟩
      go_wp2_with fail
      refine (hrt _ H.out).mono ?_
      rintro r w1 ⟨rfl, b1⟩
      have H1 := Lib.hid (And.intro (H.out.below b1 b1.size) b1)
      clear H b1 hrt
      go_wp2_with fail
      refine (of_any A cap l w1 H1.out.1 hl1 hs).mono ?_
      rintro r w2 ⟨A2, c2, m2, rfl, g2, o2, -, b2⟩
      rw [HR0.out.1]
      obtain rfl := (o2 HR0.out.1).unique HR0.out.2
      have H2 := Lib.hid (And.intro (H1.out.1.below b2 b2.size) (And.intro g2 (H1.out.2.trans (b2.mono H1.out.2.size))))
      clear H1 g2 o2 b2
      go_wp2_with fail
      refine (same_any A2 A c2 cap m2 m2 w2 H2.out.2.1 H2.out.1 hl1 hl1).mono ?_
      rintro r W0 ⟨rfl, b0⟩
      rw [decide_eq_true rfl]
      have H0 := Lib.hid (And.intro (H2.out.1.below b0 b0.size) (H2.out.2.2.trans (b0.mono H2.out.2.2.size)))
      clear H2 b0 HR0
      go_wp2_with fail
      refine (of_any A cap m2 W0 H0.out.1 hl1 hs).mono ?_
      rintro r w3 ⟨A3, c3, m3, rfl, g3, o3, n3, b3⟩
      rw [HE.out]
      have H3 := Lib.hid (And.intro (H0.out.1.below b3 b3.size) (And.intro g3 (H0.out.2.trans (b3.mono H0.out.2.size))))
      have O3 := Lib.hid (And.intro o3 n3)
      clear H0 g3 o3 n3 b3
      by_cases he : eo = 0
      case neg =>
        have k3 : (eo == 0) = false := beq_eq_false_iff_ne.2 he
        have k4 : (eo != 0) = true := by rw [bne, k3]; rfl
        obtain rfl := O3.out.2 (by rw [HE.out]; exact he)
        have hwk := works_any w3 (Utf8Tabs_below HT.out H3.out.2.2)
        clear he
        go_wp2_with fail
        refine hwk.mono ?_
        rintro r w4 ⟨rfl, b4⟩
        have B4 := H3.out.2.2.trans (b4.mono H3.out.2.2.size)
        clear b4
        go_wp2_with fail
        go_ret
        exact ⟨rfl, B4⟩
      subst he
      have hof := O3.out.1 HE.out
      have hml := hof.len
      have hm1 : m3.length ≤ 100000 := by omega
      have hms : ∀ x ∈ m3, x.1.size ≤ maxLen ∧ x.2.size ≤ maxLen := fun x hx => hs x ((hof.mem x).1 hx).1
      have HR := Lib.hid (of_right HE.out hof)
      have HB := Lib.hid (take_back a b HE.out)
      have htz : (txt (ltext m2)).size = (ltext m2).length := by rw [size_list, txt_list]
      have htl := ltext_len hsm
      have htx : ∀ w (h : IsLab w w.heap.size A m2) (hT : Lib.Utf8Tabs 0 1 w), _ := fun w h hT => ltext_any A cap m2 w h hsm hT
      obtain ⟨T, hTt⟩ : ∃ T, txt (ltext m2) = T := ⟨_, rfl⟩
      rw [hTt, ← htz, hTt] at HB
      rw [hTt] at htz
      simp only [hTt] at htx
      rw [← htz] at htl
      clear hof O3 HE hTt htz
      have hz1 : (a ++ T).size = a.size + T.size := ByteArray.size_append
      have hz2 : (a ++ T ++ b).size = a.size + T.size + b.size := by rw [ByteArray.size_append, ByteArray.size_append]
      have hz3 : a.size + T.size ≤ maxLen := by unfold maxLen; omega
      have hz4 : a.size + T.size + b.size ≤ maxLen := by unfold maxLen; omega
      go_wp2_with fail
      refine (htx _ H3.out.1 (Utf8Tabs_below HT.out H3.out.2.2)).mono ?_
      rintro r w4 ⟨rfl, b4⟩
      have H4 := Lib.hid (And.intro (H3.out.1.below b4 b4.size) (And.intro (H3.out.2.1.below b4 b4.size) (H3.out.2.2.trans (b4.mono H3.out.2.2.size))))
      clear H3 b4
      go_wp2_with fail
      have wpT : IntKind.i64.wrap ((a.size : Int) + (T.size : Int)) = ((a.size + T.size : Nat) : Int) := by rw [IntWalk.i64_in _ (by omega)]; omega
      obtain ⟨S, hS⟩ : ∃ S, a ++ T ++ b = S := ⟨_, rfl⟩
      rw [hS] at HB ⊢
      have hSz : S.size ≤ 1000000 := by rw [← hS, hz2]; omega
      clear hS hz1 hz2 hz3 hz4
      have hta := take_any S (a.size : Int) w4 hSz (Utf8Tabs_below HT.out H4.out.2.2)
      unfold TakeTells at hta
      rw [HB.out] at hta
      simp only [fltV] at hta
      refine hta.mono ?_
      rintro r w5 ⟨A5, c5, rfl, hl5, -, b5⟩
      have hal := (Below.refl w5.heap.size w5).alloc (Nat.le_refl _) (.cells #[.int .i64 (0 : Nat), .int .i64 (0 : Nat)] 33)
      have bb := b5.trans (hal.mono b5.size)
      have H5 := Lib.hid (And.intro (H4.out.1.below bb bb.size) (And.intro (H4.out.2.1.below bb bb.size) (And.intro (H4.out.2.2.trans (bb.mono H4.out.2.2.size)) (And.intro (hl5.below hal hal.size) (Blk.new w5 33 #[.int .i64 (0 : Nat), .int .i64 (0 : Nat)])))))
      clear H4 hl5 hal bb b5 hta
      go_wp2_with fail
      generalize w5.alloc (.cells #[.int .i64 (0 : Nat), .int .i64 (0 : Nat)] 33) = W5 at *
      refine (right_any A3 c3 m3 W5 H5.out.2.1 hm1 hms).mono ?_
      rintro r w6 ⟨rfl, b6⟩
      rw [HR.out]
      have H6 := Lib.hid (And.intro (H5.out.1.below b6 b6.size) (And.intro (H5.out.2.2.1.trans (b6.mono H5.out.2.2.1.size)) (And.intro (H5.out.2.2.2.1.below b6 b6.size) (H5.out.2.2.2.2.below b6 H5.out.2.2.2.2.lt))))
      clear H5 b6 HR
      go_wp2_with fail
      refine (same_any A5 A c5 cap m2 m2 w6 H6.out.2.2.1 H6.out.1 hl1 hl1).mono ?_
      rintro r w7 ⟨rfl, b7⟩
      rw [decide_eq_true rfl]
      have H7 := Lib.hid (And.intro (H6.out.1.below b7 b7.size) (And.intro (H6.out.2.1.trans (b7.mono H6.out.2.1.size)) (H6.out.2.2.2.below b7 H6.out.2.2.2.lt)))
      clear H6 b7
      obtain ⟨⟨y0, y1⟩, -⟩ := H7.out.2.2.c2
      go_wp2_with fail
      clear y0 y1
      refine (htx _ H7.out.1 (Utf8Tabs_below HT.out H7.out.2.1)).mono ?_
      rintro r w8 ⟨rfl, b8⟩
      have B8 := H7.out.2.1.trans (b8.mono H7.out.2.1.size)
      have hwk := works_any w8 (Utf8Tabs_below HT.out B8)
      have HB8 := Lib.hid B8
      clear H7 b8 B8 htx
      go_wp2_with fail
      refine hwk.mono ?_
      rintro r w9 ⟨rfl, b9⟩
      have B9 := HB8.out.trans (b9.mono HB8.out.size)
      clear b9
      go_wp2_with fail
      go_ret
      exact ⟨rfl, B9⟩
    · obtain ⟨re, hre⟩ : ∃ re, rightE l = re := ⟨_, rfl⟩
      rw [hre] at hr hrt
      have k5 : (re == 0) = false := beq_eq_false_iff_ne.2 hr
      clear hre hr
      go_enter Tryd.func5, Tryd.ntmps5
      go_wp2_with fail
      refine hgr.mono ?_
      rintro r w' ⟨rfl, rfl⟩
      go_wp2_with fail
      refine (hrt _ H.out).mono ?_
      rintro r W0 ⟨rfl, b1⟩
      have H0 := Lib.hid (And.intro (H.out.below b1 b1.size) b1)
      clear H b1 hrt
      go_wp2_with fail
      refine (of_any A cap l W0 H0.out.1 hl1 hs).mono ?_
      rintro r w3 ⟨A3, c3, m3, rfl, g3, o3, n3, b3⟩
      rw [HE.out]
      have H3 := Lib.hid (And.intro (H0.out.1.below b3 b3.size) (And.intro g3 (H0.out.2.trans (b3.mono H0.out.2.size))))
      have O3 := Lib.hid (And.intro o3 n3)
      clear H0 g3 o3 n3 b3
      by_cases he : eo = 0
      case neg =>
        have k3 : (eo == 0) = false := beq_eq_false_iff_ne.2 he
        have k4 : (eo != 0) = true := by rw [bne, k3]; rfl
        obtain rfl := O3.out.2 (by rw [HE.out]; exact he)
        have hwk := works_any w3 (Utf8Tabs_below HT.out H3.out.2.2)
        clear he
        go_wp2_with fail
        refine hwk.mono ?_
        rintro r w4 ⟨rfl, b4⟩
        have B4 := H3.out.2.2.trans (b4.mono H3.out.2.2.size)
        clear b4
        go_wp2_with fail
        go_ret
        exact ⟨rfl, B4⟩
      subst he
      have hof := O3.out.1 HE.out
      have hml := hof.len
      have hm1 : m3.length ≤ 100000 := by omega
      have hms : ∀ x ∈ m3, x.1.size ≤ maxLen ∧ x.2.size ≤ maxLen := fun x hx => hs x ((hof.mem x).1 hx).1
      have HR := Lib.hid (of_right HE.out hof)
      have HB := Lib.hid (take_back a b HE.out)
      have htz : (txt (ltext l)).size = (ltext l).length := by rw [size_list, txt_list]
      have htl := ltext_len hsm
      have htx : ∀ w (h : IsLab w w.heap.size A l) (hT : Lib.Utf8Tabs 0 1 w), _ := fun w h hT => ltext_any A cap l w h hsm hT
      obtain ⟨T, hTt⟩ : ∃ T, txt (ltext l) = T := ⟨_, rfl⟩
      rw [hTt, ← htz, hTt] at HB
      rw [hTt] at htz
      simp only [hTt] at htx
      rw [← htz] at htl
      clear hof O3 HE hTt htz
      have hz1 : (a ++ T).size = a.size + T.size := ByteArray.size_append
      have hz2 : (a ++ T ++ b).size = a.size + T.size + b.size := by rw [ByteArray.size_append, ByteArray.size_append]
      have hz3 : a.size + T.size ≤ maxLen := by unfold maxLen; omega
      have hz4 : a.size + T.size + b.size ≤ maxLen := by unfold maxLen; omega
      go_wp2_with fail
      refine (htx _ H3.out.1 (Utf8Tabs_below HT.out H3.out.2.2)).mono ?_
      rintro r w4 ⟨rfl, b4⟩
      have H4 := Lib.hid (And.intro (H3.out.1.below b4 b4.size) (And.intro (H3.out.2.1.below b4 b4.size) (H3.out.2.2.trans (b4.mono H3.out.2.2.size))))
      clear H3 b4
      go_wp2_with fail
      have wpT : IntKind.i64.wrap ((a.size : Int) + (T.size : Int)) = ((a.size + T.size : Nat) : Int) := by rw [IntWalk.i64_in _ (by omega)]; omega
      obtain ⟨S, hS⟩ : ∃ S, a ++ T ++ b = S := ⟨_, rfl⟩
      rw [hS] at HB ⊢
      have hSz : S.size ≤ 1000000 := by rw [← hS, hz2]; omega
      clear hS hz1 hz2 hz3 hz4
      have hta := take_any S (a.size : Int) w4 hSz (Utf8Tabs_below HT.out H4.out.2.2)
      unfold TakeTells at hta
      rw [HB.out] at hta
      simp only [fltV] at hta
      refine hta.mono ?_
      rintro r w5 ⟨A5, c5, rfl, hl5, -, b5⟩
      have hal := (Below.refl w5.heap.size w5).alloc (Nat.le_refl _) (.cells #[.int .i64 (0 : Nat), .int .i64 (0 : Nat)] 33)
      have bb := b5.trans (hal.mono b5.size)
      have H5 := Lib.hid (And.intro (H4.out.1.below bb bb.size) (And.intro (H4.out.2.1.below bb bb.size) (And.intro (H4.out.2.2.trans (bb.mono H4.out.2.2.size)) (And.intro (hl5.below hal hal.size) (Blk.new w5 33 #[.int .i64 (0 : Nat), .int .i64 (0 : Nat)])))))
      clear H4 hl5 hal bb b5 hta
      go_wp2_with fail
      generalize w5.alloc (.cells #[.int .i64 (0 : Nat), .int .i64 (0 : Nat)] 33) = W5 at *
      refine (right_any A3 c3 m3 W5 H5.out.2.1 hm1 hms).mono ?_
      rintro r w6 ⟨rfl, b6⟩
      rw [HR.out]
      have H6 := Lib.hid (And.intro (H5.out.1.below b6 b6.size) (And.intro (H5.out.2.2.1.trans (b6.mono H5.out.2.2.1.size)) (And.intro (H5.out.2.2.2.1.below b6 b6.size) (H5.out.2.2.2.2.below b6 H5.out.2.2.2.2.lt))))
      clear H5 b6 HR
      go_wp2_with fail
      refine (same_any A5 A c5 cap l l w6 H6.out.2.2.1 H6.out.1 hl1 hl1).mono ?_
      rintro r w7 ⟨rfl, b7⟩
      rw [decide_eq_true rfl]
      have H7 := Lib.hid (And.intro (H6.out.1.below b7 b7.size) (And.intro (H6.out.2.1.trans (b7.mono H6.out.2.1.size)) (H6.out.2.2.2.below b7 H6.out.2.2.2.lt)))
      clear H6 b7
      obtain ⟨⟨y0, y1⟩, -⟩ := H7.out.2.2.c2
      go_wp2_with fail
      clear y0 y1
      refine (htx _ H7.out.1 (Utf8Tabs_below HT.out H7.out.2.1)).mono ?_
      rintro r w8 ⟨rfl, b8⟩
      have B8 := H7.out.2.1.trans (b8.mono H7.out.2.1.size)
      have hwk := works_any w8 (Utf8Tabs_below HT.out B8)
      have HB8 := Lib.hid B8
      clear H7 b8 B8 htx
      go_wp2_with fail
      refine hwk.mono ?_
      rintro r w9 ⟨rfl, b9⟩
      have B9 := HB8.out.trans (b9.mono HB8.out.size)
      clear b9
      go_wp2_with fail
      go_ret
      exact ⟨rfl, B9⟩

namespace labelsBackW
set_option maxRecDepth 100000 in
theorem walkRaw {H : Type} (enc : TypeId × Value → H) (v0 : Value) (a1 a2 : ByteArray) (W : World) {base : Nat} {d0 : DataW H} {p0 : List MemPlace}
    (wv0 : Value.okWide Tryd.prog W .any base 22 v0) (h0 : DataW.Trod enc Tryd.prog W 0 (fun _ => true) true 22 v0 d0 p0) (_lt0 : ∀ x ∈ p0, x.block < W.heap.size)
    (w1 : a1.size ≤ maxLen) (w2 : a2.size ≤ maxLen) (hL : laidMet Tryd.prog Rows.labelsBackRow.laid W) :
    Calls Tryd.prog 5 #[v0, .string a1, .string a2] W fun e w' => e = .returned (.bool true) ∧ Below W.heap.size W w' := by
  obtain ⟨a0, len0, cap0, rfl⟩ := okWide_slice Tryd.underlying22 wv0
  have hlen := labs_len h0
  obtain ⟨l, rfl, hl, hs⟩ := isLab_of h0
  exact law_lback a0 cap0 l a1 a2 W hl hlen hs w1 w2 (tabs_in hL rfl)
end labelsBackW
end Go.Proofs.YtgdfklgbdfpinaaDoor
