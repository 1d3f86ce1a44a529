/-
  LabelsTexts: the walk of the law. Conditions: the labels and the text lie as Go's; the tables of unicode/utf8 lie as laid.
-/
import Derived.Test.YtgdfklgbdfpinaaDoorLbMakes
namespace Go.Proofs.YtgdfklgbdfpinaaDoor
set_option linter.unusedVariables false
set_option linter.unusedSimpArgs false
open Go.RowKit Go.Sort Go.ChangeShapes Go.WideShapes Go.ChangeAt

theorem parseR_len (s : ByteArray) : (parseR s).1.length ≤ 32 := by
  have := (takeR_ok s 0).2.2
  unfold parseR
  split
  · simp
  · exact this

set_option maxHeartbeats 8000000 in
set_option maxRecDepth 1000000 in
theorem law_ltexts (A : Option Addr) (cap : Nat) (l : List Lab) (s : ByteArray) (q : Int) (w : World) (h : IsLab w w.heap.size A l) (hlen : l.length ≤ maxLen) (hsz : s.size ≤ maxLen) (hT : Lib.Utf8Tabs 0 1 w) :
    Calls Tryd.prog 4 #[.slice A l.length cap, .string s, .int .i64 q] w fun e w' => e = .returned (.bool true) ∧ Below w.heap.size w w' := by
  have HT := Lib.hid hT
  cases hg : greatB l with
  | true =>
    have hgr := great_lit A cap l w true h hlen hg
    have hwk := works_any w hT
    clear hg hT h
    go_enter Tryd.func4, Tryd.ntmps4
    go_wp2_with fail
    refine hgr.mono ?_
    rintro r w' ⟨rfl, rfl⟩
    go_wp2_with fail
    refine hwk.mono ?_
    rintro r w1 ⟨rfl, b1⟩
    go_wp2_with fail
    go_ret
    exact ⟨rfl, b1⟩
  | false =>
    have hgr := great_lit A cap l w false h hlen hg
    have hsm := greatB_small hg
    by_cases h600 : 600 < s.size
    · have k1 : decide (600 < (s.size : Int)) = true := decide_eq_true (by omega)
      have hwk := works_any w hT
      clear hg hT h h600
      go_enter Tryd.func4, Tryd.ntmps4
      go_wp2_with fail
      refine hgr.mono ?_
      rintro r w' ⟨rfl, rfl⟩
      go_wp2_with fail
      refine hwk.mono ?_
      rintro r w1 ⟨rfl, b1⟩
      go_wp2_with fail
      go_ret
      exact ⟨rfl, b1⟩
    have k1 : decide (600 < (s.size : Int)) = false := decide_eq_false (by omega)
    have hs1 : s.size ≤ 1000000 := by omega
    have hpl := parseR_len s
    have htl := (takeR_ok s q).2.2
    have hpa : ∀ w (hT : Lib.Utf8Tabs 0 1 w), _ := fun w hT => parse_any s w hs1 hT
    have hrpa : ∀ w, _ := fun w => rparse_any s w hs1
    have hta : ∀ w (hT : Lib.Utf8Tabs 0 1 w), _ := fun w hT => take_any s q w hs1 hT
    have hrta : ∀ w, _ := fun w => rtake_any s q w hs1
    unfold ParseTells at hpa hrpa
    unfold TakeTells at hta hrta
    obtain ⟨⟨pl, pe, pa⟩, hp⟩ : ∃ r, parseR s = r := ⟨_, rfl⟩
    obtain ⟨⟨tl, tn, te, ta⟩, ht⟩ : ∃ r, takeR s q = r := ⟨_, rfl⟩
    simp only [hp, ht, fltV] at hpa hrpa hta hrta hpl htl
    have hpl1 : pl.length ≤ 100000 := by omega
    have htl1 : tl.length ≤ 100000 := by omega
    have H := Lib.hid h
    clear hg hT h hp ht h600
    go_enter Tryd.func4, Tryd.ntmps4
    go_wp2_with fail
    refine hgr.mono ?_
    rintro r w' ⟨rfl, rfl⟩
    have H0 := Lib.hid (And.intro (Below.refl w'.heap.size w') H.out)
    go_wp2_with fail
    refine (hpa _ (Utf8Tabs_below HT.out H0.out.1)).mono ?_
    rintro r w1 ⟨A1, c1, rfl, hl, b⟩
    have hal := (Below.refl w1.heap.size w1).alloc (Nat.le_refl _) (.cells #[.int .i64 pe, .int .i64 pa] 33)
    have bb := b.trans (hal.mono b.size)
    have H1 := Lib.hid (And.intro (H0.out.1.trans (bb.mono H0.out.1.size)) (And.intro (H0.out.2.below bb bb.size) (And.intro (hl.below hal hal.size) (Blk.new w1 33 #[.int .i64 pe, .int .i64 pa]))))
    have B1 := H1.out.1
    clear H0 hl b bb hal
    go_wp2_with fail
    generalize w1.alloc (.cells #[.int .i64 pe, .int .i64 pa] 33) = W1 at *
    refine (hrpa _).mono ?_
    rintro r w2 ⟨A2, c2, rfl, hl, b⟩
    have hal := (Below.refl w2.heap.size w2).alloc (Nat.le_refl _) (.cells #[.int .i64 pe, .int .i64 pa] 33)
    have bb := b.trans (hal.mono b.size)
    have H2 := Lib.hid (And.intro (H1.out.1.trans (bb.mono H1.out.1.size)) (And.intro (H1.out.2.1.below bb bb.size) (And.intro (H1.out.2.2.1.below bb bb.size) (And.intro (H1.out.2.2.2.below bb H1.out.2.2.2.lt) (And.intro (hl.below hal hal.size) (Blk.new w2 33 #[.int .i64 pe, .int .i64 pa]))))))
    have B2 := H2.out.1
    clear H1 hl b bb hal
    clear B1
    go_wp2_with fail
    generalize w2.alloc (.cells #[.int .i64 pe, .int .i64 pa] 33) = W2 at *
    refine (hta _ (Utf8Tabs_below HT.out H2.out.1)).mono ?_
    rintro r w3 ⟨A3, c3, rfl, hl, -, b⟩
    have hal := (Below.refl w3.heap.size w3).alloc (Nat.le_refl _) (.cells #[.int .i64 te, .int .i64 ta] 33)
    have bb := b.trans (hal.mono b.size)
    have H3 := Lib.hid (And.intro (H2.out.1.trans (bb.mono H2.out.1.size)) (And.intro (H2.out.2.1.below bb bb.size) (And.intro (H2.out.2.2.1.below bb bb.size) (And.intro (H2.out.2.2.2.1.below bb H2.out.2.2.2.1.lt) (And.intro (H2.out.2.2.2.2.1.below bb bb.size) (And.intro (H2.out.2.2.2.2.2.below bb H2.out.2.2.2.2.2.lt) (And.intro (hl.below hal hal.size) (Blk.new w3 33 #[.int .i64 te, .int .i64 ta]))))))))
    have B3 := H3.out.1
    clear H2 hl b bb hal
    clear B2
    go_wp2_with fail
    generalize w3.alloc (.cells #[.int .i64 te, .int .i64 ta] 33) = W3 at *
    refine (hrta _).mono ?_
    rintro r w4 ⟨A4, c4, rfl, hl, -, b⟩
    have hal := (Below.refl w4.heap.size w4).alloc (Nat.le_refl _) (.cells #[.int .i64 te, .int .i64 ta] 33)
    have bb := b.trans (hal.mono b.size)
    have H4 := Lib.hid (And.intro (H3.out.1.trans (bb.mono H3.out.1.size)) (And.intro (H3.out.2.1.below bb bb.size) (And.intro (H3.out.2.2.1.below bb bb.size) (And.intro (H3.out.2.2.2.1.below bb H3.out.2.2.2.1.lt) (And.intro (H3.out.2.2.2.2.1.below bb bb.size) (And.intro (H3.out.2.2.2.2.2.1.below bb H3.out.2.2.2.2.2.1.lt) (And.intro (H3.out.2.2.2.2.2.2.1.below bb bb.size) (And.intro (H3.out.2.2.2.2.2.2.2.below bb H3.out.2.2.2.2.2.2.2.lt) (And.intro (hl.below hal hal.size) (Blk.new w4 33 #[.int .i64 te, .int .i64 ta]))))))))))
    have B4 := H4.out.1
    clear H3 hl b bb hal
    clear B3
    go_wp2_with fail
    generalize w4.alloc (.cells #[.int .i64 te, .int .i64 ta] 33) = W4 at *
    clear B4 hpa hrpa hta hrta
    refine (ltext_any A cap l W4 H4.out.2.1 hsm (Utf8Tabs_below HT.out H4.out.1)).mono ?_
    rintro r w5 ⟨rfl, b⟩
    have H5 := Lib.hid (And.intro (H4.out.1.trans (b.mono H4.out.1.size)) (And.intro (H4.out.2.1.below b b.size) (And.intro (H4.out.2.2.1.below b b.size) (And.intro (H4.out.2.2.2.1.below b H4.out.2.2.2.1.lt) (And.intro (H4.out.2.2.2.2.1.below b b.size) (And.intro (H4.out.2.2.2.2.2.1.below b H4.out.2.2.2.2.2.1.lt) (And.intro (H4.out.2.2.2.2.2.2.1.below b b.size) (And.intro (H4.out.2.2.2.2.2.2.2.1.below b H4.out.2.2.2.2.2.2.2.1.lt) (And.intro (H4.out.2.2.2.2.2.2.2.2.1.below b b.size) (H4.out.2.2.2.2.2.2.2.2.2.below b H4.out.2.2.2.2.2.2.2.2.2.lt))))))))))
    clear H4 b
    go_wp2_with fail
    refine (rltext_any A cap l w5 H5.out.2.1 hsm).mono ?_
    rintro r w6 ⟨rfl, b⟩
    have H6 := Lib.hid (And.intro (H5.out.1.trans (b.mono H5.out.1.size)) (And.intro (H5.out.2.1.below b b.size) (And.intro (H5.out.2.2.1.below b b.size) (And.intro (H5.out.2.2.2.1.below b H5.out.2.2.2.1.lt) (And.intro (H5.out.2.2.2.2.1.below b b.size) (And.intro (H5.out.2.2.2.2.2.1.below b H5.out.2.2.2.2.2.1.lt) (And.intro (H5.out.2.2.2.2.2.2.1.below b b.size) (And.intro (H5.out.2.2.2.2.2.2.2.1.below b H5.out.2.2.2.2.2.2.2.1.lt) (And.intro (H5.out.2.2.2.2.2.2.2.2.1.below b b.size) (H5.out.2.2.2.2.2.2.2.2.2.below b H5.out.2.2.2.2.2.2.2.2.2.lt))))))))))
    clear H5 b
    obtain ⟨T, hTt⟩ : ∃ T, txt (ltext l) = T := ⟨_, rfl⟩
    simp only [hTt]
    clear hTt
    go_wp2_with fail
    refine (same_any A1 A2 c1 c2 pl pl w6 H6.out.2.2.1 H6.out.2.2.2.2.1 hpl1 hpl1).mono ?_
    rintro r w7 ⟨rfl, b⟩
    rw [decide_eq_true rfl]
    have H7 := Lib.hid (And.intro (H6.out.1.trans (b.mono H6.out.1.size)) (And.intro (H6.out.2.1.below b b.size) (And.intro (H6.out.2.2.1.below b b.size) (And.intro (H6.out.2.2.2.1.below b H6.out.2.2.2.1.lt) (And.intro (H6.out.2.2.2.2.1.below b b.size) (And.intro (H6.out.2.2.2.2.2.1.below b H6.out.2.2.2.2.2.1.lt) (And.intro (H6.out.2.2.2.2.2.2.1.below b b.size) (And.intro (H6.out.2.2.2.2.2.2.2.1.below b H6.out.2.2.2.2.2.2.2.1.lt) (And.intro (H6.out.2.2.2.2.2.2.2.2.1.below b b.size) (H6.out.2.2.2.2.2.2.2.2.2.below b H6.out.2.2.2.2.2.2.2.2.2.lt))))))))))
    clear H6 b
    obtain ⟨⟨x0, x1⟩, -⟩ := H7.out.2.2.2.1.c2
    obtain ⟨⟨y0, y1⟩, -⟩ := H7.out.2.2.2.2.2.1.c2
    go_wp2_with fail
    clear x0 x1 y0 y1
    refine (same_any A3 A4 c3 c4 tl tl w7 H7.out.2.2.2.2.2.2.1 H7.out.2.2.2.2.2.2.2.2.1 htl1 htl1).mono ?_
    rintro r w8 ⟨rfl, b⟩
    rw [decide_eq_true rfl]
    have H8 := Lib.hid (And.intro (H7.out.1.trans (b.mono H7.out.1.size)) (And.intro (H7.out.2.1.below b b.size) (And.intro (H7.out.2.2.1.below b b.size) (And.intro (H7.out.2.2.2.1.below b H7.out.2.2.2.1.lt) (And.intro (H7.out.2.2.2.2.1.below b b.size) (And.intro (H7.out.2.2.2.2.2.1.below b H7.out.2.2.2.2.2.1.lt) (And.intro (H7.out.2.2.2.2.2.2.1.below b b.size) (And.intro (H7.out.2.2.2.2.2.2.2.1.below b H7.out.2.2.2.2.2.2.2.1.lt) (And.intro (H7.out.2.2.2.2.2.2.2.2.1.below b b.size) (H7.out.2.2.2.2.2.2.2.2.2.below b H7.out.2.2.2.2.2.2.2.2.2.lt))))))))))
    clear H7 b
    obtain ⟨⟨x0, x1⟩, -⟩ := H8.out.2.2.2.2.2.2.2.1.c2
    obtain ⟨⟨y0, y1⟩, -⟩ := H8.out.2.2.2.2.2.2.2.2.2.c2
    go_wp2_with fail
    clear x0 x1 y0 y1
    refine (works_any w8 (Utf8Tabs_below HT.out H8.out.1)).mono ?_
    rintro r w9 ⟨rfl, b⟩
    have H9 := Lib.hid (And.intro (H8.out.1.trans (b.mono H8.out.1.size)) (And.intro (H8.out.2.1.below b b.size) (And.intro (H8.out.2.2.1.below b b.size) (And.intro (H8.out.2.2.2.1.below b H8.out.2.2.2.1.lt) (And.intro (H8.out.2.2.2.2.1.below b b.size) (And.intro (H8.out.2.2.2.2.2.1.below b H8.out.2.2.2.2.2.1.lt) (And.intro (H8.out.2.2.2.2.2.2.1.below b b.size) (And.intro (H8.out.2.2.2.2.2.2.2.1.below b H8.out.2.2.2.2.2.2.2.1.lt) (And.intro (H8.out.2.2.2.2.2.2.2.2.1.below b b.size) (H8.out.2.2.2.2.2.2.2.2.2.below b H8.out.2.2.2.2.2.2.2.2.2.lt))))))))))
    clear H8 b
    go_wp2_with fail
    go_ret
    exact ⟨rfl, H9.out.1⟩

namespace labelsTextsW
set_option maxRecDepth 100000 in
theorem walkRaw {H : Type} (enc : TypeId × Value → H) (v0 : Value) (a1 : ByteArray) (a2 : Int) (W : World) {base : Nat} {d0 : DataW H} {p0 : List MemPlace}
    (wv0 : Value.okWide Tryd.prog W .any base 22 v0) (h0 : DataW.Trod enc Tryd.prog W 0 (fun _ => true) true 22 v0 d0 p0) (_lt0 : ∀ x ∈ p0, x.block < W.heap.size)
    (w1 : a1.size ≤ maxLen) (w2 : (Lit.int .i64 a2).wf = true) (hL : laidMet Tryd.prog Rows.labelsTextsRow.laid W) :
    Calls Tryd.prog 4 #[v0, .string a1, .int .i64 a2] W fun e w' => e = .returned (.bool true) ∧ Below W.heap.size W w' := by
  obtain ⟨a0, len0, cap0, rfl⟩ := okWide_slice Tryd.underlying22 wv0
  have hlen := labs_len h0
  obtain ⟨l, rfl, hl, hs⟩ := isLab_of h0
  exact law_ltexts a0 cap0 l a1 a2 W hl hlen w1 (tabs_in hL rfl)
end labelsTextsW
end Go.Proofs.YtgdfklgbdfpinaaDoor
