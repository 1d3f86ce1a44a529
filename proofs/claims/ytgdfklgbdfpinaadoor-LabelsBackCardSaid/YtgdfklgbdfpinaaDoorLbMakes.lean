/-
  LabelsMakes: the walk of the law. Conditions: the labels lie as Go's; the tables of unicode/utf8 lie as laid.
-/
import Derived.Test.YtgdfklgbdfpinaaDoorLbOpen
namespace Go.Proofs.YtgdfklgbdfpinaaDoor
set_option linter.unusedVariables false
set_option linter.unusedSimpArgs false
open Go.RowKit Go.Sort Go.ChangeShapes Go.WideShapes Go.ChangeAt

theorem nodup_le {α : Type} [DecidableEq α] : ∀ (a l : List α), a.Nodup → (∀ x ∈ a, x ∈ l) → a.length ≤ l.length
  | [], l, _, _ => Nat.zero_le _
  | x :: a, l, hn, hs => by
    have hx := hs x (by simp)
    have hn' := List.nodup_cons.1 hn
    have ih := nodup_le a (l.erase x) hn'.2 fun y hy => (List.mem_erase_of_ne (fun e => hn'.1 (by rw [← e]; exact hy))).2 (hs y (by simp [hy]))
    rw [List.length_erase_of_mem hx] at ih
    have := List.length_pos_of_mem hx
    simp only [List.length_cons]
    omega
theorem IsOf.len {l a : List Lab} (h : IsOf l a) : a.length ≤ l.length :=
  nodup_le a l (h.sorted.imp fun {x y} hxy e => by subst e; exact List.lt_irrefl _ hxy) fun x hx => ((h.mem x).1 hx).1
theorem out_same {l a b : List Lab} (ha : ofErr l = 0 → IsOf l a) (ha' : ofErr l ≠ 0 → a = []) (hb : ofErr l = 0 → IsOf l b) (hb' : ofErr l ≠ 0 → b = []) : a = b ∧ a.length ≤ l.length := by
  by_cases h : ofErr l = 0
  · exact ⟨(ha h).unique (hb h), (ha h).len⟩
  · rw [ha' h, hb' h]; exact ⟨rfl, by simp⟩
set_option maxHeartbeats 4000000 in
set_option maxRecDepth 1000000 in
theorem law_makes (A : Option Addr) (cap : Nat) (l : List Lab) (name : ByteArray) (w : World) (h : IsLab w w.heap.size A l) (hlen : l.length ≤ maxLen) (hs : ∀ x ∈ l, x.1.size ≤ maxLen ∧ x.2.size ≤ maxLen) (hT : Lib.Utf8Tabs 0 1 w) :
    Calls Tryd.prog 3 #[.slice A l.length cap, .string name] w fun e w' => e = .returned (.bool true) ∧ Below w.heap.size w w' := by
  have HT := Lib.hid hT
  cases hg : greatB l with
  | true =>
    have hgr := great_lit A cap l w true h hlen hg
    have hwk := works_any w hT
    clear hg hT h
    go_enter Tryd.func3, Tryd.ntmps3
    go_wp2_with fail
    refine hgr.mono ?_
    rintro r w' ⟨rfl, rfl⟩
    go_wp2_with fail
    refine hwk.mono ?_
    rintro r w1 ⟨rfl, b1⟩
    go_wp2_with fail
    go_ret
    exact ⟨rfl, b1⟩
  | false =>
    have hgr := great_lit A cap l w false h hlen hg
    have hsm := greatB_small hg
    have hl40 := hsm.1
    have hl1 : l.length ≤ 100000 := by omega
    have H := Lib.hid h
    clear hg hT h
    go_enter Tryd.func3, Tryd.ntmps3
    go_wp2_with fail
    refine hgr.mono ?_
    rintro r w' ⟨rfl, rfl⟩
    go_wp2_with fail
    refine (of_any A cap l w' H.out hl1 hs).mono ?_
    rintro r w1 ⟨A1, c1, m1, rfl, g1, o1, n1, b1⟩
    have H1 := Lib.hid (And.intro (H.out.below b1 b1.size) (And.intro g1 b1))
    have O1 := Lib.hid (And.intro o1 n1)
    clear H g1 o1 n1 b1
    go_wp2_with fail
    refine (refof_any A cap l w1 H1.out.1 hl1 hs).mono ?_
    rintro r w2 ⟨A2, c2, m2, rfl, g2, o2, n2, b2⟩
    obtain ⟨hmm, hml⟩ := out_same O1.out.1 O1.out.2 o2 n2
    subst hmm
    have H2 := Lib.hid (And.intro (H1.out.1.below b2 b2.size) (And.intro (H1.out.2.1.below b2 b2.size) (And.intro g2 (H1.out.2.2.trans (b2.mono H1.out.2.2.size)))))
    have hm1 : m1.length ≤ 100000 := by omega
    clear H1 O1 g2 o2 n2 b2
    obtain ⟨eo, heo⟩ : ∃ eo, ofErr l = eo := ⟨_, rfl⟩
    simp only [heo]
    clear heo
    go_wp2_with fail
    refine (right_any A cap l w2 H2.out.1 hl1 hs).mono ?_
    rintro r w3 ⟨rfl, b3⟩
    have H3 := Lib.hid (And.intro (H2.out.1.below b3 b3.size) (And.intro (H2.out.2.1.below b3 b3.size) (And.intro (H2.out.2.2.1.below b3 b3.size) (H2.out.2.2.2.trans (b3.mono H2.out.2.2.2.size)))))
    clear H2 b3
    go_wp2_with fail
    refine (refright_any A cap l w3 H3.out.1 hl1 hs).mono ?_
    rintro r w4 ⟨rfl, b4⟩
    have H4 := Lib.hid (And.intro (H3.out.1.below b4 b4.size) (And.intro (H3.out.2.1.below b4 b4.size) (And.intro (H3.out.2.2.1.below b4 b4.size) (H3.out.2.2.2.trans (b4.mono H3.out.2.2.2.size)))))
    clear H3 b4
    go_wp2_with fail
    refine (get_any A cap l name w4 H4.out.1 hl1).mono ?_
    rintro r w5 ⟨rfl, b5⟩
    have H5 := Lib.hid (And.intro (H4.out.1.below b5 b5.size) (And.intro (H4.out.2.1.below b5 b5.size) (And.intro (H4.out.2.2.1.below b5 b5.size) (H4.out.2.2.2.trans (b5.mono H4.out.2.2.2.size)))))
    clear H4 b5
    go_wp2_with fail
    refine (refget_any A cap l name w5 H5.out.1 hl1).mono ?_
    rintro r w6 ⟨rfl, b6⟩
    have H6 := Lib.hid (And.intro (H5.out.2.1.below b6 b6.size) (And.intro (H5.out.2.2.1.below b6 b6.size) (H5.out.2.2.2.trans (b6.mono H5.out.2.2.2.size))))
    clear H5 b6
    go_wp2_with fail
    refine (same_any A1 A2 c1 c2 m1 m1 w6 H6.out.1 H6.out.2.1 hm1 hm1).mono ?_
    rintro r w7 ⟨rfl, b7⟩
    rw [decide_eq_true rfl]
    have B7 := H6.out.2.2.trans (b7.mono H6.out.2.2.size)
    have hwk := works_any w7 (Utf8Tabs_below HT.out B7)
    have HB7 := Lib.hid B7
    clear H6 b7 B7
    go_wp2_with fail
    refine hwk.mono ?_
    rintro r w8 ⟨rfl, b8⟩
    have B8 := HB7.out.trans (b8.mono HB7.out.size)
    clear b8
    go_wp2_with fail
    go_ret
    exact ⟨rfl, B8⟩

namespace labelsMakesW
set_option maxRecDepth 100000 in
theorem walkRaw {H : Type} (enc : TypeId × Value → H) (v0 : Value) (a1 : ByteArray) (W : World) {base : Nat} {d0 : DataW H} {p0 : List MemPlace}
    (wv0 : Value.okWide Tryd.prog W .any base 22 v0) (h0 : DataW.Trod enc Tryd.prog W 0 (fun _ => true) true 22 v0 d0 p0) (_lt0 : ∀ x ∈ p0, x.block < W.heap.size)
    (w1 : a1.size ≤ maxLen) (hL : laidMet Tryd.prog Rows.labelsMakesRow.laid W) :
    Calls Tryd.prog 3 #[v0, .string a1] W fun e w' => e = .returned (.bool true) ∧ Below W.heap.size W w' := by
  obtain ⟨a0, len0, cap0, rfl⟩ := okWide_slice Tryd.underlying22 wv0
  have hlen := labs_len h0
  obtain ⟨l, rfl, hl, hs⟩ := isLab_of h0
  exact law_makes a0 cap0 l a1 W hl hlen hs (tabs_in hL rfl)
end labelsMakesW
end Go.Proofs.YtgdfklgbdfpinaaDoor
