/-
  LabelsKeep: the walk of the law. Conditions: the labels lie as Go's; the tables of unicode/utf8 lie as laid.
-/
import Derived.Test.YtgdfklgbdfpinaaDoorLbKeepLaw
namespace Go.Proofs.YtgdfklgbdfpinaaDoor
set_option linter.unusedVariables false
set_option linter.unusedSimpArgs false
open Go.RowKit Go.Sort Go.ChangeShapes Go.WideShapes Go.ChangeAt

theorem get_lit (A : Option Addr) (cap : Nat) (l : List Lab) (name v : ByteArray) (w : World) (h : IsLab w w.heap.size A l) (hlen : l.length ≤ 100000) (hv : getL l name = v) :
    Calls Tryd.prog 13 #[.slice A l.length cap, .string name] w fun e w' => e = .returned (.string v) ∧ Below w.heap.size w w' := by rw [← hv]; exact get_any A cap l name w h hlen

set_option maxHeartbeats 8000000 in
set_option maxRecDepth 1000000 in
theorem law_keep (A : Option Addr) (cap : Nat) (l : List Lab) (name : ByteArray) (w : World) (h : IsLab w w.heap.size A l) (hlen : l.length ≤ maxLen) (hs : ∀ x ∈ l, x.1.size ≤ maxLen ∧ x.2.size ≤ maxLen) (hT : Lib.Utf8Tabs 0 1 w) :
    Calls Tryd.prog 6 #[.slice A l.length cap, .string name] w fun e w' => e = .returned (.bool true) ∧ Below w.heap.size w w' := by
  have HT := Lib.hid hT
  cases hg : greatB l with
  | true =>
    have hgr := great_lit A cap l w true h hlen hg
    have hwk := works_any w hT
    clear hg hT h
    go_enter Tryd.func6, Tryd.ntmps6
    go_wp2_with fail
    refine hgr.mono ?_
    rintro r w' ⟨rfl, rfl⟩
    go_wp2_with fail
    refine hwk.mono ?_
    rintro r w1 ⟨rfl, b1⟩
    go_wp2_with fail
    go_ret
    exact ⟨rfl, b1⟩
  | false =>
    have hgr := great_lit A cap l w false h hlen hg
    have hsm := greatB_small hg
    have hl40 := hsm.1
    have hl1 : l.length ≤ 100000 := by omega
    have H := Lib.hid h
    obtain ⟨eo, heo⟩ : ∃ eo, ofErr l = eo := ⟨_, rfl⟩
    have HE := Lib.hid heo
    clear hg hT h heo
    go_enter Tryd.func6, Tryd.ntmps6
    go_wp2_with fail
    refine hgr.mono ?_
    rintro r w' ⟨rfl, rfl⟩
    go_wp2_with fail
    refine (of_any A cap l w' H.out hl1 hs).mono ?_
    rintro r w1 ⟨A1, c1, m, rfl, g1, o1, n1, b1⟩
    rw [HE.out]
    have H1 := Lib.hid (And.intro (H.out.below b1 b1.size) (And.intro g1 b1))
    have O1 := Lib.hid o1
    clear H g1 o1 n1 b1
    by_cases he : eo = 0
    case neg =>
      have k1 : (eo == 0) = false := beq_eq_false_iff_ne.2 he
      have k2 : (eo != 0) = true := by rw [bne, k1]; rfl
      have hwk := works_any w1 (Utf8Tabs_below HT.out H1.out.2.2)
      clear he
      go_wp2_with fail
      refine hwk.mono ?_
      rintro r w2 ⟨rfl, b2⟩
      have B2 := H1.out.2.2.trans (b2.mono H1.out.2.2.size)
      clear b2
      go_wp2_with fail
      go_ret
      exact ⟨rfl, B2⟩
    subst he
    have hof := O1.out HE.out
    have hml := hof.len
    have hm1 : m.length ≤ 100000 := by omega
    have HK := Lib.hid (And.intro HE.out hof)
    clear O1 HE hof
    go_wp2_with fail
    go_loopw [7] (fun c wr => ∃ (i : Nat), i ≤ l.length ∧ c = .int .i64 i ∧ Below w1.heap.size w1 wr) (fun c _ => l.length - (intOf c).toNat)
    case atStart => exact ⟨0, by omega, rfl, Below.refl _ _⟩
    case round =>
      obtain ⟨i, hi, rfl, hb⟩ := hrel
      by_cases hlt : i < l.length
      · obtain ⟨b, off, ⟨nm1, vl⟩, rfl, hbB, hx, hcell⟩ := H1.out.1.at_ hlt
        have hkeep := keep_all HK.out.1 HK.out.2 (List.mem_of_getElem? hx)
        simp only at hkeep
        have G : ∀ d os, Below w1.heap.size w1 (Sort.grow (redrawn wr d) os) := fun d os => hb.trans ((below_regrown wr d os).mono hb.size)
        have m0 := fun d os => (hcell _ (G d os)).1
        have m1 := fun d os => (hcell _ (G d os)).2
        simp only at m0 m1
        have hget : ∀ d os, _ := fun d os => get_lit A1 c1 m nm1 vl (Sort.grow (redrawn wr d) os) (H1.out.2.1.below (G d os) (G d os).size) hm1 hkeep
        have HX := Lib.hid hx
        clear hx hcell hkeep G
        go_wp2_with fail
        refine wp_region_quiet_below (by kernel_rfl) (by kernel_rfl) ?_
        repeat (go_big_quiet_step ((go_at_call 13; exact Calls.regrown_of (hget _ _))))
        refine wpQuiet_nil ?_
        intro _ hw'
        obtain ⟨⟨dq, osq⟩, hw''⟩ := hw'
        subst hw''
        have B2 : Below w1.heap.size w1 (grow (redrawn wr dq) osq) := hb.trans ((below_regrown wr dq osq).mono hb.size)
        clear m0 m1 hget
        generalize grow (redrawn wr dq) osq = w2 at *
        go_wp2_with fail
        go_roundw
        case rel => exact ⟨i + 1, by omega, by go_num, B2⟩
        case measure => simp [intOf]; omega
      · obtain rfl : i = l.length := by omega
        have hkg := keep_get (ofErr_ok HK.out.1).2.2 HK.out.2 name
        obtain ⟨v, hv⟩ : ∃ v, getL l name = v := ⟨_, rfl⟩
        rw [hv] at hkg
        have h1 := get_lit A1 c1 m name v wr (H1.out.2.1.below hb hb.size) hm1 hkg
        have h2 : ∀ w (h : IsLab w w.heap.size A l), _ := fun w h => get_lit A cap l name v w h hl1 hv
        have HL2 := Lib.hid (H1.out.1.below hb hb.size)
        have HB := Lib.hid (H1.out.2.2.trans (hb.mono H1.out.2.2.size))
        have k5 : decide ((m.length : Int) ≤ (l.length : Int)) = true := decide_eq_true (by omega)
        have k6 : decide (m.length ≤ l.length) = true := decide_eq_true (by omega)
        clear hkg hv hb
        go_wp2_with fail
        refine h1.mono ?_
        rintro r w3 ⟨rfl, b3⟩
        have H3 := Lib.hid (And.intro (HL2.out.below b3 b3.size) (HB.out.trans (b3.mono HB.out.size)))
        clear h1 b3 HL2 HB
        go_wp2_with fail
        refine (h2 _ H3.out.1).mono ?_
        rintro r w4 ⟨rfl, b4⟩
        have B4 := H3.out.2.trans (b4.mono H3.out.2.size)
        have hwk := works_any w4 (Utf8Tabs_below HT.out B4)
        have HB4 := Lib.hid B4
        clear h2 b4 H3 B4
        go_wp2_with fail
        refine hwk.mono ?_
        rintro r w5 ⟨rfl, b5⟩
        have B5 := HB4.out.trans (b5.mono HB4.out.size)
        clear b5
        go_wp2_with fail
        go_ret
        exact ⟨rfl, B5⟩

namespace labelsKeepW
set_option maxRecDepth 100000 in
theorem walkRaw {H : Type} (enc : TypeId × Value → H) (v0 : Value) (a1 : ByteArray) (W : World) {base : Nat} {d0 : DataW H} {p0 : List MemPlace}
    (wv0 : Value.okWide Tryd.prog W .any base 22 v0) (h0 : DataW.Trod enc Tryd.prog W 0 (fun _ => true) true 22 v0 d0 p0) (_lt0 : ∀ x ∈ p0, x.block < W.heap.size)
    (w1 : a1.size ≤ maxLen) (hL : laidMet Tryd.prog Rows.labelsKeepRow.laid W) :
    Calls Tryd.prog 6 #[v0, .string a1] W fun e w' => e = .returned (.bool true) ∧ Below W.heap.size W w' := by
  obtain ⟨a0, len0, cap0, rfl⟩ := okWide_slice Tryd.underlying22 wv0
  have hlen := labs_len h0
  obtain ⟨l, rfl, hl, hs⟩ := isLab_of h0
  exact law_keep a0 cap0 l a1 W hl hlen hs (tabs_in hL rfl)
end labelsKeepW
end Go.Proofs.YtgdfklgbdfpinaaDoor
