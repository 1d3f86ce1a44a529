/-
  LangOnly: the walk of the law. Conditions: the automaton lies in memory; the table of powers lies as laid.
-/
import Derived.Test.YtmmlakheimfijaaGreatDoorJLgLawPl
import Derived.Test.YtmmlakheimfijaaGreatDoorJLgWorks
import Derived.Test.YtmmlakheimfijaaGreatDoorJAuOpenT
import Derived.Test.YtmmlakheimfijaaGreatDoorJAuRefRun
import Derived.Test.YtmmlakheimfijaaGreatDoorJAuApartW
import Derived.Test.YtmmlakheimfijaaGreatDoorJDfa
namespace Go.Proofs.YtmmlakheimfijaaGreatDoor
set_option linter.unusedVariables false
set_option linter.unusedSimpArgs false
open Go.RowKit Go.Maps Go.Sort Go.ChangeShapes Go.WideShapes

theorem runD_of {D : DfaI} (hR : RightD D) (s : ByteArray) : runD D s = langD D (bytesTo s s.size) := by
  unfold runD
  rw [rightD_iff.2 hR, Bool.true_and]
/-- one text alone -/
structure OnlyF (D : DfaI) (t : List Nat) : Prop where
  r : RightD D
  b : Bytes t
  len : t.length < D.next.length
  fst : firstRes D = some t
  ali : alikeD D (wordD t) = true
  fin : finiteD D = true
  run : ∀ s : ByteArray, runD D s = (s.toList == (bsT t).toList)
  own : runD D (bsT t) = true
theorem firstRes_len {D : DfaI} (hR : RightD D) {t : List Nat} (h : firstRes D = some t) : t.length < D.next.length := by
  unfold firstRes at h
  rw [if_pos (rightD_iff.2 hR)] at h
  exact firstD_len hR h
theorem OnlyF.of {D : DfaI} {t : List Nat} (hm : D.next.length ≤ 12) (h : OnlyIs D (some t)) : OnlyF D t := by
  obtain ⟨hR, ho⟩ := h
  have hf := firstRes_only hR ho
  have hl := firstRes_len hR hf
  have hrun : ∀ s : ByteArray, runD D s = (s.toList == (bsT t).toList) := fun s => by
    have e : (s.toList == (bsT t).toList) = ((bsT (bytesTo s s.size)).toList == (bsT t).toList) := by rw [bsT_of]
    rw [e, bsT_eq (bytesTo_in s s.size) ho.1, runD_of hR, Bool.eq_iff_iff, decide_eq_true_iff]
    exact ho.2 _ (bytesTo_in s s.size)
  have hw : RightD (wordD t) := wordD_right (by omega)
  refine ⟨hR, ho.1, hl, hf, (alikeD_iff hR hw).2 fun u hu => ?_, (finiteD_lang hR).2 ho.fin, hrun, ?_⟩
  · rw [wordD_lang ho.1 hu, Bool.eq_iff_iff, decide_eq_true_iff]
    exact ho.2 u hu
  · rw [hrun]
    simp
/-- a first text, and others -/
structure MoreF (D : DfaI) (t : List Nat) : Prop where
  r : RightD D
  w : RightD (wordD t)
  b : Bytes t
  len : t.length < D.next.length
  own : langD D t = true
  not : ¬ IsOnly (langD D) t
theorem MoreF.of {D : DfaI} {t : List Nat} (hm : D.next.length ≤ 12) (h : OnlyIs D none) (hf : firstRes D = some t) : MoreF D t := by
  have hR : RightD D := by
    unfold firstRes at hf
    by_cases hr : rightD D = true
    · exact rightD_iff.1 hr
    · rw [if_neg hr] at hf
      cases hf
  have hl := firstRes_len hR hf
  have ht := firstRes_least hR hf
  exact ⟨hR, wordD_right (by omega), ht.1, hl, ht.2.1, h hR t⟩
theorem MoreF.more {D : DfaI} {t : List Nat} (h : MoreF D t) {s : ByteArray} {b : Bool} (hbt : b = true → langD D (bytesTo s s.size) ≠ langD (wordD t) (bytesTo s s.size)) (hbf : b = false → ∀ u, Bytes u → langD D u = langD (wordD t) u) : b = true ∧ runD D s = true := by
  have hb : b = true := by
    cases b with
    | true => rfl
    | false =>
      refine (h.not ⟨h.b, fun u hu => ?_⟩).elim
      rw [hbf rfl u hu, wordD_lang h.b hu, decide_eq_true_iff]
  refine ⟨hb, ?_⟩
  have h1 := hbt hb
  rw [wordD_lang h.b (bytesTo_in s s.size)] at h1
  rw [runD_of h.r]
  cases h2 : langD D (bytesTo s s.size) with
  | true => rfl
  | false =>
    rw [h2] at h1
    by_cases h3 : bytesTo s s.size = t
    · rw [h3, h.own] at h2
      cases h2
    · rw [decide_eq_false h3] at h1
      exact (h1 rfl).elim
theorem none_run {D : DfaI} (h : firstRes D = none) (s : ByteArray) : runD D s = false := by
  cases hr : rightD D with
  | false => unfold runD; rw [hr]; rfl
  | true => rw [runD_of (rightD_iff.1 hr)]; exact firstRes_none (rightD_iff.1 hr) h (bytesTo_in s s.size)
/-- a law's one automaton -/
structure OneO (w W : World) (va : Array Value) (D : DfaI) : Prop where
  a : DfaAt W (.agg va) D
  qa : Blk W w.heap.size 26 va
  T : Pow10 W
  bl : Below w.heap.size w W
section
variable {w W W' : World} {ca : Array Value} {D : DfaI}
theorem OneO.below (h : OneO w W ca D) (hb : Below W.heap.size W W') : OneO w W' ca D :=
  ⟨h.a.below hb, h.qa.below hb h.qa.lt, h.T.below hb (Nat.le_refl _), h.bl.trans (hb.mono h.bl.size)⟩
theorem OneO.mk_ (ha : DfaAt w (.agg ca) D) (hT : Pow10 w) : OneO w (w.alloc (.cells ca 26)) ca D := by
  have b0 := (Below.refl w.heap.size w).alloc (Nat.le_refl _) (.cells ca 26)
  exact ⟨ha.below b0, Blk.new w 26 _, hT.below b0 (Nat.le_refl _), b0⟩
end
/-- the law's automaton, and a word's -/
structure OneW (w W : World) (ca cc : Array Value) (p : Nat) (D E : DfaI) : Prop where
  t : OneO w W ca D
  o : DfaAt W (.agg cc) E
  q : Blk W p 26 cc
theorem OneW.below {w W W' : World} {ca cc : Array Value} {p : Nat} {D E : DfaI} (h : OneW w W ca cc p D E) (hb : Below W.heap.size W W') : OneW w W' ca cc p D E :=
  ⟨h.t.below hb, h.o.below hb, h.q.below hb h.q.lt⟩
set_option maxHeartbeats 8000000 in
set_option maxRecDepth 1000000 in
theorem law_lonly (va : Value) (s : ByteArray) (D : DfaI) (w : World) (hs : s.size ≤ maxLen) (ha : DfaAt w va D) (hD : D.In) (hT : Pow10 w) :
    Calls Tryz.prog 5 #[va, .string s] w fun e w' => e = .returned (.bool true) ∧ Below w.heap.size w w' := by
  obtain ⟨S, af, ab, an, F, B, M, cf, cb, cn, hS, hF, hB, hM, rfl⟩ := ha.form
  have hM9 := hD.many
  rw [hM] at hM9
  have hs9 : s.size ≤ 9223372036854775807 := by unfold maxLen at hs; omega
  have HI := Lib.hid (And.intro hD (And.intro hM hs))
  have h0 := OneO.mk_ ha hT
  clear ha hT hD hM hF hB hS hs
  obtain ⟨⟨y0, y1, y2, y3⟩, -⟩ := h0.qa.c4
  have H0 := Lib.hid h0
  clear h0
  go_enter Tryz.func5, Tryz.ntmps5
  go_wp2_with fail
  generalize w.alloc (.cells #[.int .i64 S, .slice af F cf, .slice ab B cb, .slice an M cn] 26) = W at *
  clear y0 y1 y2 y3
  refine (great_any _ D W H0.out.a HI.out.1).mono ?_
  rintro e w1 ⟨rfl, bx⟩
  have H1 := Lib.hid (H0.out.below bx)
  clear bx H0
  obtain ⟨⟨y0, y1, y2, y3⟩, -⟩ := H1.out.qa.c4
  cases hg1 : greatD D with
  | true =>
    clear hg1
    go_wp2_with fail
    refine (lgworks_any w1 H1.out.T).mono ?_
    rintro e w' ⟨rfl, b'⟩
    go_wp2_with fail
    go_ret
    exact ⟨rfl, H1.out.bl.trans (b'.mono H1.out.bl.size)⟩
  | false =>
  by_cases h12 : 12 < M
  · have k1 : decide (12 < (M : Int)) = true := decide_eq_true (by omega)
    go_wp2_with fail
    refine (lgworks_any w1 H1.out.T).mono ?_
    rintro e w' ⟨rfl, b'⟩
    go_wp2_with fail
    go_ret
    exact ⟨rfl, H1.out.bl.trans (b'.mono H1.out.bl.size)⟩
  have k1 : decide (12 < (M : Int)) = false := decide_eq_false (by omega)
  by_cases h13 : 40 < s.size
  · have k2 : decide (40 < (s.size : Int)) = true := decide_eq_true (by omega)
    go_wp2_with fail
    refine (lgworks_any w1 H1.out.T).mono ?_
    rintro e w' ⟨rfl, b'⟩
    go_wp2_with fail
    go_ret
    exact ⟨rfl, H1.out.bl.trans (b'.mono H1.out.bl.size)⟩
  have k2 : decide (40 < (s.size : Int)) = false := decide_eq_false (by omega)
  go_wp2_with fail
  clear y0 y1 y2 y3
  clear hg1 k1 k2
  refine (only_any _ D w1 H1.out.a HI.out.1 H1.out.T).mono ?_
  rintro e w2 ⟨o, rfl, ho, bx⟩
  unfold onlyV
  have H2 := Lib.hid (H1.out.below bx)
  clear bx H1
  obtain ⟨⟨y0, y1, y2, y3⟩, -⟩ := H2.out.qa.c4
  cases o with
  | some t =>
    have HF := Lib.hid (OnlyF.of (by rw [HI.out.2.1]; omega) ho)
    clear ho
    obtain ⟨ts, hts⟩ : ∃ ts, bsT t = ts := ⟨_, rfl⟩
    have HB := Lib.hid (And.intro (show bytesTo ts ts.size = t by rw [← hts]; exact bsT_bytes HF.out.b) (And.intro (show ts.size = t.length by rw [← hts]; exact bsT_size t) (show t.length ≤ 11 by have := HF.out.len; have := HI.out.2.1; omega)))
    have HS := Lib.hid hts
    simp only [Option.getD_some, Option.isSome_some]
    rw [hts]
    clear hts
    go_wp2_with fail
    clear y0 y1 y2 y3
    refine (lfirst_any _ D w2 H2.out.a HI.out.1).mono ?_
    rintro e w3 ⟨rfl, bx⟩
    unfold firstV
    rw [HF.out.fst]
    simp only [Option.getD_some, Option.isSome_some]
    rw [HS.out]
    have H3 := Lib.hid (H2.out.below bx)
    clear bx H2
    obtain ⟨⟨y0, y1, y2, y3⟩, -⟩ := H3.out.qa.c4
    go_wp2_with fail
    clear y0 y1 y2 y3
    have hl := HB.out.2.2
    refine (word_any ts (by rw [HB.out.2.1]; omega) w3).mono ?_
    rintro e w4 ⟨rv, rfl, ho, bx⟩
    rw [HB.out.1] at ho
    have ho' := ho.at_
    obtain ⟨S3, f3, g3, n3, F3, K3, M3, cf3, ck3, cn3, -, -, -, -, rfl⟩ := ho'.form
    have hal := (Below.refl w4.heap.size w4).alloc (Nat.le_refl _) (.cells #[.int .i64 S3, .slice f3 F3 cf3, .slice g3 K3 ck3, .slice n3 M3 cn3] 26)
    have H4 := Lib.hid (OneW.mk ((H3.out.below bx).below hal) (ho'.below hal) (Blk.new w4 26 #[.int .i64 S3, .slice f3 F3 cf3, .slice g3 K3 ck3, .slice n3 M3 cn3]))
    obtain ⟨⟨y0, y1, y2, y3⟩, -⟩ := H4.out.t.qa.c4
    clear ho ho' hal bx H3
    obtain ⟨p3, hp3⟩ : ∃ p, w4.heap.size = p := ⟨_, rfl⟩
    obtain ⟨⟨z0, z1, z2, z3⟩, -⟩ := H4.out.q.c4
    go_wp2_with fail
    generalize w4.alloc (.cells #[.int .i64 S3, .slice f3 F3 cf3, .slice g3 K3 ck3, .slice n3 M3 cn3] 26) = W4 at *
    rw [hp3] at H4
    clear hp3
    clear y0 y1 y2 y3 z0 z1 z2 z3
    have hown : runD D ts = true := by rw [← HS.out]; exact HF.out.own
    have hrun : runD D s = (s.toList == ts.toList) := by rw [← HS.out]; exact HF.out.run s
    refine (refrun_any _ ts D W4 H4.out.t.a HI.out.1 (by rw [HB.out.2.1]; unfold maxLen; omega)).mono ?_
    rintro e w5 ⟨rfl, bx⟩
    rw [hown]
    clear hown
    have H5 := Lib.hid (H4.out.below bx)
    clear bx H4
    obtain ⟨⟨y0, y1, y2, y3⟩, -⟩ := H5.out.t.qa.c4
    obtain ⟨⟨z0, z1, z2, z3⟩, -⟩ := H5.out.q.c4
    go_wp2_with fail
    clear y0 y1 y2 y3 z0 z1 z2 z3
    refine (refrun_any _ s D w5 H5.out.t.a HI.out.1 HI.out.2.2).mono ?_
    rintro e w6 ⟨rfl, bx⟩
    rw [hrun]
    clear hrun
    have H6 := Lib.hid (H5.out.below bx)
    clear bx H5
    obtain ⟨⟨y0, y1, y2, y3⟩, -⟩ := H6.out.t.qa.c4
    obtain ⟨⟨z0, z1, z2, z3⟩, -⟩ := H6.out.q.c4
    go_wp2_with fail
    clear y0 y1 y2 y3 z0 z1 z2 z3
    refine (alike_any _ _ D _ w6 H6.out.t.a H6.out.o HI.out.1 (wordD_in (by omega)) H6.out.t.T).mono ?_
    rintro e w7 ⟨rfl, bx⟩
    rw [HF.out.ali]
    have H7 := Lib.hid (H6.out.below bx)
    clear bx H6
    obtain ⟨⟨y0, y1, y2, y3⟩, -⟩ := H7.out.t.qa.c4
    obtain ⟨⟨z0, z1, z2, z3⟩, -⟩ := H7.out.q.c4
    go_wp2_with fail
    clear y0 y1 y2 y3 z0 z1 z2 z3
    refine (finite_any _ D w7 H7.out.t.a HI.out.1 H7.out.t.T).mono ?_
    rintro e w8 ⟨rfl, bx⟩
    rw [HF.out.fin]
    have H8 := Lib.hid (H7.out.below bx)
    clear bx H7
    obtain ⟨⟨y0, y1, y2, y3⟩, -⟩ := H8.out.t.qa.c4
    obtain ⟨⟨z0, z1, z2, z3⟩, -⟩ := H8.out.q.c4
    go_wp2_with fail
    clear y0 y1 y2 y3 z0 z1 z2 z3
    have HH := Lib.hid H8.out.t
    clear H8
    refine (lgworks_any w8 HH.out.T).mono ?_
    rintro e w' ⟨rfl, b'⟩
    go_wp2_with fail
    go_ret
    exact ⟨rfl, HH.out.bl.trans (b'.mono HH.out.bl.size)⟩
  | none =>
    simp only [Option.getD_none, Option.isSome_none, bsT_nil]
    go_wp2_with fail
    clear y0 y1 y2 y3
    refine (lfirst_any _ D w2 H2.out.a HI.out.1).mono ?_
    rintro e w3 ⟨rfl, bx⟩
    unfold firstV
    have H3 := Lib.hid (H2.out.below bx)
    clear bx H2
    obtain ⟨⟨y0, y1, y2, y3⟩, -⟩ := H3.out.qa.c4
    cases hf : firstRes D with
    | none =>
      have hrn := none_run hf s
      clear hf
      simp only [Option.getD_none, Option.isSome_none, bsT_nil]
      go_wp2_with fail
      clear y0 y1 y2 y3
      refine (refrun_any _ s D w3 H3.out.a HI.out.1 HI.out.2.2).mono ?_
      rintro e w4 ⟨rfl, bx⟩
      rw [hrn]
      have H4 := Lib.hid (H3.out.below bx)
      clear bx H3
      obtain ⟨⟨y0, y1, y2, y3⟩, -⟩ := H4.out.qa.c4
      go_wp2_with fail
      clear y0 y1 y2 y3
      refine (lgworks_any w4 H4.out.T).mono ?_
      rintro e w' ⟨rfl, b'⟩
      go_wp2_with fail
      go_ret
      exact ⟨rfl, H4.out.bl.trans (b'.mono H4.out.bl.size)⟩
    | some t =>
      have HF := Lib.hid (MoreF.of (by rw [HI.out.2.1]; omega) ho hf)
      clear ho hf
      obtain ⟨ts, hts⟩ : ∃ ts, bsT t = ts := ⟨_, rfl⟩
      have HB := Lib.hid (And.intro (show bytesTo ts ts.size = t by rw [← hts]; exact bsT_bytes HF.out.b) (And.intro (show ts.size = t.length by rw [← hts]; exact bsT_size t) (show t.length ≤ 11 by have := HF.out.len; have := HI.out.2.1; omega)))
      simp only [Option.getD_some, Option.isSome_some]
      rw [hts]
      clear hts
      go_wp2_with fail
      clear y0 y1 y2 y3
      have hl := HB.out.2.2
      refine (word_any ts (by rw [HB.out.2.1]; omega) w3).mono ?_
      rintro e w4 ⟨rv, rfl, ho, bx⟩
      rw [HB.out.1] at ho
      have ho' := ho.at_
      obtain ⟨S3, f3, g3, n3, F3, K3, M3, cf3, ck3, cn3, -, -, -, -, rfl⟩ := ho'.form
      have hal := (Below.refl w4.heap.size w4).alloc (Nat.le_refl _) (.cells #[.int .i64 S3, .slice f3 F3 cf3, .slice g3 K3 ck3, .slice n3 M3 cn3] 26)
      have H4 := Lib.hid (OneW.mk ((H3.out.below bx).below hal) (ho'.below hal) (Blk.new w4 26 #[.int .i64 S3, .slice f3 F3 cf3, .slice g3 K3 ck3, .slice n3 M3 cn3]))
      obtain ⟨⟨y0, y1, y2, y3⟩, -⟩ := H4.out.t.qa.c4
      clear ho ho' hal bx H3
      obtain ⟨p3, hp3⟩ : ∃ p, w4.heap.size = p := ⟨_, rfl⟩
      obtain ⟨⟨z0, z1, z2, z3⟩, -⟩ := H4.out.q.c4
      go_wp2_with fail
      generalize w4.alloc (.cells #[.int .i64 S3, .slice f3 F3 cf3, .slice g3 K3 ck3, .slice n3 M3 cn3] 26) = W4 at *
      rw [hp3] at H4
      clear hp3
      clear y0 y1 y2 y3 z0 z1 z2 z3
      refine (refdright_any _ D W4 H4.out.t.a HI.out.1).mono ?_
      rintro e w5 ⟨rfl, bx⟩
      rw [rightD_iff.2 HF.out.r]
      have H5 := Lib.hid (H4.out.below bx)
      clear bx H4
      obtain ⟨⟨y0, y1, y2, y3⟩, -⟩ := H5.out.t.qa.c4
      obtain ⟨⟨z0, z1, z2, z3⟩, -⟩ := H5.out.q.c4
      go_wp2_with fail
      clear y0 y1 y2 y3 z0 z1 z2 z3
      refine (refdright_any _ _ w5 H5.out.o (wordD_in (by omega))).mono ?_
      rintro e w6 ⟨rfl, bx⟩
      rw [rightD_iff.2 HF.out.w]
      have H6 := Lib.hid (H5.out.below bx)
      clear bx H5
      obtain ⟨⟨y0, y1, y2, y3⟩, -⟩ := H6.out.t.qa.c4
      obtain ⟨⟨z0, z1, z2, z3⟩, -⟩ := H6.out.q.c4
      go_wp2_with fail
      clear y0 y1 y2 y3 z0 z1 z2 z3
      refine (refapart_any _ _ D _ w6 H6.out.t.a H6.out.o HF.out.r HF.out.w (by rw [HI.out.2.1]; omega) (by simp [wordD]; omega)).mono ?_
      rintro e w7 ⟨s2, b2, rfl, hs2, hbt2, hbf2, bx⟩
      obtain ⟨rfl, hrun⟩ := HF.out.more hbt2 hbf2
      clear hbt2 hbf2
      have H7 := Lib.hid (H6.out.below bx)
      clear bx H6
      obtain ⟨⟨y0, y1, y2, y3⟩, -⟩ := H7.out.t.qa.c4
      obtain ⟨⟨z0, z1, z2, z3⟩, -⟩ := H7.out.q.c4
      go_wp2_with fail
      clear y0 y1 y2 y3 z0 z1 z2 z3
      refine (refrun_any _ s2 D w7 H7.out.t.a HI.out.1 (by unfold maxLen; omega)).mono ?_
      rintro e w8 ⟨rfl, bx⟩
      rw [hrun]
      clear hrun
      have H8 := Lib.hid (H7.out.below bx)
      clear bx H7
      obtain ⟨⟨y0, y1, y2, y3⟩, -⟩ := H8.out.t.qa.c4
      obtain ⟨⟨z0, z1, z2, z3⟩, -⟩ := H8.out.q.c4
      go_wp2_with fail
      clear y0 y1 y2 y3 z0 z1 z2 z3
      have HH := Lib.hid H8.out.t
      clear H8
      refine (lgworks_any w8 HH.out.T).mono ?_
      rintro e w' ⟨rfl, b'⟩
      go_wp2_with fail
      go_ret
      exact ⟨rfl, HH.out.bl.trans (b'.mono HH.out.bl.size)⟩

namespace langOnlyW
set_option maxRecDepth 100000 in
theorem walkRaw {H : Type} (enc : TypeId × Value → H) (v0 : Value) (a1 : ByteArray) (W : World) {base : Nat} {d0 : DataW H} {p0 : List MemPlace}
    (wv0 : Value.okWide Tryz.prog W .any base 26 v0) (h0 : DataW.Trod enc Tryz.prog W 0 (fun _ => true) true 26 v0 d0 p0) (_lt0 : ∀ x ∈ p0, x.block < W.heap.size)
    (w1 : a1.size ≤ maxLen) (hL : laidMet Tryz.prog Rows.langOnlyRow.laid W) :
    Calls Tryz.prog 5 #[v0, .string a1] W fun e w' => e = .returned (.bool true) ∧ Below W.heap.size W w' := by
  obtain ⟨D, hD, hI⟩ := open_dfa wv0 h0
  exact law_lonly v0 a1 D W w1 hD hI (pow_in hL (by simp [Rows.langOnlyRow]))
end langOnlyW
end Go.Proofs.YtmmlakheimfijaaGreatDoor
