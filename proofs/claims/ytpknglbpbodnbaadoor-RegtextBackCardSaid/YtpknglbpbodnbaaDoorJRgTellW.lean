/-
  The walks of Text's closures group and tell. Conditions: the tree may be, its words fit, its nodes are no more than the room.
-/
import Derived.Test.YtpknglbpbodnbaaDoorJRgTellSt
namespace Go.Proofs.YtpknglbpbodnbaaDoor
set_option linter.unusedVariables false
set_option linter.unusedSimpArgs false
open Go.RowKit Go.Sort Cs Rg Go.ChangeShapes Go.WideShapes

theorem wp_region_TC {P : Program} {ops : Array Oper} {Q : Exit → Act → World → Prop} {id : Nat} {a : Act} {w : World} (C : World → World → Prop) (U : List Nat) (hm : P.follows .mixedOrders = true)
    (h : ∀ W, Below w.heap.size w W → stepT P .any ops (C W) U Q (Array.replicate ops.size false) a W) : (Code.region id ops true).wp P Q a w := by
  refine wp_region_any hm (wpAny_only _ _ _ _ ?_)
  have h1 := h { w with drawn := w.drawn + 1 } ⟨rfl, rfl, rfl, Nat.le_refl _, fun _ _ => rfl⟩
  unfold stepT at h1
  rw [unl_rep] at h1
  exact wpAny_of_wpT _ _ _ _ h1
theorem stepT_sub {P : Program} {ops : Array Oper} {md : Region.Mode} {C C' : World → Prop} {U : List Nat} {Q : Exit → Act → World → Prop} {listed : Array Bool} {a : Act} {w : World} (hC : ∀ w', C' w' → C w') (h : stepT P md ops C' U Q listed a w) : stepT P md ops C U Q listed a w :=
  wpT_weak hC _ _ _ _ h
/-- a world behind another, the blocks below B as they were -/
structure Beh (B : Nat) (V : World) where
  u : World
  h : Below B V u
instance (B : Nat) (V : World) : Nonempty (Beh B V) := ⟨⟨V, Below.refl _ _⟩⟩
set_option maxHeartbeats 8000000 in
set_option maxRecDepth 1000000 in
theorem group_any (W0 : World) (gd rm gp tl : Nat) (m : Nd) (a : Option Addr) (c o r : Nat) (w : World) (hv : Vs W0 w gd rm gp tl true r) (ho : o ≤ 16) (hm : sizeN m ≤ 1024)
    (ih : ∀ w1, Vs W0 w1 gd rm gp tl true r → Calls Tryd.prog 19 #[.agg #[.int .i64 m.kind, .int .u64 m.set.a, .int .u64 m.set.b, .int .u64 m.set.c, .int .u64 m.set.d, .slice a m.kids.length c, .int .i64 m.lo, .int .i64 m.hi], .int .i64 ((o : Int) + 1), vPtr rm, vPtr gd, vPtr gp, vPtr tl] w1 fun e w' => ∃ (t : List Nat) (g' : Bool) (r' : Nat), e = .returned (.string (bsT t)) ∧ TQ W0 gd rm gp tl m (o + 1) r w1 t g' r' w') :
    Calls Tryd.prog 18 #[.agg #[.int .i64 m.kind, .int .u64 m.set.a, .int .u64 m.set.b, .int .u64 m.set.c, .int .u64 m.set.d, .slice a m.kids.length c, .int .i64 m.lo, .int .i64 m.hi], .int .i64 (o : Int), vPtr tl] w fun e w' => ∃ (t : List Nat) (g' : Bool) (r' : Nat), e = .returned (.string (bsT (40 :: (t ++ [41])))) ∧ TQ W0 gd rm gp tl m (o + 1) r w t g' r' w' := by
  have hbk := (Below.refl w.heap.size w).alloc (Nat.le_refl _) (.cells #[.int .i64 m.kind, .int .u64 m.set.a, .int .u64 m.set.b, .int .u64 m.set.c, .int .u64 m.set.d, .slice a m.kids.length c, .int .i64 m.lo, .int .i64 m.hi] 27)
  have nb := Blk.new w 27 #[.int .i64 m.kind, .int .u64 m.set.a, .int .u64 m.set.b, .int .u64 m.set.c, .int .u64 m.set.d, .slice a m.kids.length c, .int .i64 m.lo, .int .i64 m.hi]
  have hv1 := hv.go hbk
  have y := hv1.tel.cell 0
  obtain ⟨⟨y0, y1, y2, y3, y4, y5, y6, y7⟩, -⟩ := nb.c8
  have IH := Lib.hid ih
  have H := Lib.hid (And.intro hv1 hbk)
  clear hbk nb hv1 ih
  simp only [List.getElem?_toArray, List.getElem?_cons_zero] at y
  go_enter Tryd.func18, Tryd.ntmps18
  go_wp2_with fail
  refine (IH.out _ H.out.1).mono ?_
  rintro e w1 ⟨t, g', r', rfl, hq⟩
  have hz : (bsT t).size ≤ 2500 * 1024 := by rw [bsT_size]; have := hq.len; omega
  obtain ⟨ts, hts⟩ : ∃ ts, bsT t = ts := ⟨_, rfl⟩
  rw [hts] at hz ⊢
  have HQ := Lib.hid (And.intro hts hq)
  clear hts hq y y0 y1 y2 y3 y4 y5 y6 y7
  go_wp2_with fail
  go_ret
  refine ⟨t, g', r', ret_str ?_, ?_⟩
  · rw [← HQ.out.1, show (⟨#[40]⟩ : ByteArray) = bsT [40] from rfl, show (⟨#[41]⟩ : ByteArray) = bsT [41] from rfl, bsT_app, bsT_app]
    simp
  · have h := HQ.out.2
    exact ⟨h.len, h.st, (Only.of_below H.out.2).trans h.on, h.lo, h.hi, h.yes, h.no⟩
set_option maxHeartbeats 8000000 in
set_option maxRecDepth 1000000 in
theorem tell_any (W0 : World) (gd rm gp tl : Nat) (hT : TabIn W0) (hM : MarksIn W0) (n : Nd) : ∀ (a : Option Addr) (c o r : Nat) (w : World), Vs W0 w gd rm gp tl true r → NdIn W0 a n → rightN n = true → InN n → sizeN n ≤ r → r ≤ 1024 → o ≤ 17 → Calls Tryd.prog 19 #[.agg #[.int .i64 n.kind, .int .u64 n.set.a, .int .u64 n.set.b, .int .u64 n.set.c, .int .u64 n.set.d, .slice a n.kids.length c, .int .i64 n.lo, .int .i64 n.hi], .int .i64 (o : Int), vPtr rm, vPtr gd, vPtr gp, vPtr tl] w fun e w' => ∃ (t : List Nat) (g' : Bool) (r' : Nat), e = .returned (.string (bsT t)) ∧ TQ W0 gd rm gp tl n o r w t g' r' w' := by
  refine Nd.ind (P := fun n => ∀ (a : Option Addr) (c o r : Nat) (w : World), Vs W0 w gd rm gp tl true r → NdIn W0 a n → rightN n = true → InN n → sizeN n ≤ r → r ≤ 1024 → o ≤ 17 → Calls Tryd.prog 19 #[.agg #[.int .i64 n.kind, .int .u64 n.set.a, .int .u64 n.set.b, .int .u64 n.set.c, .int .u64 n.set.d, .slice a n.kids.length c, .int .i64 n.lo, .int .i64 n.hi], .int .i64 (o : Int), vPtr rm, vPtr gd, vPtr gp, vPtr tl] w fun e w' => ∃ (t : List Nat) (g' : Bool) (r' : Nat), e = .returned (.string (bsT t)) ∧ TQ W0 gd rm gp tl n o r w t g' r' w') (fun k s l x y ih a c o r w hv hin hr hI hn hr1 ho => ?_) n
  have hln : l.length ≤ 9223372036854775807 := by have := hin.len; unfold maxLen at this; exact this
  have hsz : sizeN (.mk k s l x y) = 1 + sizeL l := by rw [sizeN]
  have hri := rightN_iff.1 hr
  have hIl := InL_iff.1 (show InL l by rw [InN] at hI; exact hI.2)
  have hIs : SetIn s.f := by rw [InN] at hI; exact hI.1
  have hTl : tellN (.mk k s l x y) = if k = 1 then setT s else tellL k true l ++ (if k = 4 then oftenT x y else []) := by rw [tellN]
  have hD : nestN (.mk k s l x y) = if k = 1 then 0 else nestL k l := by rw [nestN]
  have hbk := (Below.refl w.heap.size w).alloc (Nat.le_refl _) (.cells #[.int .i64 k, .int .u64 s.a, .int .u64 s.b, .int .u64 s.c, .int .u64 s.d, .slice a l.length c, .int .i64 x, .int .i64 y] 27)
  have nb := Blk.new w 27 #[.int .i64 k, .int .u64 s.a, .int .u64 s.b, .int .u64 s.c, .int .u64 s.d, .slice a l.length c, .int .i64 x, .int .i64 y]
  have hv1 := hv.go hbk
  have c0 := hv1.room.cell 0
  have z0 := hv1.room.frozen 0
  simp only [List.getElem?_toArray, List.getElem?_cons_zero] at c0
  obtain ⟨⟨y0, y1, y2, y3, y4, y5, y6, y7⟩, -⟩ := nb.c8
  have hq : ∃ q : Nat, (r : Int) - 1 = (q : Int) ∧ r = q + 1 := ⟨r - 1, by omega, by omega⟩
  obtain ⟨q, hq, hrq⟩ := hq
  have IH := Lib.hid ih
  have H := Lib.hid (And.intro hv (And.intro hin (And.intro hri (And.intro hIl (And.intro hIs (And.intro hTl (And.intro hD (And.intro hsz (And.intro hn (And.intro hr1 hrq))))))))))
  have HC := Lib.hid (And.intro hbk (And.intro nb hv1))
  have hrb : r ≤ 1024 := hr1
  clear hv hin hri hIl hIs hTl hD hsz hbk nb hv1 ih hr hI hn hr1 hrq
  show Calls Tryd.prog 19 #[.agg #[.int .i64 k, .int .u64 s.a, .int .u64 s.b, .int .u64 s.c, .int .u64 s.d, .slice a l.length c, .int .i64 x, .int .i64 y], .int .i64 (o : Int), vPtr rm, vPtr gd, vPtr gp, vPtr tl] w _
  go_enter Tryd.func19, Tryd.ntmps19
  go_upto_region 2 with (fail)
  have v2 := HC.out.2.2.setRoom q
  have n2 := HC.out.2.1.far (p := ⟨rm, 0, none⟩) (fun e => by have := H.out.1.room.lt; simp at e; omega) (.int .i64 (q : Int))
  have o2 : Only [gd, rm] w ((w.alloc (.cells #[.int .i64 k, .int .u64 s.a, .int .u64 s.b, .int .u64 s.c, .int .u64 s.d, .slice a l.length c, .int .i64 x, .int .i64 y] 27)).setCell ⟨rm, 0, none⟩ (.int .i64 (q : Int))) := (Only.of_below HC.out.1).setCell (a := ⟨rm, 0, none⟩) (by simp) _
  have s2 : ((w.alloc (.cells #[.int .i64 k, .int .u64 s.a, .int .u64 s.b, .int .u64 s.c, .int .u64 s.d, .slice a l.length c, .int .i64 x, .int .i64 y] 27)).setCell ⟨rm, 0, none⟩ (.int .i64 (q : Int))).heap.size = w.heap.size + 1 := by simp
  clear y0 y1 y2 y3 y4 y5 y6 y7 c0 z0 HC
  generalize (w.alloc (.cells #[.int .i64 k, .int .u64 s.a, .int .u64 s.b, .int .u64 s.c, .int .u64 s.d, .slice a l.length c, .int .i64 x, .int .i64 y] 27)).setCell ⟨rm, 0, none⟩ (.int .i64 (q : Int)) = w2 at *
  have c0 := v2.room.cell 0
  simp only [List.getElem?_toArray, List.getElem?_cons_zero] at c0
  have G := Lib.hid (And.intro v2 (And.intro n2 (And.intro o2 s2)))
  have hN : (∃ T, tellN (.mk k s l x y) = T) ∧ (∃ D, nestN (.mk k s l x y) = D) := ⟨⟨_, rfl⟩, ⟨_, rfl⟩⟩
  obtain ⟨⟨T, hT1⟩, D, hD1⟩ := hN
  have HN := Lib.hid (And.intro hT1 hD1)
  clear v2 n2 o2 s2 hT1 hD1 hq
  by_cases ho16 : o ≤ 16
  case neg =>
    have k1 : decide ((16 : Int) < (o : Int)) = true := decide_eq_true (by omega)
    have k1' : decide (16 < o) = true := decide_eq_true (by omega)
    have d0 := G.out.1.good.cell 0
    have z0 := G.out.1.good.frozen 0
    simp only [List.getElem?_toArray, List.getElem?_cons_zero] at d0
    go_wp2_with fail
    go_ret
    refine ⟨[], false, q, rfl, ?_⟩
    have h := H.out
    exact ⟨by have := h.2.2.2.2.2.2.2.1; simp; omega, G.out.1.setGood false, G.out.2.2.1.setCell (a := ⟨gd, 0, none⟩) (by simp) _, by have := h.2.2.2.2.2.2.2.1; omega, by omega, fun e => absurd e (by decide), fun _ e => by omega⟩
  case pos =>
  have k1 : decide ((16 : Int) < (o : Int)) = false := decide_eq_false (by omega)
  have k1' : decide (16 < o) = false := decide_eq_false (by omega)
  have k2 : decide ((q : Int) < 0) = false := decide_eq_false (by omega)
  go_upto_region 6 with (fail)
  have hbb := (Below.refl w2.heap.size w2).alloc (Nat.le_refl _) (.cells #[.pointer none, .slice none 0 0] 49)
  have hnew := Bld.new w2
  rw [G.out.2.2.2] at hnew ⊢
  have F := Lib.hid (Fr.mk (G.out.1.go hbb) (G.out.2.1.below hbb G.out.2.1.lt) hnew (G.out.2.2.1.put hbb G.out.2.2.1.size) H.out.1.good.lt H.out.1.room.lt H.out.1.grp.lt H.out.1.tel.lt)
  clear hbb hnew c0
  generalize w2.alloc (.cells #[.pointer none, .slice none 0 0] 49) = w3 at *
  clear G
  obtain ⟨⟨y0, y1, y2, y3, y4, y5, y6, y7⟩, -⟩ := F.out.nb.c8
  go_wp2_with fail
  clear y0 y1 y2 y3 y4 y5 y6 y7
  go_loopw [23] (fun ci wr => ∃ (i : Nat) (acc : List Nat) (g : Bool) (r1 : Nat), i ≤ l.length ∧ ci = .int .i64 (i : Int) ∧ Hid (Fr W0 w wr gd rm gp tl #[.int .i64 k, .int .u64 s.a, .int .u64 s.b, .int .u64 s.c, .int .u64 s.d, .slice a l.length c, .int .i64 x, .int .i64 y] g r1 acc) ∧ Hid (LF k l T D o q i acc g r1)) (fun ci _ => l.length - (intOf ci).toNat)
  case atStart => exact ⟨0, [], true, q, Nat.zero_le _, rfl, F, Lib.hid ⟨Nat.le_refl _, by simp, by simp, fun _ => ⟨rfl, by simp [nestL]; omega⟩, fun e => absurd e (by decide), fun _ => rfl⟩⟩
  case round =>
    clear F
    obtain ⟨i, acc, g, r1, hi, rfl, F, X⟩ := hrel
    obtain ⟨⟨y0, y1, y2, y3, y4, y5, y6, y7⟩, -⟩ := F.out.nb.c8
    by_cases hil : i < l.length
    · have k3 : decide ((i : Int) < (l.length : Int)) = true := decide_eq_true (by omega)
      have k3' : decide (i < l.length) = true := decide_eq_true hil
      obtain ⟨m, hm⟩ : ∃ m, l[i]? = some m := ⟨_, List.getElem?_eq_getElem hil⟩
      obtain ⟨b, off, a', c', rfl, hblt, hl8w, hin'⟩ := H.out.2.1.kid (i := i) (m := m) hm
      have hl8 := hl8w.below F.out.st.base
      obtain ⟨z0, z1, z2, z3, z4, z5, z6, z7⟩ := hl8.c8
      have HM := Lib.hid (And.intro hm hin')
      clear hl8 hl8w hblt hm hin'
      have hs0 : sizeN m ≤ r1 ∧ r1 ≤ 1024 ∧ acc.length ≤ 2500 * 1024 ∧ sizeN m ≤ 1024 := by
        have h1 := (sizeL_take HM.out.1).1
        have h2 := sizeL_le l (i + 1)
        have h3 := sizeL_le l i
        have h4 := X.out.lo
        have h5 := X.out.hi
        have h6 := X.out.len
        have h7 := H.out.2.2.2.2.2.2.2
        have h8 := h7.2.2.2
        omega
      have HS := Lib.hid hs0
      have hac := hs0.2.2.1
      clear hs0
      go_upto_region 9 with (fail)
      have hbk := (Below.refl wr.heap.size wr).alloc (Nat.le_refl _) (.cells #[.int .i64 m.kind, .int .u64 m.set.a, .int .u64 m.set.b, .int .u64 m.set.c, .int .u64 m.set.d, .slice a' m.kids.length c', .int .i64 m.lo, .int .i64 m.hi] 27)
      have nb := Blk.new wr 27 #[.int .i64 m.kind, .int .u64 m.set.a, .int .u64 m.set.b, .int .u64 m.set.c, .int .u64 m.set.d, .slice a' m.kids.length c', .int .i64 m.lo, .int .i64 m.hi]
      have hkb : wr.heap.size ≠ w.heap.size + 1 := by have := F.out.bl.lt; omega
      have F4 := Lib.hid (F.out.go hbk)
      have HKB := Lib.hid (And.intro nb hkb)
      clear y0 y1 y2 y3 y4 y5 y6 y7 z0 z1 z2 z3 z4 z5 z6 z7 hbk nb hkb F
      generalize hkb0 : wr.heap.size = kb at *
      generalize wr.alloc (.cells #[.int .i64 m.kind, .int .u64 m.set.a, .int .u64 m.set.b, .int .u64 m.set.c, .int .u64 m.set.d, .slice a' m.kids.length c', .int .i64 m.lo, .int .i64 m.hi] 27) = w4 at *
      clear hkb0
      cases g with
      | false =>
        have d0 := F4.out.st.good.cell 0
        have dz := F4.out.st.good.frozen 0
        simp only [List.getElem?_toArray, List.getElem?_cons_zero] at d0
        go_wp2_with fail
        go_ret
        refine ⟨[], false, r1, rfl, ?_⟩
        exact ⟨by have := H.out.2.2.2.2.2.2.2.1; simp; omega, F4.out.bad.st, F4.out.bad.on, by have := H.out.2.2.2.2.2.2.2; have := X.out.lo; have := sizeL_le l i; omega, by have := H.out.2.2.2.2.2.2.2; have := X.out.hi; omega, fun e => absurd e (by decide), (fun _ h => X.out.no rfl ⟨by rw [← HN.out.2]; exact h.1, by rw [← HN.out.1]; exact h.2⟩)⟩
      | true =>
      have d0 := F4.out.st.good.cell 0
      simp only [List.getElem?_toArray, List.getElem?_cons_zero] at d0
      go_wp2_with fail
      refine (wlen_any (w.heap.size + 1) acc _ F4.out.bl (by omega)).mono ?_
      rintro e w5 ⟨rfl, rfl⟩
      clear d0
      have hk4 : k = 2 ∨ k = 3 ∨ k = 4 := by
        rcases H.out.2.2.1.2.2.2 with h9 | h9 | h9 | h9
        · exfalso; rw [h9.2] at hil; simp at hil
        · exact .inl h9.1
        · exact .inr (.inl h9.1)
        · exact .inr (.inr h9.1)
      by_cases hl6 : acc.length ≤ 256
      case neg =>
        have k4 : decide ((256 : Int) < (acc.length : Int)) = true := decide_eq_true (by omega)
        have k4' : decide (256 < acc.length) = true := decide_eq_true (by omega)
        have hno : ¬ (o + nestN (.mk k s l x y) ≤ 16 ∧ (tellN (.mk k s l x y)).length ≤ 256) := fun h => hl6 (by
          have h1 := tellL_take_le k l i
          rw [← (X.out.yes rfl).1] at h1
          have h2 := h.2
          rw [H.out.2.2.2.2.2.1, if_neg (by omega), List.length_append] at h2
          omega)
        have HNO := Lib.hid hno
        clear hno
        have d0 := F4.out.st.good.cell 0
        have dz := F4.out.st.good.frozen 0
        simp only [List.getElem?_toArray, List.getElem?_cons_zero] at d0
        go_wp2_with fail
        go_ret
        refine ⟨[], false, r1, rfl, ?_⟩
        exact ⟨by have := H.out.2.2.2.2.2.2.2.1; simp; omega, F4.out.bad.st, F4.out.bad.on, by have := H.out.2.2.2.2.2.2.2; have := X.out.lo; have := sizeL_le l i; omega, by have := H.out.2.2.2.2.2.2.2; have := X.out.hi; omega, fun e => absurd e (by decide), (fun _ => HNO.out)⟩
      case pos =>
      have k4 : decide ((256 : Int) < (acc.length : Int)) = false := decide_eq_false (by omega)
      have k4' : decide (256 < acc.length) = false := decide_eq_false (by omega)
      obtain ⟨⟨y0, y1, y2, y3, y4, y5, y6, y7⟩, -⟩ := F4.out.nb.c8
      obtain ⟨⟨z0, z1, z2, z3, z4, z5, z6, z7⟩, -⟩ := HKB.out.1.c8
      have dg := F4.out.st.grp.cell 0
      have dt := F4.out.st.tel.cell 0
      simp only [List.getElem?_toArray, List.getElem?_cons_zero] at dg dt
      by_cases hi0 : 0 < i
      · have qi : decide ((0 : Int) < (i : Int)) = true := decide_eq_true (by omega)
        have qi' : decide (0 < i) = true := decide_eq_true (by omega)
        rcases hk4 with hk | hk | hk
        · skip
          have qa : (k == 2) = true := by rw [hk]; rfl
          have qc : (k == 4) = false := by rw [hk]; rfl
          have qe : (k == 3) = false := by rw [hk]; rfl
          have HK2 := Lib.hid hk
          clear hk
          by_cases hm3 : m.kind = 3
          · have qb : (m.kind == 3) = true := by rw [hm3]; rfl
            have HWR := Lib.hid (wrap_val (k := k) (m := m) (b := true) (by have := HK2.out; simp; omega))
            clear hm3
            go_wp2_with fail
            refine (group_any W0 gd rm gp tl m a' c' o r1 _ F4.out.st ho16 (by have := HS.out; omega) (fun v hv => by
              have h := IH.out m (List.mem_of_getElem? HM.out.1) a' c' (o + 1) r1 v hv HM.out.2 (H.out.2.2.1.1 m (List.mem_of_getElem? HM.out.1)).1 (H.out.2.2.2.1 m (List.mem_of_getElem? HM.out.1)) HS.out.1 HS.out.2.1 (by omega)
              exact h)).mono ?_
            rintro e w6 ⟨t, g', r2, rfl, hq⟩
            have F6 := Lib.hid (F4.out.call hq.on hq.st)
            have QQ := Lib.hid hq
            clear hq
            go_wp2_with fail
            refine (wstr_any (w.heap.size + 1) _ (40 :: (t ++ [41])) _ F6.out.bl (by
              have h1 := QQ.out.len
              have h2 := X.out.len
              try simp only [List.length_append, List.length_cons, List.length_nil]
              have := HS.out
              omega)).mono ?_
            rintro e w9 ⟨rfl, hb9, bx, -⟩
            have F7 := Lib.hid (F6.out.put bx hb9)
            clear bx hb9
            go_wp2_with fail
            go_roundw
            case rel =>
              refine ⟨i + 1, _, g', r2, hil, by go_num, F7, Lib.hid ?_⟩
              have hq := QQ.out
              have hx := X.out
              have hs := (sizeL_take HM.out.1).1
              have ht := tellL_take HM.out.1 (k := k)
              have hm1 : 1 ≤ sizeN m := by cases m; rw [sizeN]; omega
              refine ⟨by have := hq.hi; have := hx.hi; omega, by rw [hs]; have := hq.lo; have := hx.lo; omega, ?_, ?_, ?_, fun e => by omega⟩
              · rw [hs]
                have := hq.len
                have := hx.len
                try simp only [List.length_append, List.length_cons, List.length_nil]
                omega
              · intro e
                have h1 := hq.yes e
                have h2 := hx.yes rfl
                rw [ht.1, ht.2, bar_if k i false (by have := HK2.out; simp; omega), HWR.out, ← h2.1, h1.1]
                refine ⟨by simp [wrapT], ?_⟩
                have h3 := h1.2
                have h4 := h2.2
                simp only [Bool.false_eq_true, if_true, if_false]
                omega
              · intro e h
                refine hq.no e ⟨?_, ?_⟩
                · have h1 := nestL_take_le k l (i + 1)
                  rw [ht.2, HWR.out] at h1
                  have h2 := HN.out.2
                  rw [H.out.2.2.2.2.2.2.1, if_neg (by have := HK2.out; omega)] at h2
                  simp only [Bool.false_eq_true, if_true, if_false] at h1
                  omega
                · have h1 := tellL_take_le k l (i + 1)
                  rw [ht.1, List.length_append, List.length_append, HWR.out] at h1
                  have h2 := HN.out.1
                  rw [H.out.2.2.2.2.2.1, if_neg (by have := HK2.out; omega)] at h2
                  have h3 := congrArg List.length h2
                  rw [List.length_append] at h3
                  have h4 : (tellN m).length ≤ (wrapT true (tellN m)).length := by simp [wrapT] <;> omega
                  omega
            case measure => simp [intOf]; omega
          · have qb : (m.kind == 3) = false := by rw [beq_eq_false_iff_ne]; exact hm3
            have HWR := Lib.hid (wrap_val (k := k) (m := m) (b := false) (by have := HK2.out; simp; omega))
            clear hm3
            go_wp2_with fail
            refine (IH.out m (List.mem_of_getElem? HM.out.1) a' c' o r1 _ F4.out.st HM.out.2 (H.out.2.2.1.1 m (List.mem_of_getElem? HM.out.1)).1 (H.out.2.2.2.1 m (List.mem_of_getElem? HM.out.1)) HS.out.1 HS.out.2.1 (by omega)).mono ?_
            rintro e w6 ⟨t, g', r2, rfl, hq⟩
            have F6 := Lib.hid (F4.out.call hq.on hq.st)
            have QQ := Lib.hid hq
            clear hq
            go_wp2_with fail
            refine (wstr_any (w.heap.size + 1) _ t _ F6.out.bl (by
              have h1 := QQ.out.len
              have h2 := X.out.len
              try simp only [List.length_append, List.length_cons, List.length_nil]
              have := HS.out
              omega)).mono ?_
            rintro e w9 ⟨rfl, hb9, bx, -⟩
            have F7 := Lib.hid (F6.out.put bx hb9)
            clear bx hb9
            go_wp2_with fail
            go_roundw
            case rel =>
              refine ⟨i + 1, _, g', r2, hil, by go_num, F7, Lib.hid ?_⟩
              have hq := QQ.out
              have hx := X.out
              have hs := (sizeL_take HM.out.1).1
              have ht := tellL_take HM.out.1 (k := k)
              have hm1 : 1 ≤ sizeN m := by cases m; rw [sizeN]; omega
              refine ⟨by have := hq.hi; have := hx.hi; omega, by rw [hs]; have := hq.lo; have := hx.lo; omega, ?_, ?_, ?_, fun e => by omega⟩
              · rw [hs]
                have := hq.len
                have := hx.len
                try simp only [List.length_append, List.length_cons, List.length_nil]
                omega
              · intro e
                have h1 := hq.yes e
                have h2 := hx.yes rfl
                rw [ht.1, ht.2, bar_if k i false (by have := HK2.out; simp; omega), HWR.out, ← h2.1, h1.1]
                refine ⟨by simp [wrapT], ?_⟩
                have h3 := h1.2
                have h4 := h2.2
                simp only [Bool.false_eq_true, if_true, if_false]
                omega
              · intro e h
                refine hq.no e ⟨?_, ?_⟩
                · have h1 := nestL_take_le k l (i + 1)
                  rw [ht.2, HWR.out] at h1
                  have h2 := HN.out.2
                  rw [H.out.2.2.2.2.2.2.1, if_neg (by have := HK2.out; omega)] at h2
                  simp only [Bool.false_eq_true, if_true, if_false] at h1
                  omega
                · have h1 := tellL_take_le k l (i + 1)
                  rw [ht.1, List.length_append, List.length_append, HWR.out] at h1
                  have h2 := HN.out.1
                  rw [H.out.2.2.2.2.2.1, if_neg (by have := HK2.out; omega)] at h2
                  have h3 := congrArg List.length h2
                  rw [List.length_append] at h3
                  have h4 : (tellN m).length ≤ (wrapT false (tellN m)).length := by simp [wrapT] <;> omega
                  omega
            case measure => simp [intOf]; omega
        · skip
          have qa : (k == 2) = false := by rw [hk]; rfl
          have qc : (k == 4) = false := by rw [hk]; rfl
          have qe : (k == 3) = true := by rw [hk]; rfl
          have HK2 := Lib.hid hk
          clear hk
          have HWR := Lib.hid (wrap_val (k := k) (m := m) (b := false) (by have := HK2.out; simp; omega))
          go_wp2_with fail
          refine (wbyte_any (w.heap.size + 1) acc 124 _ F4.out.bl (by omega) (by omega)).mono ?_
          rintro e w5b ⟨rfl, hb5, bx, kx⟩
          have F5 := Lib.hid (F4.out.put bx hb5)
          have hk5 := HKB.out.1.others kx HKB.out.2 (by decide)
          clear bx hb5 kx y0 y1 y2 y3 y4 y5 y6 y7 z0 z1 z2 z3 z4 z5 z6 z7 dg dt
          obtain ⟨⟨y0, y1, y2, y3, y4, y5, y6, y7⟩, -⟩ := F5.out.nb.c8
          obtain ⟨⟨z0, z1, z2, z3, z4, z5, z6, z7⟩, -⟩ := hk5.c8
          have dg := F5.out.st.grp.cell 0
          have dt := F5.out.st.tel.cell 0
          simp only [List.getElem?_toArray, List.getElem?_cons_zero] at dg dt
          clear hk5
          go_wp2_with fail
          refine (IH.out m (List.mem_of_getElem? HM.out.1) a' c' o r1 _ F5.out.st HM.out.2 (H.out.2.2.1.1 m (List.mem_of_getElem? HM.out.1)).1 (H.out.2.2.2.1 m (List.mem_of_getElem? HM.out.1)) HS.out.1 HS.out.2.1 (by omega)).mono ?_
          rintro e w6 ⟨t, g', r2, rfl, hq⟩
          have F6 := Lib.hid (F5.out.call hq.on hq.st)
          have QQ := Lib.hid hq
          clear hq
          go_wp2_with fail
          refine (wstr_any (w.heap.size + 1) _ t _ F6.out.bl (by
            have h1 := QQ.out.len
            have h2 := X.out.len
            try simp only [List.length_append, List.length_cons, List.length_nil]
            have := HS.out
            omega)).mono ?_
          rintro e w9 ⟨rfl, hb9, bx, -⟩
          have F7 := Lib.hid (F6.out.put bx hb9)
          clear bx hb9
          go_wp2_with fail
          go_roundw
          case rel =>
            refine ⟨i + 1, _, g', r2, hil, by go_num, F7, Lib.hid ?_⟩
            have hq := QQ.out
            have hx := X.out
            have hs := (sizeL_take HM.out.1).1
            have ht := tellL_take HM.out.1 (k := k)
            have hm1 : 1 ≤ sizeN m := by cases m; rw [sizeN]; omega
            refine ⟨by have := hq.hi; have := hx.hi; omega, by rw [hs]; have := hq.lo; have := hx.lo; omega, ?_, ?_, ?_, fun e => by omega⟩
            · rw [hs]
              have := hq.len
              have := hx.len
              try simp only [List.length_append, List.length_cons, List.length_nil]
              omega
            · intro e
              have h1 := hq.yes e
              have h2 := hx.yes rfl
              rw [ht.1, ht.2, bar_if k i true (by have := HK2.out; simp; omega), HWR.out, ← h2.1, h1.1]
              refine ⟨by simp [wrapT], ?_⟩
              have h3 := h1.2
              have h4 := h2.2
              simp only [Bool.false_eq_true, if_true, if_false]
              omega
            · intro e h
              refine hq.no e ⟨?_, ?_⟩
              · have h1 := nestL_take_le k l (i + 1)
                rw [ht.2, HWR.out] at h1
                have h2 := HN.out.2
                rw [H.out.2.2.2.2.2.2.1, if_neg (by have := HK2.out; omega)] at h2
                simp only [Bool.false_eq_true, if_true, if_false] at h1
                omega
              · have h1 := tellL_take_le k l (i + 1)
                rw [ht.1, List.length_append, List.length_append, HWR.out] at h1
                have h2 := HN.out.1
                rw [H.out.2.2.2.2.2.1, if_neg (by have := HK2.out; omega)] at h2
                have h3 := congrArg List.length h2
                rw [List.length_append] at h3
                have h4 : (tellN m).length ≤ (wrapT false (tellN m)).length := by simp [wrapT] <;> omega
                omega
          case measure => simp [intOf]; omega
        · skip
          have qa : (k == 2) = false := by rw [hk]; rfl
          have qc : (k == 4) = true := by rw [hk]; rfl
          have qe : (k == 3) = false := by rw [hk]; rfl
          have HK2 := Lib.hid hk
          clear hk
          by_cases hm1 : m.kind = 1
          · have qd : (m.kind != 1) = false := by rw [hm1]; rfl
            have qd' : (m.kind == 1) = true := by rw [hm1]; rfl
            have HWR := Lib.hid (wrap_val (k := k) (m := m) (b := false) (by have := HK2.out; simp; omega))
            clear hm1
            go_wp2_with fail
            refine (IH.out m (List.mem_of_getElem? HM.out.1) a' c' o r1 _ F4.out.st HM.out.2 (H.out.2.2.1.1 m (List.mem_of_getElem? HM.out.1)).1 (H.out.2.2.2.1 m (List.mem_of_getElem? HM.out.1)) HS.out.1 HS.out.2.1 (by omega)).mono ?_
            rintro e w6 ⟨t, g', r2, rfl, hq⟩
            have F6 := Lib.hid (F4.out.call hq.on hq.st)
            have QQ := Lib.hid hq
            clear hq
            go_wp2_with fail
            refine (wstr_any (w.heap.size + 1) _ t _ F6.out.bl (by
              have h1 := QQ.out.len
              have h2 := X.out.len
              try simp only [List.length_append, List.length_cons, List.length_nil]
              have := HS.out
              omega)).mono ?_
            rintro e w9 ⟨rfl, hb9, bx, -⟩
            have F7 := Lib.hid (F6.out.put bx hb9)
            clear bx hb9
            go_wp2_with fail
            go_roundw
            case rel =>
              refine ⟨i + 1, _, g', r2, hil, by go_num, F7, Lib.hid ?_⟩
              have hq := QQ.out
              have hx := X.out
              have hs := (sizeL_take HM.out.1).1
              have ht := tellL_take HM.out.1 (k := k)
              have hm1 : 1 ≤ sizeN m := by cases m; rw [sizeN]; omega
              refine ⟨by have := hq.hi; have := hx.hi; omega, by rw [hs]; have := hq.lo; have := hx.lo; omega, ?_, ?_, ?_, fun e => by omega⟩
              · rw [hs]
                have := hq.len
                have := hx.len
                try simp only [List.length_append, List.length_cons, List.length_nil]
                omega
              · intro e
                have h1 := hq.yes e
                have h2 := hx.yes rfl
                rw [ht.1, ht.2, bar_if k i false (by have := HK2.out; simp; omega), HWR.out, ← h2.1, h1.1]
                refine ⟨by simp [wrapT], ?_⟩
                have h3 := h1.2
                have h4 := h2.2
                simp only [Bool.false_eq_true, if_true, if_false]
                omega
              · intro e h
                refine hq.no e ⟨?_, ?_⟩
                · have h1 := nestL_take_le k l (i + 1)
                  rw [ht.2, HWR.out] at h1
                  have h2 := HN.out.2
                  rw [H.out.2.2.2.2.2.2.1, if_neg (by have := HK2.out; omega)] at h2
                  simp only [Bool.false_eq_true, if_true, if_false] at h1
                  omega
                · have h1 := tellL_take_le k l (i + 1)
                  rw [ht.1, List.length_append, List.length_append, HWR.out] at h1
                  have h2 := HN.out.1
                  rw [H.out.2.2.2.2.2.1, if_neg (by have := HK2.out; omega)] at h2
                  have h3 := congrArg List.length h2
                  rw [List.length_append] at h3
                  have h4 : (tellN m).length ≤ (wrapT false (tellN m)).length := by simp [wrapT] <;> omega
                  omega
            case measure => simp [intOf]; omega
          · have qd : (m.kind != 1) = true := by rw [bne_iff_ne]; exact hm1
            have qd' : (m.kind == 1) = false := by rw [beq_eq_false_iff_ne]; exact hm1
            have HWR := Lib.hid (wrap_val (k := k) (m := m) (b := true) (by have := HK2.out; simp; omega))
            clear hm1
            go_wp2_with fail
            refine (group_any W0 gd rm gp tl m a' c' o r1 _ F4.out.st ho16 (by have := HS.out; omega) (fun v hv => by
              have h := IH.out m (List.mem_of_getElem? HM.out.1) a' c' (o + 1) r1 v hv HM.out.2 (H.out.2.2.1.1 m (List.mem_of_getElem? HM.out.1)).1 (H.out.2.2.2.1 m (List.mem_of_getElem? HM.out.1)) HS.out.1 HS.out.2.1 (by omega)
              exact h)).mono ?_
            rintro e w6 ⟨t, g', r2, rfl, hq⟩
            have F6 := Lib.hid (F4.out.call hq.on hq.st)
            have QQ := Lib.hid hq
            clear hq
            go_wp2_with fail
            refine (wstr_any (w.heap.size + 1) _ (40 :: (t ++ [41])) _ F6.out.bl (by
              have h1 := QQ.out.len
              have h2 := X.out.len
              try simp only [List.length_append, List.length_cons, List.length_nil]
              have := HS.out
              omega)).mono ?_
            rintro e w9 ⟨rfl, hb9, bx, -⟩
            have F7 := Lib.hid (F6.out.put bx hb9)
            clear bx hb9
            go_wp2_with fail
            go_roundw
            case rel =>
              refine ⟨i + 1, _, g', r2, hil, by go_num, F7, Lib.hid ?_⟩
              have hq := QQ.out
              have hx := X.out
              have hs := (sizeL_take HM.out.1).1
              have ht := tellL_take HM.out.1 (k := k)
              have hm1 : 1 ≤ sizeN m := by cases m; rw [sizeN]; omega
              refine ⟨by have := hq.hi; have := hx.hi; omega, by rw [hs]; have := hq.lo; have := hx.lo; omega, ?_, ?_, ?_, fun e => by omega⟩
              · rw [hs]
                have := hq.len
                have := hx.len
                try simp only [List.length_append, List.length_cons, List.length_nil]
                omega
              · intro e
                have h1 := hq.yes e
                have h2 := hx.yes rfl
                rw [ht.1, ht.2, bar_if k i false (by have := HK2.out; simp; omega), HWR.out, ← h2.1, h1.1]
                refine ⟨by simp [wrapT], ?_⟩
                have h3 := h1.2
                have h4 := h2.2
                simp only [Bool.false_eq_true, if_true, if_false]
                omega
              · intro e h
                refine hq.no e ⟨?_, ?_⟩
                · have h1 := nestL_take_le k l (i + 1)
                  rw [ht.2, HWR.out] at h1
                  have h2 := HN.out.2
                  rw [H.out.2.2.2.2.2.2.1, if_neg (by have := HK2.out; omega)] at h2
                  simp only [Bool.false_eq_true, if_true, if_false] at h1
                  omega
                · have h1 := tellL_take_le k l (i + 1)
                  rw [ht.1, List.length_append, List.length_append, HWR.out] at h1
                  have h2 := HN.out.1
                  rw [H.out.2.2.2.2.2.1, if_neg (by have := HK2.out; omega)] at h2
                  have h3 := congrArg List.length h2
                  rw [List.length_append] at h3
                  have h4 : (tellN m).length ≤ (wrapT true (tellN m)).length := by simp [wrapT] <;> omega
                  omega
            case measure => simp [intOf]; omega
      · have qi : decide ((0 : Int) < (i : Int)) = false := decide_eq_false (by omega)
        have qi' : decide (0 < i) = false := decide_eq_false (by omega)
        rcases hk4 with hk | hk | hk
        · skip
          have qa : (k == 2) = true := by rw [hk]; rfl
          have qc : (k == 4) = false := by rw [hk]; rfl
          have qe : (k == 3) = false := by rw [hk]; rfl
          have HK2 := Lib.hid hk
          clear hk
          by_cases hm3 : m.kind = 3
          · have qb : (m.kind == 3) = true := by rw [hm3]; rfl
            have HWR := Lib.hid (wrap_val (k := k) (m := m) (b := true) (by have := HK2.out; simp; omega))
            clear hm3
            go_wp2_with fail
            refine (group_any W0 gd rm gp tl m a' c' o r1 _ F4.out.st ho16 (by have := HS.out; omega) (fun v hv => by
              have h := IH.out m (List.mem_of_getElem? HM.out.1) a' c' (o + 1) r1 v hv HM.out.2 (H.out.2.2.1.1 m (List.mem_of_getElem? HM.out.1)).1 (H.out.2.2.2.1 m (List.mem_of_getElem? HM.out.1)) HS.out.1 HS.out.2.1 (by omega)
              exact h)).mono ?_
            rintro e w6 ⟨t, g', r2, rfl, hq⟩
            have F6 := Lib.hid (F4.out.call hq.on hq.st)
            have QQ := Lib.hid hq
            clear hq
            go_wp2_with fail
            refine (wstr_any (w.heap.size + 1) _ (40 :: (t ++ [41])) _ F6.out.bl (by
              have h1 := QQ.out.len
              have h2 := X.out.len
              try simp only [List.length_append, List.length_cons, List.length_nil]
              have := HS.out
              omega)).mono ?_
            rintro e w9 ⟨rfl, hb9, bx, -⟩
            have F7 := Lib.hid (F6.out.put bx hb9)
            clear bx hb9
            go_wp2_with fail
            go_roundw
            case rel =>
              refine ⟨i + 1, _, g', r2, hil, by go_num, F7, Lib.hid ?_⟩
              have hq := QQ.out
              have hx := X.out
              have hs := (sizeL_take HM.out.1).1
              have ht := tellL_take HM.out.1 (k := k)
              have hm1 : 1 ≤ sizeN m := by cases m; rw [sizeN]; omega
              refine ⟨by have := hq.hi; have := hx.hi; omega, by rw [hs]; have := hq.lo; have := hx.lo; omega, ?_, ?_, ?_, fun e => by omega⟩
              · rw [hs]
                have := hq.len
                have := hx.len
                try simp only [List.length_append, List.length_cons, List.length_nil]
                omega
              · intro e
                have h1 := hq.yes e
                have h2 := hx.yes rfl
                rw [ht.1, ht.2, bar_if k i false (by have := HK2.out; simp; omega), HWR.out, ← h2.1, h1.1]
                refine ⟨by simp [wrapT], ?_⟩
                have h3 := h1.2
                have h4 := h2.2
                simp only [Bool.false_eq_true, if_true, if_false]
                omega
              · intro e h
                refine hq.no e ⟨?_, ?_⟩
                · have h1 := nestL_take_le k l (i + 1)
                  rw [ht.2, HWR.out] at h1
                  have h2 := HN.out.2
                  rw [H.out.2.2.2.2.2.2.1, if_neg (by have := HK2.out; omega)] at h2
                  simp only [Bool.false_eq_true, if_true, if_false] at h1
                  omega
                · have h1 := tellL_take_le k l (i + 1)
                  rw [ht.1, List.length_append, List.length_append, HWR.out] at h1
                  have h2 := HN.out.1
                  rw [H.out.2.2.2.2.2.1, if_neg (by have := HK2.out; omega)] at h2
                  have h3 := congrArg List.length h2
                  rw [List.length_append] at h3
                  have h4 : (tellN m).length ≤ (wrapT true (tellN m)).length := by simp [wrapT] <;> omega
                  omega
            case measure => simp [intOf]; omega
          · have qb : (m.kind == 3) = false := by rw [beq_eq_false_iff_ne]; exact hm3
            have HWR := Lib.hid (wrap_val (k := k) (m := m) (b := false) (by have := HK2.out; simp; omega))
            clear hm3
            go_wp2_with fail
            refine (IH.out m (List.mem_of_getElem? HM.out.1) a' c' o r1 _ F4.out.st HM.out.2 (H.out.2.2.1.1 m (List.mem_of_getElem? HM.out.1)).1 (H.out.2.2.2.1 m (List.mem_of_getElem? HM.out.1)) HS.out.1 HS.out.2.1 (by omega)).mono ?_
            rintro e w6 ⟨t, g', r2, rfl, hq⟩
            have F6 := Lib.hid (F4.out.call hq.on hq.st)
            have QQ := Lib.hid hq
            clear hq
            go_wp2_with fail
            refine (wstr_any (w.heap.size + 1) _ t _ F6.out.bl (by
              have h1 := QQ.out.len
              have h2 := X.out.len
              try simp only [List.length_append, List.length_cons, List.length_nil]
              have := HS.out
              omega)).mono ?_
            rintro e w9 ⟨rfl, hb9, bx, -⟩
            have F7 := Lib.hid (F6.out.put bx hb9)
            clear bx hb9
            go_wp2_with fail
            go_roundw
            case rel =>
              refine ⟨i + 1, _, g', r2, hil, by go_num, F7, Lib.hid ?_⟩
              have hq := QQ.out
              have hx := X.out
              have hs := (sizeL_take HM.out.1).1
              have ht := tellL_take HM.out.1 (k := k)
              have hm1 : 1 ≤ sizeN m := by cases m; rw [sizeN]; omega
              refine ⟨by have := hq.hi; have := hx.hi; omega, by rw [hs]; have := hq.lo; have := hx.lo; omega, ?_, ?_, ?_, fun e => by omega⟩
              · rw [hs]
                have := hq.len
                have := hx.len
                try simp only [List.length_append, List.length_cons, List.length_nil]
                omega
              · intro e
                have h1 := hq.yes e
                have h2 := hx.yes rfl
                rw [ht.1, ht.2, bar_if k i false (by have := HK2.out; simp; omega), HWR.out, ← h2.1, h1.1]
                refine ⟨by simp [wrapT], ?_⟩
                have h3 := h1.2
                have h4 := h2.2
                simp only [Bool.false_eq_true, if_true, if_false]
                omega
              · intro e h
                refine hq.no e ⟨?_, ?_⟩
                · have h1 := nestL_take_le k l (i + 1)
                  rw [ht.2, HWR.out] at h1
                  have h2 := HN.out.2
                  rw [H.out.2.2.2.2.2.2.1, if_neg (by have := HK2.out; omega)] at h2
                  simp only [Bool.false_eq_true, if_true, if_false] at h1
                  omega
                · have h1 := tellL_take_le k l (i + 1)
                  rw [ht.1, List.length_append, List.length_append, HWR.out] at h1
                  have h2 := HN.out.1
                  rw [H.out.2.2.2.2.2.1, if_neg (by have := HK2.out; omega)] at h2
                  have h3 := congrArg List.length h2
                  rw [List.length_append] at h3
                  have h4 : (tellN m).length ≤ (wrapT false (tellN m)).length := by simp [wrapT] <;> omega
                  omega
            case measure => simp [intOf]; omega
        · skip
          have qa : (k == 2) = false := by rw [hk]; rfl
          have qc : (k == 4) = false := by rw [hk]; rfl
          have qe : (k == 3) = true := by rw [hk]; rfl
          have HK2 := Lib.hid hk
          clear hk
          have HWR := Lib.hid (wrap_val (k := k) (m := m) (b := false) (by have := HK2.out; simp; omega))
          go_wp2_with fail
          refine (IH.out m (List.mem_of_getElem? HM.out.1) a' c' o r1 _ F4.out.st HM.out.2 (H.out.2.2.1.1 m (List.mem_of_getElem? HM.out.1)).1 (H.out.2.2.2.1 m (List.mem_of_getElem? HM.out.1)) HS.out.1 HS.out.2.1 (by omega)).mono ?_
          rintro e w6 ⟨t, g', r2, rfl, hq⟩
          have F6 := Lib.hid (F4.out.call hq.on hq.st)
          have QQ := Lib.hid hq
          clear hq
          go_wp2_with fail
          refine (wstr_any (w.heap.size + 1) _ t _ F6.out.bl (by
            have h1 := QQ.out.len
            have h2 := X.out.len
            try simp only [List.length_append, List.length_cons, List.length_nil]
            have := HS.out
            omega)).mono ?_
          rintro e w9 ⟨rfl, hb9, bx, -⟩
          have F7 := Lib.hid (F6.out.put bx hb9)
          clear bx hb9
          go_wp2_with fail
          go_roundw
          case rel =>
            refine ⟨i + 1, _, g', r2, hil, by go_num, F7, Lib.hid ?_⟩
            have hq := QQ.out
            have hx := X.out
            have hs := (sizeL_take HM.out.1).1
            have ht := tellL_take HM.out.1 (k := k)
            have hm1 : 1 ≤ sizeN m := by cases m; rw [sizeN]; omega
            refine ⟨by have := hq.hi; have := hx.hi; omega, by rw [hs]; have := hq.lo; have := hx.lo; omega, ?_, ?_, ?_, fun e => by omega⟩
            · rw [hs]
              have := hq.len
              have := hx.len
              try simp only [List.length_append, List.length_cons, List.length_nil]
              omega
            · intro e
              have h1 := hq.yes e
              have h2 := hx.yes rfl
              rw [ht.1, ht.2, bar_if k i false (by have := HK2.out; simp; omega), HWR.out, ← h2.1, h1.1]
              refine ⟨by simp [wrapT], ?_⟩
              have h3 := h1.2
              have h4 := h2.2
              simp only [Bool.false_eq_true, if_true, if_false]
              omega
            · intro e h
              refine hq.no e ⟨?_, ?_⟩
              · have h1 := nestL_take_le k l (i + 1)
                rw [ht.2, HWR.out] at h1
                have h2 := HN.out.2
                rw [H.out.2.2.2.2.2.2.1, if_neg (by have := HK2.out; omega)] at h2
                simp only [Bool.false_eq_true, if_true, if_false] at h1
                omega
              · have h1 := tellL_take_le k l (i + 1)
                rw [ht.1, List.length_append, List.length_append, HWR.out] at h1
                have h2 := HN.out.1
                rw [H.out.2.2.2.2.2.1, if_neg (by have := HK2.out; omega)] at h2
                have h3 := congrArg List.length h2
                rw [List.length_append] at h3
                have h4 : (tellN m).length ≤ (wrapT false (tellN m)).length := by simp [wrapT] <;> omega
                omega
          case measure => simp [intOf]; omega
        · skip
          have qa : (k == 2) = false := by rw [hk]; rfl
          have qc : (k == 4) = true := by rw [hk]; rfl
          have qe : (k == 3) = false := by rw [hk]; rfl
          have HK2 := Lib.hid hk
          clear hk
          by_cases hm1 : m.kind = 1
          · have qd : (m.kind != 1) = false := by rw [hm1]; rfl
            have qd' : (m.kind == 1) = true := by rw [hm1]; rfl
            have HWR := Lib.hid (wrap_val (k := k) (m := m) (b := false) (by have := HK2.out; simp; omega))
            clear hm1
            go_wp2_with fail
            refine (IH.out m (List.mem_of_getElem? HM.out.1) a' c' o r1 _ F4.out.st HM.out.2 (H.out.2.2.1.1 m (List.mem_of_getElem? HM.out.1)).1 (H.out.2.2.2.1 m (List.mem_of_getElem? HM.out.1)) HS.out.1 HS.out.2.1 (by omega)).mono ?_
            rintro e w6 ⟨t, g', r2, rfl, hq⟩
            have F6 := Lib.hid (F4.out.call hq.on hq.st)
            have QQ := Lib.hid hq
            clear hq
            go_wp2_with fail
            refine (wstr_any (w.heap.size + 1) _ t _ F6.out.bl (by
              have h1 := QQ.out.len
              have h2 := X.out.len
              try simp only [List.length_append, List.length_cons, List.length_nil]
              have := HS.out
              omega)).mono ?_
            rintro e w9 ⟨rfl, hb9, bx, -⟩
            have F7 := Lib.hid (F6.out.put bx hb9)
            clear bx hb9
            go_wp2_with fail
            go_roundw
            case rel =>
              refine ⟨i + 1, _, g', r2, hil, by go_num, F7, Lib.hid ?_⟩
              have hq := QQ.out
              have hx := X.out
              have hs := (sizeL_take HM.out.1).1
              have ht := tellL_take HM.out.1 (k := k)
              have hm1 : 1 ≤ sizeN m := by cases m; rw [sizeN]; omega
              refine ⟨by have := hq.hi; have := hx.hi; omega, by rw [hs]; have := hq.lo; have := hx.lo; omega, ?_, ?_, ?_, fun e => by omega⟩
              · rw [hs]
                have := hq.len
                have := hx.len
                try simp only [List.length_append, List.length_cons, List.length_nil]
                omega
              · intro e
                have h1 := hq.yes e
                have h2 := hx.yes rfl
                rw [ht.1, ht.2, bar_if k i false (by have := HK2.out; simp; omega), HWR.out, ← h2.1, h1.1]
                refine ⟨by simp [wrapT], ?_⟩
                have h3 := h1.2
                have h4 := h2.2
                simp only [Bool.false_eq_true, if_true, if_false]
                omega
              · intro e h
                refine hq.no e ⟨?_, ?_⟩
                · have h1 := nestL_take_le k l (i + 1)
                  rw [ht.2, HWR.out] at h1
                  have h2 := HN.out.2
                  rw [H.out.2.2.2.2.2.2.1, if_neg (by have := HK2.out; omega)] at h2
                  simp only [Bool.false_eq_true, if_true, if_false] at h1
                  omega
                · have h1 := tellL_take_le k l (i + 1)
                  rw [ht.1, List.length_append, List.length_append, HWR.out] at h1
                  have h2 := HN.out.1
                  rw [H.out.2.2.2.2.2.1, if_neg (by have := HK2.out; omega)] at h2
                  have h3 := congrArg List.length h2
                  rw [List.length_append] at h3
                  have h4 : (tellN m).length ≤ (wrapT false (tellN m)).length := by simp [wrapT] <;> omega
                  omega
            case measure => simp [intOf]; omega
          · have qd : (m.kind != 1) = true := by rw [bne_iff_ne]; exact hm1
            have qd' : (m.kind == 1) = false := by rw [beq_eq_false_iff_ne]; exact hm1
            have HWR := Lib.hid (wrap_val (k := k) (m := m) (b := true) (by have := HK2.out; simp; omega))
            clear hm1
            go_wp2_with fail
            refine (group_any W0 gd rm gp tl m a' c' o r1 _ F4.out.st ho16 (by have := HS.out; omega) (fun v hv => by
              have h := IH.out m (List.mem_of_getElem? HM.out.1) a' c' (o + 1) r1 v hv HM.out.2 (H.out.2.2.1.1 m (List.mem_of_getElem? HM.out.1)).1 (H.out.2.2.2.1 m (List.mem_of_getElem? HM.out.1)) HS.out.1 HS.out.2.1 (by omega)
              exact h)).mono ?_
            rintro e w6 ⟨t, g', r2, rfl, hq⟩
            have F6 := Lib.hid (F4.out.call hq.on hq.st)
            have QQ := Lib.hid hq
            clear hq
            go_wp2_with fail
            refine (wstr_any (w.heap.size + 1) _ (40 :: (t ++ [41])) _ F6.out.bl (by
              have h1 := QQ.out.len
              have h2 := X.out.len
              try simp only [List.length_append, List.length_cons, List.length_nil]
              have := HS.out
              omega)).mono ?_
            rintro e w9 ⟨rfl, hb9, bx, -⟩
            have F7 := Lib.hid (F6.out.put bx hb9)
            clear bx hb9
            go_wp2_with fail
            go_roundw
            case rel =>
              refine ⟨i + 1, _, g', r2, hil, by go_num, F7, Lib.hid ?_⟩
              have hq := QQ.out
              have hx := X.out
              have hs := (sizeL_take HM.out.1).1
              have ht := tellL_take HM.out.1 (k := k)
              have hm1 : 1 ≤ sizeN m := by cases m; rw [sizeN]; omega
              refine ⟨by have := hq.hi; have := hx.hi; omega, by rw [hs]; have := hq.lo; have := hx.lo; omega, ?_, ?_, ?_, fun e => by omega⟩
              · rw [hs]
                have := hq.len
                have := hx.len
                try simp only [List.length_append, List.length_cons, List.length_nil]
                omega
              · intro e
                have h1 := hq.yes e
                have h2 := hx.yes rfl
                rw [ht.1, ht.2, bar_if k i false (by have := HK2.out; simp; omega), HWR.out, ← h2.1, h1.1]
                refine ⟨by simp [wrapT], ?_⟩
                have h3 := h1.2
                have h4 := h2.2
                simp only [Bool.false_eq_true, if_true, if_false]
                omega
              · intro e h
                refine hq.no e ⟨?_, ?_⟩
                · have h1 := nestL_take_le k l (i + 1)
                  rw [ht.2, HWR.out] at h1
                  have h2 := HN.out.2
                  rw [H.out.2.2.2.2.2.2.1, if_neg (by have := HK2.out; omega)] at h2
                  simp only [Bool.false_eq_true, if_true, if_false] at h1
                  omega
                · have h1 := tellL_take_le k l (i + 1)
                  rw [ht.1, List.length_append, List.length_append, HWR.out] at h1
                  have h2 := HN.out.1
                  rw [H.out.2.2.2.2.2.1, if_neg (by have := HK2.out; omega)] at h2
                  have h3 := congrArg List.length h2
                  rw [List.length_append] at h3
                  have h4 : (tellN m).length ≤ (wrapT true (tellN m)).length := by simp [wrapT] <;> omega
                  omega
            case measure => simp [intOf]; omega
    · have k3 : decide ((i : Int) < (l.length : Int)) = false := decide_eq_false (by omega)
      have k3' : decide (i < l.length) = false := decide_eq_false hil
      have e : l.take i = l := List.take_of_length_le (by omega)
      have x1 := X.out.lo
      have x2 := X.out.len
      have x3 := X.out.yes
      rw [e] at x1 x2 x3
      have hal : acc.length ≤ 2500 * 1024 := by have := H.out.2.2.2.2.2.2.2; omega
      have Y := Lib.hid (And.intro x1 (And.intro x2 x3))
      clear x1 x2 x3 e
      by_cases hk : k = 1
      · have qa : (k == 1) = true := by rw [hk]; rfl
        have hl0 : l = [] := by
          rcases H.out.2.2.1.2.2.2 with h9 | h9 | h9 | h9
          · exact h9.2
          · omega
          · omega
          · omega
        have hg : g = true := X.out.zero (by rw [hl0] at hi; simp at hi; omega)
        have HK := Lib.hid (And.intro hk (And.intro hl0 hg))
        have hst := set14_any s.f
        rw [f_s4] at hst
        have HST := Lib.hid hst
        clear hst hk hl0 hg
        go_wp2_with fail
        refine (HST.out _ H.out.2.2.2.2.1 (hT.below F.out.st.base)).mono ?_
        rintro e w5 ⟨rfl, bx⟩
        have F5 := Lib.hid (F.out.go bx)
        clear bx y0 y1 y2 y3 y4 y5 y6 y7
        obtain ⟨ts, hts⟩ : ∃ ts, bsT (setT s) = ts := ⟨_, rfl⟩
        rw [hts]
        have HTS := Lib.hid hts
        clear hts
        go_wp2_with fail
        go_ret
        refine ⟨setT s, g, r1, ret_str HTS.out.symm, ?_⟩
        have h := H.out.2.2.2.2.2
        have h1 := h.1
        have h2 := h.2.1
        rw [if_pos HK.out.1] at h1 h2
        have h3 := setT_len s
        exact ⟨by have := h.2.2.1; omega, F5.out.st, F5.out.on, by have := h.2.2; have := Y.out.1; omega, by have := h.2.2; have := X.out.hi; omega, fun _ => ⟨h1.symm, by rw [h2]; omega⟩, fun e => by rw [HK.out.2.2] at e; exact absurd e (by decide)⟩
      have qa : (k == 1) = false := by rw [beq_eq_false_iff_ne]; exact hk
      by_cases hk4 : k = 4
      · have qc : (k == 4) = true := by rw [hk4]; rfl
        have htb : timesB x y = true := by
          rcases H.out.2.2.1.2.2.2 with h | h | h | h
          · omega
          · omega
          · omega
          · exact h.2.2
        have HK := Lib.hid (And.intro hk (And.intro hk4 htb))
        clear hk hk4 htb
        go_wp2_with fail
        refine wp_region_TC (fun V w' => ∃ p : Beh (w.heap.size + 1) V, w' = p.u) [] (by kernel_rfl) ?_
        intro V bb
        have F5 := Lib.hid (F.out.go bb)
        clear bb F y0 y1 y2 y3 y4 y5 y6 y7
        have f6 : ∀ p : Beh (w.heap.size + 1) V, p.u.cell? ⟨w.heap.size, 6, none⟩ = some (.int .i64 x) := fun p => (p.h.cell (p := ⟨w.heap.size, 6, none⟩) (by simp)).trans (F5.out.nb.cell 6)
        have f7 : ∀ p : Beh (w.heap.size + 1) V, p.u.cell? ⟨w.heap.size, 7, none⟩ = some (.int .i64 y) := fun p => (p.h.cell (p := ⟨w.heap.size, 7, none⟩) (by simp)).trans (F5.out.nb.cell 7)
        refine stepsQ [1, 2, 3, 4] (by kernel_rfl) (by kernel_rfl) (by kernel_rfl) ⟨⟨_, Below.refl _ _⟩, rfl⟩ ?_
        simp only [atIdx, List.filterMap_cons, List.filterMap_nil, List.getElem?_toArray, List.getElem_toArray, List.getElem?_cons_zero, List.getElem?_cons_succ, List.getElem_cons_zero, List.getElem_cons_succ]
        iterate 4 (show wpQuiet _ _ _ _ (_ :: _) _; go_big_quiet_step (fail))
        refine wpQuiet_nil ?_
        show stepT _ _ _ _ _ _ _ _ _
        clear f6 f7
        refine stepS (i := 0) rfl (by kernel_rfl) ?_
        intro Kx hKx
        go_simp
        refine (wtext_any (w.heap.size + 1) acc _ F5.out.bl).mono ?_
        rintro e w5 ⟨rfl, hb5, bx, -⟩
        refine hKx _ _ ⟨fun _ => ⟨⟨_, bx⟩, rfl⟩, ?_⟩
        clear hKx Kx
        have F6 := Lib.hid (F5.out.put bx hb5)
        refine stepT_sub (C' := fun w' => ∃ p : Regrown, w' = grow (redrawn w5 p.d) p.os) ?_ ?_
        · rintro w' ⟨p, rfl⟩
          exact ⟨⟨_, bx.trans ((below_regrown w5 p.d p.os).mono (by have := F6.out.bl.lt; omega))⟩, rfl⟩
        clear bx hb5 F5
        obtain ⟨ta, hta⟩ : ∃ ts, bsT acc = ts := ⟨_, rfl⟩
        have hsa : ta.size ≤ 2500 * 1024 := by rw [← hta, bsT_size]; exact hal
        rw [hta]
        have HTA := Lib.hid hta
        clear hta
        refine stepS (i := 5) rfl (by kernel_rfl) ?_
        intro Kx hKx
        go_simp
        refine (often_any x y _ HK.out.2.2 (hM.below F6.out.st.base)).mono ?_
        rintro e w6 ⟨rfl, bx⟩
        refine hKx _ _ ⟨fun _ => Grown.of_below bx, ?_⟩
        clear hKx Kx
        have F7 := Lib.hid (F6.out.go bx)
        refine stepT_base bx ?_
        clear bx F6
        obtain ⟨ts, hts⟩ : ∃ ts, bsT (oftenT x y) = ts := ⟨_, rfl⟩
        have hso : ts.size ≤ 7 := by rw [← hts, bsT_size]; exact oftenT_len HK.out.2.2
        rw [hts]
        have HTS := Lib.hid hts
        clear hts
        refine stepsQ [6, 7] (by kernel_rfl) (by kernel_rfl) (by kernel_rfl) (Grown.of_below (Below.refl _ _)) ?_
        simp only [atIdx, List.filterMap_cons, List.filterMap_nil, List.getElem?_toArray, List.getElem_toArray, List.getElem?_cons_zero, List.getElem?_cons_succ, List.getElem_cons_zero, List.getElem_cons_succ]
        iterate 2 (show wpQuiet _ _ _ _ (_ :: _) _; go_big_quiet_step (fail))
        refine wpQuiet_nil ?_
        show stepT _ _ _ _ _ _ _ _ _
        refine stepT_end (by kernel_rfl) ?_
        go_wp2_with fail
        go_ret
        refine ⟨acc ++ oftenT x y, g, r1, ret_str (by rw [← HTA.out, ← HTS.out, bsT_app]), ?_⟩
        have h := H.out.2.2.2.2.2
        have h1 := h.1
        have h2 := h.2.1
        rw [if_neg HK.out.1] at h1 h2
        rw [if_pos HK.out.2.1] at h1
        have h3 := oftenT_len HK.out.2.2
        exact ⟨by rw [List.length_append]; have := h.2.2.1; have := Y.out.2.1; omega, F7.out.st, F7.out.on, by have := h.2.2; have := Y.out.1; omega, by have := h.2.2; have := X.out.hi; omega, fun e => by rw [h1, h2, (Y.out.2.2 e).1]; exact ⟨rfl, (Y.out.2.2 e).2⟩, fun e => by rw [HN.out.1, HN.out.2]; exact X.out.no e⟩
      · have qc : (k == 4) = false := by rw [beq_eq_false_iff_ne]; exact hk4
        have HK := Lib.hid (And.intro hk hk4)
        clear hk hk4
        go_wp2_with fail
        refine (wtext_any (w.heap.size + 1) acc _ F.out.bl).mono ?_
        rintro e w5 ⟨rfl, hb5, bx, -⟩
        have F5 := Lib.hid (F.out.put bx hb5)
        clear bx hb5 y0 y1 y2 y3 y4 y5 y6 y7
        obtain ⟨ts, hts⟩ : ∃ ts, bsT acc = ts := ⟨_, rfl⟩
        rw [hts]
        have HTS := Lib.hid hts
        clear hts
        go_wp2_with fail
        go_ret
        refine ⟨acc, g, r1, ret_str HTS.out.symm, ?_⟩
        have h := H.out.2.2.2.2.2
        have h1 := h.1
        have h2 := h.2.1
        rw [if_neg HK.out.1] at h1 h2
        rw [if_neg HK.out.2, List.append_nil] at h1
        exact ⟨by have := h.2.2.1; have := Y.out.2.1; omega, F5.out.st, F5.out.on, by have := h.2.2; have := Y.out.1; omega, by have := h.2.2; have := X.out.hi; omega, fun e => by rw [h1, h2]; exact Y.out.2.2 e, fun e => by rw [HN.out.1, HN.out.2]; exact X.out.no e⟩
end Go.Proofs.YtpknglbpbodnbaaDoor
