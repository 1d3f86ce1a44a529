/-
  The walks of the reference's Size, and of Great, for a tree of any size: some numbers come back. Conditions: the tree lies in memory.
  What Text's closures share, for a tree of any size: whether all is good, how much room is left (-1 at least), and themselves. Conditions: each lemma says its own.
  The walks of Text's closures group and tell, for a tree of any size. Conditions: the tree may be, its words fit.
  The walk of the program's Text, for a tree of any size: what it tells is the tree's own text, or it tells nothing. Conditions: the words fit; the tables lie as laid.
  The walk of RegtextBack, for trees of any size. Conditions: the arguments are trees; the library's table and the program's marks lie as laid.
  RegtextBack at its row. Conditions: none but what each says.
-/
import Derived.Test.YtpknglbpbodnbaaDoorJRgMem
import Derived.Test.YtpknglbpbodnbaaDoorJRgTellW
import Derived.Test.YtpknglbpbodnbaaDoorJRgRefText
import Derived.Laws.EntriesVeiled
import Derived.Test.YtpknglbpbodnbaaDoorJRgAgainE
import Derived.Test.YtpknglbpbodnbaaDoorJRgTO
namespace Go.Proofs.YtpknglbpbodnbaaDoor
set_option linter.unusedVariables false
set_option linter.unusedSimpArgs false
open Go.RowKit Go.Sort Cs Rg Go.ChangeShapes Go.WideShapes

set_option maxHeartbeats 8000000 in
set_option maxRecDepth 1000000 in
theorem refsize_wild (n : Nd) : ∀ (v : Value) (w : World), NdAt w v n →
    Calls Tryd.prog 16 #[v] w fun e w' => ∃ A D : Int, e = .returned (.tuple #[.int .i64 A, .int .i64 D]) ∧ Below w.heap.size w w' := by
  refine Nd.ind (P := fun n => ∀ (v : Value) (w : World), NdAt w v n →
    Calls Tryd.prog 16 #[v] w fun e w' => ∃ A D : Int, e = .returned (.tuple #[.int .i64 A, .int .i64 D]) ∧ Below w.heap.size w w') (fun k s l x y ih v w hv => ?_) n
  obtain ⟨a, c, rfl, hin⟩ := hv
  have hln : l.length ≤ 9223372036854775807 := by have := hin.len; unfold maxLen at this; exact this
  have hb0 := (Below.refl w.heap.size w).alloc (Nat.le_refl _) (.cells #[.int .i64 k, .int .u64 s.a, .int .u64 s.b, .int .u64 s.c, .int .u64 s.d, .slice a l.length c, .int .i64 x, .int .i64 y] 27)
  have hq := Blk.new w 27 #[.int .i64 k, .int .u64 s.a, .int .u64 s.b, .int .u64 s.c, .int .u64 s.d, .slice a l.length c, .int .i64 x, .int .i64 y]
  have H := Lib.hid (And.intro (hin.below hb0) (And.intro hq hb0))
  have IH := Lib.hid ih
  obtain ⟨⟨y0, y1, y2, y3, y4, y5, y6, y7⟩, -⟩ := hq.c8
  clear hin hb0 hq ih
  show Calls Tryd.prog 16 #[.agg #[.int .i64 k, .int .u64 s.a, .int .u64 s.b, .int .u64 s.c, .int .u64 s.d, .slice a l.length c, .int .i64 x, .int .i64 y]] w _
  go_enter Tryd.func16, Tryd.ntmps16
  go_wp2_with fail
  clear y0 y1 y2 y3 y4 y5 y6 y7
  generalize w.alloc (.cells #[.int .i64 k, .int .u64 s.a, .int .u64 s.b, .int .u64 s.c, .int .u64 s.d, .slice a l.length c, .int .i64 x, .int .i64 y] 27) = W at *
  go_loopw [4, 5, 6] (fun sa sd si wr => ∃ (i : Nat) (A C : Int), sa = .int .i64 A ∧ sd = .int .i64 C ∧ si = .int .i64 (i : Int) ∧ i ≤ l.length ∧ Below W.heap.size W wr) (fun _ _ si _ => l.length - (intOf si).toNat)
  case atStart => exact ⟨0, 1, 0, rfl, rfl, rfl, Nat.zero_le _, Below.refl _ _⟩
  case round =>
    obtain ⟨i, A, C, rfl, rfl, rfl, hi, hbr⟩ := hrel
    have hq := H.out.2.1.below hbr H.out.2.1.lt
    obtain ⟨⟨y0, y1, y2, y3, y4, y5, y6, y7⟩, -⟩ := hq.c8
    have hin := H.out.1.below hbr
    by_cases hil : i < l.length
    · have k1 : decide (i < l.length) = true := decide_eq_true hil
      obtain ⟨m, hm⟩ : ∃ m, l[i]? = some m := ⟨_, List.getElem?_eq_getElem hil⟩
      obtain ⟨b, o, a', c', rfl, hblt, hl8, hin'⟩ := hin.kid (i := i) (m := m) hm
      obtain ⟨z0, z1, z2, z3, z4, z5, z6, z7⟩ := hl8.c8
      go_wp2_with fail
      refine (IH.out m (List.mem_of_getElem? hm) _ wr ⟨a', c', rfl, hin'⟩).mono ?_
      rintro e w1 ⟨B, D, rfl, bx⟩
      have HT := Lib.hid (hbr.trans (bx.mono hbr.size))
      clear hin hin' hl8 hq y0 y1 y2 y3 y4 y5 y6 y7 z0 z1 z2 z3 z4 z5 z6 z7 hbr bx hm
      by_cases hCD : C < D
      · have k2 : decide (C < D) = true := decide_eq_true hCD
        go_wp2_with fail
        go_roundw
        case rel => exact ⟨i + 1, _, _, rfl, rfl, by go_num, hil, HT.out⟩
        case measure => simp [intOf]; omega
      · have k2 : decide (C < D) = false := decide_eq_false hCD
        go_wp2_with fail
        go_roundw
        case rel => exact ⟨i + 1, _, _, rfl, rfl, by go_num, hil, HT.out⟩
        case measure => simp [intOf]; omega
    · have k1 : decide (i < l.length) = false := decide_eq_false hil
      go_wp2_with fail
      refine bodyPost_ret (results_tmp2 rfl _ _ _) rfl ?_
      exact ⟨_, _, rfl, H.out.2.2.trans (hbr.mono H.out.2.2.size)⟩
set_option maxHeartbeats 8000000 in
set_option maxRecDepth 1000000 in
theorem great_wild (n : Nd) (v : Value) (w : World) (hv : NdAt w v n) :
    Calls Tryd.prog 6 #[v] w fun e w' => ∃ B : Bool, e = .returned (.bool B) ∧ Below w.heap.size w w' := by
  obtain ⟨a, c, rfl, hin⟩ := hv
  have hb0 := (Below.refl w.heap.size w).alloc (Nat.le_refl _) (.cells #[.int .i64 n.kind, .int .u64 n.set.a, .int .u64 n.set.b, .int .u64 n.set.c, .int .u64 n.set.d, .slice a n.kids.length c, .int .i64 n.lo, .int .i64 n.hi] 27)
  have hq := Blk.new w 27 #[.int .i64 n.kind, .int .u64 n.set.a, .int .u64 n.set.b, .int .u64 n.set.c, .int .u64 n.set.d, .slice a n.kids.length c, .int .i64 n.lo, .int .i64 n.hi]
  have H := Lib.hid (And.intro (hin.below hb0) hb0)
  obtain ⟨⟨y0, y1, y2, y3, y4, y5, y6, y7⟩, -⟩ := hq.c8
  clear hin hb0 hq
  unfold nodeV
  go_enter Tryd.func6, Tryd.ntmps6
  go_wp2_with fail
  refine (refsize_wild n _ _ ⟨a, c, rfl, H.out.1⟩).mono ?_
  rintro e w1 ⟨A, D, rfl, bx⟩
  have HB := Lib.hid (H.out.2.trans (bx.mono H.out.2.size))
  clear bx y0 y1 y2 y3 y4 y5 y6 y7
  by_cases h1 : 300 < A
  · have k1 : decide (300 < A) = true := decide_eq_true h1
    go_wp2_with fail
    go_ret
    exact ⟨_, rfl, HB.out⟩
  · have k1 : decide (300 < A) = false := decide_eq_false h1
    go_wp2_with fail
    go_ret
    exact ⟨_, rfl, HB.out⟩
end Go.Proofs.YtpknglbpbodnbaaDoor
namespace Go.Proofs.YtpknglbpbodnbaaDoor
set_option linter.unusedVariables false
set_option linter.unusedSimpArgs false
open Go.RowKit Go.Sort Cs Rg Go.ChangeShapes Go.WideShapes
namespace Wild

/-- the variables of Text that its closures share -/
structure Vs (W0 w : World) (gd rm gp tl : Nat) (g : Bool) (r : Int) : Prop where
  good : Blk w gd 4 #[.bool g]
  room : Blk w rm 3 #[.int .i64 r]
  grp : Blk w gp 45 #[.func (.func 18) #[] #[vPtr tl]]
  tel : Blk w tl 45 #[.func (.func 19) #[] #[vPtr rm, vPtr gd, vPtr gp, vPtr tl]]
  base : Below W0.heap.size W0 w
  b1 : W0.heap.size ≤ gd
  b2 : W0.heap.size ≤ rm
theorem Vs.belowB {W0 w w' : World} {gd rm gp tl B : Nat} {g : Bool} {r : Int} (h : Vs W0 w gd rm gp tl g r) (hb : Below B w w') (h1 : gd < B) (h2 : rm < B) (h3 : gp < B) (h4 : tl < B) : Vs W0 w' gd rm gp tl g r :=
  ⟨h.good.below hb h1, h.room.below hb h2, h.grp.below hb h3, h.tel.below hb h4, h.base.trans (hb.mono (by have := h.b1; omega)), h.b1, h.b2⟩
theorem Vs.go {W0 w w' : World} {gd rm gp tl : Nat} {g : Bool} {r : Int} (h : Vs W0 w gd rm gp tl g r) (hb : Below w.heap.size w w') : Vs W0 w' gd rm gp tl g r :=
  h.belowB hb h.good.lt h.room.lt h.grp.lt h.tel.lt
theorem Vs.ne {W0 w : World} {gd rm gp tl : Nat} {g : Bool} {r : Int} (h : Vs W0 w gd rm gp tl g r) : gd ≠ rm ∧ gd ≠ gp ∧ gd ≠ tl ∧ rm ≠ gp ∧ rm ≠ tl :=
  ⟨Blk.ne_ h.good h.room (by decide), Blk.ne_ h.good h.grp (by decide), Blk.ne_ h.good h.tel (by decide), Blk.ne_ h.room h.grp (by decide), Blk.ne_ h.room h.tel (by decide)⟩
theorem Vs.setRoom {W0 w : World} {gd rm gp tl : Nat} {g : Bool} {r : Int} (h : Vs W0 w gd rm gp tl g r) (r' : Int) : Vs W0 (w.setCell ⟨rm, 0, none⟩ (.int .i64 r')) gd rm gp tl g r' :=
  ⟨h.good.far (p := ⟨rm, 0, none⟩) h.ne.1 _, h.room.set_ 0 _, h.grp.far (p := ⟨rm, 0, none⟩) (fun e => h.ne.2.2.2.1 e.symm) _, h.tel.far (p := ⟨rm, 0, none⟩) (fun e => h.ne.2.2.2.2 e.symm) _, h.base.setCell (p := ⟨rm, 0, none⟩) h.b2 _, h.b1, h.b2⟩
theorem Vs.setGood {W0 w : World} {gd rm gp tl : Nat} {g : Bool} {r : Int} (h : Vs W0 w gd rm gp tl g r) (g' : Bool) : Vs W0 (w.setCell ⟨gd, 0, none⟩ (.bool g')) gd rm gp tl g' r :=
  ⟨h.good.set_ 0 _, h.room.far (p := ⟨gd, 0, none⟩) (fun e => h.ne.1 e.symm) _, h.grp.far (p := ⟨gd, 0, none⟩) (fun e => h.ne.2.1 e.symm) _, h.tel.far (p := ⟨gd, 0, none⟩) (fun e => h.ne.2.2.1 e.symm) _, h.base.setCell (p := ⟨gd, 0, none⟩) h.b1 _, h.b1, h.b2⟩
/-- what telling a part comes to -/
structure TQ (W0 : World) (gd rm gp tl : Nat) (n : Nd) (o : Nat) (r : Int) (w : World) (t : List Nat) (g' : Bool) (r' : Int) (w' : World) : Prop where
  len : (t.length : Int) + 50 ≤ 2500 * (r - r')
  st : Vs W0 w' gd rm gp tl g' r'
  on : Only [gd, rm] w w'
  lo : -1 ≤ r'
  hi : r' < r
  pos : g' = true → 0 ≤ r'
  yes : g' = true → t = tellN n ∧ o + nestN n ≤ 16
/-- a call's own state -/
structure Fr (W0 w w' : World) (gd rm gp tl : Nat) (cs : Array Value) (g : Bool) (r : Int) (acc : List Nat) : Prop where
  st : Vs W0 w' gd rm gp tl g r
  nb : Blk w' w.heap.size 27 cs
  bl : Bld w' (w.heap.size + 1) acc
  on : Only [gd, rm] w w'
  e1 : gd < w.heap.size
  e2 : rm < w.heap.size
  e3 : gp < w.heap.size
  e4 : tl < w.heap.size
section
variable {W0 w w' w2 : World} {gd rm gp tl : Nat} {cs : Array Value} {g g' : Bool} {r r' : Int} {acc acc2 : List Nat}
theorem Fr.go (h : Fr W0 w w' gd rm gp tl cs g r acc) (hb : Below w'.heap.size w' w2) : Fr W0 w w2 gd rm gp tl cs g r acc :=
  ⟨h.st.go hb, h.nb.below hb h.nb.lt, h.bl.below hb, h.on.put hb h.on.size, h.e1, h.e2, h.e3, h.e4⟩
theorem Fr.put (h : Fr W0 w w' gd rm gp tl cs g r acc) (hb : Below (w.heap.size + 1) w' w2) (h2 : Bld w2 (w.heap.size + 1) acc2) : Fr W0 w w2 gd rm gp tl cs g r acc2 :=
  ⟨h.st.belowB hb (by have := h.e1; omega) (by have := h.e2; omega) (by have := h.e3; omega) (by have := h.e4; omega), h.nb.below hb (by omega), h2, h.on.put hb (by omega), h.e1, h.e2, h.e3, h.e4⟩
theorem Fr.call (h : Fr W0 w w' gd rm gp tl cs g r acc) (ho : Only [gd, rm] w' w2) (h2 : Vs W0 w2 gd rm gp tl g' r') : Fr W0 w w2 gd rm gp tl cs g' r' acc :=
  ⟨h2, h.nb.only ho (by have := h.e1; have := h.e2; simp; omega), h.bl.only ho (fun k hk => by have := h.e1; have := h.e2; simp at hk; rcases hk with rfl | rfl <;> omega), h.on.trans ho, h.e1, h.e2, h.e3, h.e4⟩
theorem Fr.bad (h : Fr W0 w w' gd rm gp tl cs g r acc) : Fr W0 w (w'.setCell ⟨gd, 0, none⟩ (.bool false)) gd rm gp tl cs false r acc :=
  h.call ((Only.refl _ _).setCell (a := ⟨gd, 0, none⟩) (by simp) _) (h.st.setGood false)
end
/-- a loop's plain facts -/
structure LF (k : Int) (l : List Nd) (o : Nat) (q : Int) (i : Nat) (acc : List Nat) (g : Bool) (r1 : Int) : Prop where
  hi : r1 ≤ q
  lo : -1 ≤ r1
  len : (acc.length : Int) ≤ 2500 * (q - r1)
  pos : g = true → 0 ≤ r1
  yes : g = true → acc = tellL k true (l.take i) ∧ o + nestL k (l.take i) ≤ 16
  zero : i = 0 → g = true
end Wild
end Go.Proofs.YtpknglbpbodnbaaDoor
namespace Go.Proofs.YtpknglbpbodnbaaDoor
set_option linter.unusedVariables false
set_option linter.unusedSimpArgs false
open Go.RowKit Go.Sort Cs Rg Go.ChangeShapes Go.WideShapes
namespace Wild

set_option maxHeartbeats 8000000 in
set_option maxRecDepth 1000000 in
theorem group_any (W0 : World) (gd rm gp tl : Nat) (m : Nd) (a : Option Addr) (c o : Nat) (r : Int) (w : World) (hv : Vs W0 w gd rm gp tl true r) (ho : o ≤ 16) (hm : r ≤ 1024)
    (ih : ∀ w1, Vs W0 w1 gd rm gp tl true r → Calls Tryd.prog 19 #[.agg #[.int .i64 m.kind, .int .u64 m.set.a, .int .u64 m.set.b, .int .u64 m.set.c, .int .u64 m.set.d, .slice a m.kids.length c, .int .i64 m.lo, .int .i64 m.hi], .int .i64 ((o : Int) + 1), vPtr rm, vPtr gd, vPtr gp, vPtr tl] w1 fun e w' => ∃ (t : List Nat) (g' : Bool) (r' : Int), e = .returned (.string (bsT t)) ∧ TQ W0 gd rm gp tl m (o + 1) r w1 t g' r' w') :
    Calls Tryd.prog 18 #[.agg #[.int .i64 m.kind, .int .u64 m.set.a, .int .u64 m.set.b, .int .u64 m.set.c, .int .u64 m.set.d, .slice a m.kids.length c, .int .i64 m.lo, .int .i64 m.hi], .int .i64 (o : Int), vPtr tl] w fun e w' => ∃ (t : List Nat) (g' : Bool) (r' : Int), e = .returned (.string (bsT (40 :: (t ++ [41])))) ∧ TQ W0 gd rm gp tl m (o + 1) r w t g' r' w' := by
  have hbk := (Below.refl w.heap.size w).alloc (Nat.le_refl _) (.cells #[.int .i64 m.kind, .int .u64 m.set.a, .int .u64 m.set.b, .int .u64 m.set.c, .int .u64 m.set.d, .slice a m.kids.length c, .int .i64 m.lo, .int .i64 m.hi] 27)
  have nb := Blk.new w 27 #[.int .i64 m.kind, .int .u64 m.set.a, .int .u64 m.set.b, .int .u64 m.set.c, .int .u64 m.set.d, .slice a m.kids.length c, .int .i64 m.lo, .int .i64 m.hi]
  have hv1 := hv.go hbk
  have y := hv1.tel.cell 0
  obtain ⟨⟨y0, y1, y2, y3, y4, y5, y6, y7⟩, -⟩ := nb.c8
  have IH := Lib.hid ih
  have H := Lib.hid (And.intro hv1 hbk)
  clear hbk nb hv1 ih
  simp only [List.getElem?_toArray, List.getElem?_cons_zero] at y
  go_enter Tryd.func18, Tryd.ntmps18
  go_wp2_with fail
  refine (IH.out _ H.out.1).mono ?_
  rintro e w1 ⟨t, g', r', rfl, hq⟩
  have hz : (bsT t).size ≤ 2500 * 1025 := by rw [bsT_size]; have := hq.len; have := hq.lo; omega
  obtain ⟨ts, hts⟩ : ∃ ts, bsT t = ts := ⟨_, rfl⟩
  rw [hts] at hz ⊢
  have HQ := Lib.hid (And.intro hts hq)
  clear hts hq y y0 y1 y2 y3 y4 y5 y6 y7
  go_wp2_with fail
  go_ret
  refine ⟨t, g', r', ret_str ?_, ?_⟩
  · rw [← HQ.out.1, show (⟨#[40]⟩ : ByteArray) = bsT [40] from rfl, show (⟨#[41]⟩ : ByteArray) = bsT [41] from rfl, bsT_app, bsT_app]
    simp
  · have h := HQ.out.2
    exact ⟨h.len, h.st, (Only.of_below H.out.2).trans h.on, h.lo, h.hi, h.pos, h.yes⟩
set_option maxHeartbeats 8000000 in
set_option maxRecDepth 1000000 in
theorem tell_any (W0 : World) (gd rm gp tl : Nat) (hT : TabIn W0) (hM : MarksIn W0) (n : Nd) : ∀ (a : Option Addr) (c o : Nat) (r : Int) (w : World), Vs W0 w gd rm gp tl true r → NdIn W0 a n → rightN n = true → InN n → 0 ≤ r → r ≤ 1024 → o ≤ 17 → Calls Tryd.prog 19 #[.agg #[.int .i64 n.kind, .int .u64 n.set.a, .int .u64 n.set.b, .int .u64 n.set.c, .int .u64 n.set.d, .slice a n.kids.length c, .int .i64 n.lo, .int .i64 n.hi], .int .i64 (o : Int), vPtr rm, vPtr gd, vPtr gp, vPtr tl] w fun e w' => ∃ (t : List Nat) (g' : Bool) (r' : Int), e = .returned (.string (bsT t)) ∧ TQ W0 gd rm gp tl n o r w t g' r' w' := by
  refine Nd.ind (P := fun n => ∀ (a : Option Addr) (c o : Nat) (r : Int) (w : World), Vs W0 w gd rm gp tl true r → NdIn W0 a n → rightN n = true → InN n → 0 ≤ r → r ≤ 1024 → o ≤ 17 → Calls Tryd.prog 19 #[.agg #[.int .i64 n.kind, .int .u64 n.set.a, .int .u64 n.set.b, .int .u64 n.set.c, .int .u64 n.set.d, .slice a n.kids.length c, .int .i64 n.lo, .int .i64 n.hi], .int .i64 (o : Int), vPtr rm, vPtr gd, vPtr gp, vPtr tl] w fun e w' => ∃ (t : List Nat) (g' : Bool) (r' : Int), e = .returned (.string (bsT t)) ∧ TQ W0 gd rm gp tl n o r w t g' r' w') (fun k s l x y ih a c o r w hv hin hr hI hr0 hr1 ho => ?_) n
  have hln : l.length ≤ 9223372036854775807 := by have := hin.len; unfold maxLen at this; exact this
  have hsz : sizeN (.mk k s l x y) = 1 + sizeL l := by rw [sizeN]
  have hri := rightN_iff.1 hr
  have hIl := InL_iff.1 (show InL l by rw [InN] at hI; exact hI.2)
  have hIs : SetIn s.f := by rw [InN] at hI; exact hI.1
  have hTl : tellN (.mk k s l x y) = if k = 1 then setT s else tellL k true l ++ (if k = 4 then oftenT x y else []) := by rw [tellN]
  have hD : nestN (.mk k s l x y) = if k = 1 then 0 else nestL k l := by rw [nestN]
  have hbk := (Below.refl w.heap.size w).alloc (Nat.le_refl _) (.cells #[.int .i64 k, .int .u64 s.a, .int .u64 s.b, .int .u64 s.c, .int .u64 s.d, .slice a l.length c, .int .i64 x, .int .i64 y] 27)
  have nb := Blk.new w 27 #[.int .i64 k, .int .u64 s.a, .int .u64 s.b, .int .u64 s.c, .int .u64 s.d, .slice a l.length c, .int .i64 x, .int .i64 y]
  have hv1 := hv.go hbk
  have c0 := hv1.room.cell 0
  have z0 := hv1.room.frozen 0
  simp only [List.getElem?_toArray, List.getElem?_cons_zero] at c0
  obtain ⟨⟨y0, y1, y2, y3, y4, y5, y6, y7⟩, -⟩ := nb.c8
  have hq : ∃ q : Int, r - 1 = q ∧ r = q + 1 := ⟨r - 1, by omega, by omega⟩
  obtain ⟨q, hq, hrq⟩ := hq
  have IH := Lib.hid ih
  have H := Lib.hid (And.intro hv (And.intro hin (And.intro hri (And.intro hIl (And.intro hIs (And.intro hTl (And.intro hD (And.intro hsz (And.intro hr0 (And.intro hr1 hrq))))))))))
  have HC := Lib.hid (And.intro hbk (And.intro nb hv1))
  clear hv hin hri hIl hIs hTl hD hsz hbk nb hv1 ih hr hI hrq
  show Calls Tryd.prog 19 #[.agg #[.int .i64 k, .int .u64 s.a, .int .u64 s.b, .int .u64 s.c, .int .u64 s.d, .slice a l.length c, .int .i64 x, .int .i64 y], .int .i64 (o : Int), vPtr rm, vPtr gd, vPtr gp, vPtr tl] w _
  go_enter Tryd.func19, Tryd.ntmps19
  go_upto_region 2 with (fail)
  have v2 := HC.out.2.2.setRoom q
  have n2 := HC.out.2.1.far (p := ⟨rm, 0, none⟩) (fun e => by have := H.out.1.room.lt; simp at e; omega) (.int .i64 q)
  have o2 : Only [gd, rm] w ((w.alloc (.cells #[.int .i64 k, .int .u64 s.a, .int .u64 s.b, .int .u64 s.c, .int .u64 s.d, .slice a l.length c, .int .i64 x, .int .i64 y] 27)).setCell ⟨rm, 0, none⟩ (.int .i64 q)) := (Only.of_below HC.out.1).setCell (a := ⟨rm, 0, none⟩) (by simp) _
  have s2 : ((w.alloc (.cells #[.int .i64 k, .int .u64 s.a, .int .u64 s.b, .int .u64 s.c, .int .u64 s.d, .slice a l.length c, .int .i64 x, .int .i64 y] 27)).setCell ⟨rm, 0, none⟩ (.int .i64 q)).heap.size = w.heap.size + 1 := by simp
  clear y0 y1 y2 y3 y4 y5 y6 y7 c0 z0 HC
  generalize (w.alloc (.cells #[.int .i64 k, .int .u64 s.a, .int .u64 s.b, .int .u64 s.c, .int .u64 s.d, .slice a l.length c, .int .i64 x, .int .i64 y] 27)).setCell ⟨rm, 0, none⟩ (.int .i64 q) = w2 at *
  have c0 := v2.room.cell 0
  simp only [List.getElem?_toArray, List.getElem?_cons_zero] at c0
  have G := Lib.hid (And.intro v2 (And.intro n2 (And.intro o2 s2)))
  clear v2 n2 o2 s2 hq
  by_cases ho16 : o ≤ 16
  case neg =>
    have k1 : decide ((16 : Int) < (o : Int)) = true := decide_eq_true (by omega)
    have k1' : decide (16 < o) = true := decide_eq_true (by omega)
    have d0 := G.out.1.good.cell 0
    have z0 := G.out.1.good.frozen 0
    simp only [List.getElem?_toArray, List.getElem?_cons_zero] at d0
    go_wp2_with fail
    go_ret
    refine ⟨[], false, q, rfl, ?_⟩
    have h := H.out.2.2.2.2.2.2.2
    exact ⟨by simp; omega, G.out.1.setGood false, G.out.2.2.1.setCell (a := ⟨gd, 0, none⟩) (by simp) _, by omega, by omega, fun e => absurd e (by decide), fun e => absurd e (by decide)⟩
  case pos =>
  have k1 : decide ((16 : Int) < (o : Int)) = false := decide_eq_false (by omega)
  have k1' : decide (16 < o) = false := decide_eq_false (by omega)
  by_cases hq0 : q < 0
  case pos =>
    have k2 : decide (q < 0) = true := decide_eq_true hq0
    have d0 := G.out.1.good.cell 0
    have z0 := G.out.1.good.frozen 0
    simp only [List.getElem?_toArray, List.getElem?_cons_zero] at d0
    go_wp2_with fail
    go_ret
    refine ⟨[], false, q, rfl, ?_⟩
    have h := H.out.2.2.2.2.2.2.2
    exact ⟨by simp; omega, G.out.1.setGood false, G.out.2.2.1.setCell (a := ⟨gd, 0, none⟩) (by simp) _, by omega, by omega, fun e => absurd e (by decide), fun e => absurd e (by decide)⟩
  case neg =>
  have k2 : decide (q < 0) = false := decide_eq_false hq0
  go_upto_region 6 with (fail)
  have hbb := (Below.refl w2.heap.size w2).alloc (Nat.le_refl _) (.cells #[.pointer none, .slice none 0 0] 49)
  have hnew := Bld.new w2
  rw [G.out.2.2.2] at hnew ⊢
  have F := Lib.hid (Fr.mk (G.out.1.go hbb) (G.out.2.1.below hbb G.out.2.1.lt) hnew (G.out.2.2.1.put hbb G.out.2.2.1.size) H.out.1.good.lt H.out.1.room.lt H.out.1.grp.lt H.out.1.tel.lt)
  clear hbb hnew c0
  generalize w2.alloc (.cells #[.pointer none, .slice none 0 0] 49) = w3 at *
  clear G
  obtain ⟨⟨y0, y1, y2, y3, y4, y5, y6, y7⟩, -⟩ := F.out.nb.c8
  go_wp2_with fail
  clear y0 y1 y2 y3 y4 y5 y6 y7
  go_loopw [23] (fun ci wr => ∃ (i : Nat) (acc : List Nat) (g : Bool) (r1 : Int), i ≤ l.length ∧ ci = .int .i64 (i : Int) ∧ Hid (Fr W0 w wr gd rm gp tl #[.int .i64 k, .int .u64 s.a, .int .u64 s.b, .int .u64 s.c, .int .u64 s.d, .slice a l.length c, .int .i64 x, .int .i64 y] g r1 acc) ∧ Hid (LF k l o q i acc g r1)) (fun ci _ => l.length - (intOf ci).toNat)
  case atStart => exact ⟨0, [], true, q, Nat.zero_le _, rfl, F, Lib.hid ⟨Int.le_refl _, by omega, by simp, fun _ => by omega, fun _ => ⟨rfl, by simp [nestL]; omega⟩, fun _ => rfl⟩⟩
  case round =>
    clear F
    obtain ⟨i, acc, g, r1, hi, rfl, F, X⟩ := hrel
    obtain ⟨⟨y0, y1, y2, y3, y4, y5, y6, y7⟩, -⟩ := F.out.nb.c8
    by_cases hil : i < l.length
    · have k3 : decide ((i : Int) < (l.length : Int)) = true := decide_eq_true (by omega)
      have k3' : decide (i < l.length) = true := decide_eq_true hil
      obtain ⟨m, hm⟩ : ∃ m, l[i]? = some m := ⟨_, List.getElem?_eq_getElem hil⟩
      obtain ⟨b, off, a', c', rfl, hblt, hl8w, hin'⟩ := H.out.2.1.kid (i := i) (m := m) hm
      have hl8 := hl8w.below F.out.st.base
      obtain ⟨z0, z1, z2, z3, z4, z5, z6, z7⟩ := hl8.c8
      have HM := Lib.hid (And.intro hm hin')
      clear hl8 hl8w hblt hm hin'
      have hs0 : r1 ≤ 1024 ∧ acc.length ≤ 2500 * 1024 := by
        have h4 := X.out.lo
        have h5 := X.out.hi
        have h6 := X.out.len
        have h7 := H.out.2.2.2.2.2.2.2
        omega
      have HS := Lib.hid hs0
      have hac := hs0.2
      clear hs0
      go_upto_region 9 with (fail)
      have hbk := (Below.refl wr.heap.size wr).alloc (Nat.le_refl _) (.cells #[.int .i64 m.kind, .int .u64 m.set.a, .int .u64 m.set.b, .int .u64 m.set.c, .int .u64 m.set.d, .slice a' m.kids.length c', .int .i64 m.lo, .int .i64 m.hi] 27)
      have nb := Blk.new wr 27 #[.int .i64 m.kind, .int .u64 m.set.a, .int .u64 m.set.b, .int .u64 m.set.c, .int .u64 m.set.d, .slice a' m.kids.length c', .int .i64 m.lo, .int .i64 m.hi]
      have hkb : wr.heap.size ≠ w.heap.size + 1 := by have := F.out.bl.lt; omega
      have F4 := Lib.hid (F.out.go hbk)
      have HKB := Lib.hid (And.intro nb hkb)
      clear y0 y1 y2 y3 y4 y5 y6 y7 z0 z1 z2 z3 z4 z5 z6 z7 hbk nb hkb F
      generalize hkb0 : wr.heap.size = kb at *
      generalize wr.alloc (.cells #[.int .i64 m.kind, .int .u64 m.set.a, .int .u64 m.set.b, .int .u64 m.set.c, .int .u64 m.set.d, .slice a' m.kids.length c', .int .i64 m.lo, .int .i64 m.hi] 27) = w4 at *
      clear hkb0
      cases g with
      | false =>
        have d0 := F4.out.st.good.cell 0
        have dz := F4.out.st.good.frozen 0
        simp only [List.getElem?_toArray, List.getElem?_cons_zero] at d0
        go_wp2_with fail
        go_ret
        refine ⟨[], false, r1, rfl, ?_⟩
        exact ⟨by have := H.out.2.2.2.2.2.2.2; have := X.out.hi; simp; omega, F4.out.bad.st, F4.out.bad.on, X.out.lo, by have := H.out.2.2.2.2.2.2.2; have := X.out.hi; omega, fun e => absurd e (by decide), fun e => absurd e (by decide)⟩
      | true =>
      have d0 := F4.out.st.good.cell 0
      simp only [List.getElem?_toArray, List.getElem?_cons_zero] at d0
      go_wp2_with fail
      refine (wlen_any (w.heap.size + 1) acc _ F4.out.bl (by omega)).mono ?_
      rintro e w5 ⟨rfl, rfl⟩
      clear d0
      have hk4 : k = 2 ∨ k = 3 ∨ k = 4 := by
        rcases H.out.2.2.1.2.2.2 with h9 | h9 | h9 | h9
        · exfalso; rw [h9.2] at hil; simp at hil
        · exact .inl h9.1
        · exact .inr (.inl h9.1)
        · exact .inr (.inr h9.1)
      by_cases hl6 : acc.length ≤ 256
      case neg =>
        have k4 : decide ((256 : Int) < (acc.length : Int)) = true := decide_eq_true (by omega)
        have k4' : decide (256 < acc.length) = true := decide_eq_true (by omega)
        have d0 := F4.out.st.good.cell 0
        have dz := F4.out.st.good.frozen 0
        simp only [List.getElem?_toArray, List.getElem?_cons_zero] at d0
        go_wp2_with fail
        go_ret
        refine ⟨[], false, r1, rfl, ?_⟩
        exact ⟨by have := H.out.2.2.2.2.2.2.2; have := X.out.hi; simp; omega, F4.out.bad.st, F4.out.bad.on, X.out.lo, by have := H.out.2.2.2.2.2.2.2; have := X.out.hi; omega, fun e => absurd e (by decide), fun e => absurd e (by decide)⟩
      case pos =>
      have k4 : decide ((256 : Int) < (acc.length : Int)) = false := decide_eq_false (by omega)
      have k4' : decide (256 < acc.length) = false := decide_eq_false (by omega)
      obtain ⟨⟨y0, y1, y2, y3, y4, y5, y6, y7⟩, -⟩ := F4.out.nb.c8
      obtain ⟨⟨z0, z1, z2, z3, z4, z5, z6, z7⟩, -⟩ := HKB.out.1.c8
      have dg := F4.out.st.grp.cell 0
      have dt := F4.out.st.tel.cell 0
      simp only [List.getElem?_toArray, List.getElem?_cons_zero] at dg dt
      by_cases hi0 : 0 < i
      · have qi : decide ((0 : Int) < (i : Int)) = true := decide_eq_true (by omega)
        have qi' : decide (0 < i) = true := decide_eq_true (by omega)
        rcases hk4 with hk | hk | hk
        · skip
          have qa : (k == 2) = true := by rw [hk]; rfl
          have qc : (k == 4) = false := by rw [hk]; rfl
          have qe : (k == 3) = false := by rw [hk]; rfl
          have HK2 := Lib.hid hk
          clear hk
          by_cases hm3 : m.kind = 3
          · have qb : (m.kind == 3) = true := by rw [hm3]; rfl
            have HWR := Lib.hid (wrap_val (k := k) (m := m) (b := true) (by have := HK2.out; simp; omega))
            clear hm3
            go_wp2_with fail
            refine (group_any W0 gd rm gp tl m a' c' o r1 _ F4.out.st ho16 HS.out.1 (fun v hv => by
              have h := IH.out m (List.mem_of_getElem? HM.out.1) a' c' (o + 1) r1 v hv HM.out.2 (H.out.2.2.1.1 m (List.mem_of_getElem? HM.out.1)).1 (H.out.2.2.2.1 m (List.mem_of_getElem? HM.out.1)) (X.out.pos rfl) HS.out.1 (by omega)
              exact h)).mono ?_
            rintro e w6 ⟨t, g', r2, rfl, hq⟩
            have F6 := Lib.hid (F4.out.call hq.on hq.st)
            have QQ := Lib.hid hq
            clear hq
            go_wp2_with fail
            refine (wstr_any (w.heap.size + 1) _ (40 :: (t ++ [41])) _ F6.out.bl (by
              have h1 := QQ.out.len
              have h2 := X.out.len
              have h3 := QQ.out.lo
              have h4 := X.out.hi
              try simp only [List.length_append, List.length_cons, List.length_nil]
              have := HS.out
              omega)).mono ?_
            rintro e w9 ⟨rfl, hb9, bx, -⟩
            have F7 := Lib.hid (F6.out.put bx hb9)
            clear bx hb9
            go_wp2_with fail
            go_roundw
            case rel =>
              refine ⟨i + 1, _, g', r2, hil, by go_num, F7, Lib.hid ?_⟩
              have hq := QQ.out
              have hx := X.out
              have ht := tellL_take HM.out.1 (k := k)
              refine ⟨by have := hq.hi; have := hx.hi; omega, hq.lo, ?_, hq.pos, ?_, fun e => by omega⟩
              · have := hq.len
                have := hx.len
                try simp only [List.length_append, List.length_cons, List.length_nil]
                omega
              · intro e
                have h1 := hq.yes e
                have h2 := hx.yes rfl
                rw [ht.1, ht.2, bar_if k i false (by have := HK2.out; simp; omega), HWR.out, ← h2.1, h1.1]
                refine ⟨by simp [wrapT], ?_⟩
                have h3 := h1.2
                have h4 := h2.2
                simp only [Bool.false_eq_true, if_true, if_false]
                omega
            case measure => simp [intOf]; omega
          · have qb : (m.kind == 3) = false := by rw [beq_eq_false_iff_ne]; exact hm3
            have HWR := Lib.hid (wrap_val (k := k) (m := m) (b := false) (by have := HK2.out; simp; omega))
            clear hm3
            go_wp2_with fail
            refine (IH.out m (List.mem_of_getElem? HM.out.1) a' c' o r1 _ F4.out.st HM.out.2 (H.out.2.2.1.1 m (List.mem_of_getElem? HM.out.1)).1 (H.out.2.2.2.1 m (List.mem_of_getElem? HM.out.1)) (X.out.pos rfl) HS.out.1 (by omega)).mono ?_
            rintro e w6 ⟨t, g', r2, rfl, hq⟩
            have F6 := Lib.hid (F4.out.call hq.on hq.st)
            have QQ := Lib.hid hq
            clear hq
            go_wp2_with fail
            refine (wstr_any (w.heap.size + 1) _ t _ F6.out.bl (by
              have h1 := QQ.out.len
              have h2 := X.out.len
              have h3 := QQ.out.lo
              have h4 := X.out.hi
              try simp only [List.length_append, List.length_cons, List.length_nil]
              have := HS.out
              omega)).mono ?_
            rintro e w9 ⟨rfl, hb9, bx, -⟩
            have F7 := Lib.hid (F6.out.put bx hb9)
            clear bx hb9
            go_wp2_with fail
            go_roundw
            case rel =>
              refine ⟨i + 1, _, g', r2, hil, by go_num, F7, Lib.hid ?_⟩
              have hq := QQ.out
              have hx := X.out
              have ht := tellL_take HM.out.1 (k := k)
              refine ⟨by have := hq.hi; have := hx.hi; omega, hq.lo, ?_, hq.pos, ?_, fun e => by omega⟩
              · have := hq.len
                have := hx.len
                try simp only [List.length_append, List.length_cons, List.length_nil]
                omega
              · intro e
                have h1 := hq.yes e
                have h2 := hx.yes rfl
                rw [ht.1, ht.2, bar_if k i false (by have := HK2.out; simp; omega), HWR.out, ← h2.1, h1.1]
                refine ⟨by simp [wrapT], ?_⟩
                have h3 := h1.2
                have h4 := h2.2
                simp only [Bool.false_eq_true, if_true, if_false]
                omega
            case measure => simp [intOf]; omega
        · skip
          have qa : (k == 2) = false := by rw [hk]; rfl
          have qc : (k == 4) = false := by rw [hk]; rfl
          have qe : (k == 3) = true := by rw [hk]; rfl
          have HK2 := Lib.hid hk
          clear hk
          have HWR := Lib.hid (wrap_val (k := k) (m := m) (b := false) (by have := HK2.out; simp; omega))
          go_wp2_with fail
          refine (wbyte_any (w.heap.size + 1) acc 124 _ F4.out.bl (by omega) (by omega)).mono ?_
          rintro e w5b ⟨rfl, hb5, bx, kx⟩
          have F5 := Lib.hid (F4.out.put bx hb5)
          have hk5 := HKB.out.1.others kx HKB.out.2 (by decide)
          clear bx hb5 kx y0 y1 y2 y3 y4 y5 y6 y7 z0 z1 z2 z3 z4 z5 z6 z7 dg dt
          obtain ⟨⟨y0, y1, y2, y3, y4, y5, y6, y7⟩, -⟩ := F5.out.nb.c8
          obtain ⟨⟨z0, z1, z2, z3, z4, z5, z6, z7⟩, -⟩ := hk5.c8
          have dg := F5.out.st.grp.cell 0
          have dt := F5.out.st.tel.cell 0
          simp only [List.getElem?_toArray, List.getElem?_cons_zero] at dg dt
          clear hk5
          go_wp2_with fail
          refine (IH.out m (List.mem_of_getElem? HM.out.1) a' c' o r1 _ F5.out.st HM.out.2 (H.out.2.2.1.1 m (List.mem_of_getElem? HM.out.1)).1 (H.out.2.2.2.1 m (List.mem_of_getElem? HM.out.1)) (X.out.pos rfl) HS.out.1 (by omega)).mono ?_
          rintro e w6 ⟨t, g', r2, rfl, hq⟩
          have F6 := Lib.hid (F5.out.call hq.on hq.st)
          have QQ := Lib.hid hq
          clear hq
          go_wp2_with fail
          refine (wstr_any (w.heap.size + 1) _ t _ F6.out.bl (by
            have h1 := QQ.out.len
            have h2 := X.out.len
            have h3 := QQ.out.lo
            have h4 := X.out.hi
            try simp only [List.length_append, List.length_cons, List.length_nil]
            have := HS.out
            omega)).mono ?_
          rintro e w9 ⟨rfl, hb9, bx, -⟩
          have F7 := Lib.hid (F6.out.put bx hb9)
          clear bx hb9
          go_wp2_with fail
          go_roundw
          case rel =>
            refine ⟨i + 1, _, g', r2, hil, by go_num, F7, Lib.hid ?_⟩
            have hq := QQ.out
            have hx := X.out
            have ht := tellL_take HM.out.1 (k := k)
            refine ⟨by have := hq.hi; have := hx.hi; omega, hq.lo, ?_, hq.pos, ?_, fun e => by omega⟩
            · have := hq.len
              have := hx.len
              try simp only [List.length_append, List.length_cons, List.length_nil]
              omega
            · intro e
              have h1 := hq.yes e
              have h2 := hx.yes rfl
              rw [ht.1, ht.2, bar_if k i true (by have := HK2.out; simp; omega), HWR.out, ← h2.1, h1.1]
              refine ⟨by simp [wrapT], ?_⟩
              have h3 := h1.2
              have h4 := h2.2
              simp only [Bool.false_eq_true, if_true, if_false]
              omega
          case measure => simp [intOf]; omega
        · skip
          have qa : (k == 2) = false := by rw [hk]; rfl
          have qc : (k == 4) = true := by rw [hk]; rfl
          have qe : (k == 3) = false := by rw [hk]; rfl
          have HK2 := Lib.hid hk
          clear hk
          by_cases hm1 : m.kind = 1
          · have qd : (m.kind != 1) = false := by rw [hm1]; rfl
            have qd' : (m.kind == 1) = true := by rw [hm1]; rfl
            have HWR := Lib.hid (wrap_val (k := k) (m := m) (b := false) (by have := HK2.out; simp; omega))
            clear hm1
            go_wp2_with fail
            refine (IH.out m (List.mem_of_getElem? HM.out.1) a' c' o r1 _ F4.out.st HM.out.2 (H.out.2.2.1.1 m (List.mem_of_getElem? HM.out.1)).1 (H.out.2.2.2.1 m (List.mem_of_getElem? HM.out.1)) (X.out.pos rfl) HS.out.1 (by omega)).mono ?_
            rintro e w6 ⟨t, g', r2, rfl, hq⟩
            have F6 := Lib.hid (F4.out.call hq.on hq.st)
            have QQ := Lib.hid hq
            clear hq
            go_wp2_with fail
            refine (wstr_any (w.heap.size + 1) _ t _ F6.out.bl (by
              have h1 := QQ.out.len
              have h2 := X.out.len
              have h3 := QQ.out.lo
              have h4 := X.out.hi
              try simp only [List.length_append, List.length_cons, List.length_nil]
              have := HS.out
              omega)).mono ?_
            rintro e w9 ⟨rfl, hb9, bx, -⟩
            have F7 := Lib.hid (F6.out.put bx hb9)
            clear bx hb9
            go_wp2_with fail
            go_roundw
            case rel =>
              refine ⟨i + 1, _, g', r2, hil, by go_num, F7, Lib.hid ?_⟩
              have hq := QQ.out
              have hx := X.out
              have ht := tellL_take HM.out.1 (k := k)
              refine ⟨by have := hq.hi; have := hx.hi; omega, hq.lo, ?_, hq.pos, ?_, fun e => by omega⟩
              · have := hq.len
                have := hx.len
                try simp only [List.length_append, List.length_cons, List.length_nil]
                omega
              · intro e
                have h1 := hq.yes e
                have h2 := hx.yes rfl
                rw [ht.1, ht.2, bar_if k i false (by have := HK2.out; simp; omega), HWR.out, ← h2.1, h1.1]
                refine ⟨by simp [wrapT], ?_⟩
                have h3 := h1.2
                have h4 := h2.2
                simp only [Bool.false_eq_true, if_true, if_false]
                omega
            case measure => simp [intOf]; omega
          · have qd : (m.kind != 1) = true := by rw [bne_iff_ne]; exact hm1
            have qd' : (m.kind == 1) = false := by rw [beq_eq_false_iff_ne]; exact hm1
            have HWR := Lib.hid (wrap_val (k := k) (m := m) (b := true) (by have := HK2.out; simp; omega))
            clear hm1
            go_wp2_with fail
            refine (group_any W0 gd rm gp tl m a' c' o r1 _ F4.out.st ho16 HS.out.1 (fun v hv => by
              have h := IH.out m (List.mem_of_getElem? HM.out.1) a' c' (o + 1) r1 v hv HM.out.2 (H.out.2.2.1.1 m (List.mem_of_getElem? HM.out.1)).1 (H.out.2.2.2.1 m (List.mem_of_getElem? HM.out.1)) (X.out.pos rfl) HS.out.1 (by omega)
              exact h)).mono ?_
            rintro e w6 ⟨t, g', r2, rfl, hq⟩
            have F6 := Lib.hid (F4.out.call hq.on hq.st)
            have QQ := Lib.hid hq
            clear hq
            go_wp2_with fail
            refine (wstr_any (w.heap.size + 1) _ (40 :: (t ++ [41])) _ F6.out.bl (by
              have h1 := QQ.out.len
              have h2 := X.out.len
              have h3 := QQ.out.lo
              have h4 := X.out.hi
              try simp only [List.length_append, List.length_cons, List.length_nil]
              have := HS.out
              omega)).mono ?_
            rintro e w9 ⟨rfl, hb9, bx, -⟩
            have F7 := Lib.hid (F6.out.put bx hb9)
            clear bx hb9
            go_wp2_with fail
            go_roundw
            case rel =>
              refine ⟨i + 1, _, g', r2, hil, by go_num, F7, Lib.hid ?_⟩
              have hq := QQ.out
              have hx := X.out
              have ht := tellL_take HM.out.1 (k := k)
              refine ⟨by have := hq.hi; have := hx.hi; omega, hq.lo, ?_, hq.pos, ?_, fun e => by omega⟩
              · have := hq.len
                have := hx.len
                try simp only [List.length_append, List.length_cons, List.length_nil]
                omega
              · intro e
                have h1 := hq.yes e
                have h2 := hx.yes rfl
                rw [ht.1, ht.2, bar_if k i false (by have := HK2.out; simp; omega), HWR.out, ← h2.1, h1.1]
                refine ⟨by simp [wrapT], ?_⟩
                have h3 := h1.2
                have h4 := h2.2
                simp only [Bool.false_eq_true, if_true, if_false]
                omega
            case measure => simp [intOf]; omega
      · have qi : decide ((0 : Int) < (i : Int)) = false := decide_eq_false (by omega)
        have qi' : decide (0 < i) = false := decide_eq_false (by omega)
        rcases hk4 with hk | hk | hk
        · skip
          have qa : (k == 2) = true := by rw [hk]; rfl
          have qc : (k == 4) = false := by rw [hk]; rfl
          have qe : (k == 3) = false := by rw [hk]; rfl
          have HK2 := Lib.hid hk
          clear hk
          by_cases hm3 : m.kind = 3
          · have qb : (m.kind == 3) = true := by rw [hm3]; rfl
            have HWR := Lib.hid (wrap_val (k := k) (m := m) (b := true) (by have := HK2.out; simp; omega))
            clear hm3
            go_wp2_with fail
            refine (group_any W0 gd rm gp tl m a' c' o r1 _ F4.out.st ho16 HS.out.1 (fun v hv => by
              have h := IH.out m (List.mem_of_getElem? HM.out.1) a' c' (o + 1) r1 v hv HM.out.2 (H.out.2.2.1.1 m (List.mem_of_getElem? HM.out.1)).1 (H.out.2.2.2.1 m (List.mem_of_getElem? HM.out.1)) (X.out.pos rfl) HS.out.1 (by omega)
              exact h)).mono ?_
            rintro e w6 ⟨t, g', r2, rfl, hq⟩
            have F6 := Lib.hid (F4.out.call hq.on hq.st)
            have QQ := Lib.hid hq
            clear hq
            go_wp2_with fail
            refine (wstr_any (w.heap.size + 1) _ (40 :: (t ++ [41])) _ F6.out.bl (by
              have h1 := QQ.out.len
              have h2 := X.out.len
              have h3 := QQ.out.lo
              have h4 := X.out.hi
              try simp only [List.length_append, List.length_cons, List.length_nil]
              have := HS.out
              omega)).mono ?_
            rintro e w9 ⟨rfl, hb9, bx, -⟩
            have F7 := Lib.hid (F6.out.put bx hb9)
            clear bx hb9
            go_wp2_with fail
            go_roundw
            case rel =>
              refine ⟨i + 1, _, g', r2, hil, by go_num, F7, Lib.hid ?_⟩
              have hq := QQ.out
              have hx := X.out
              have ht := tellL_take HM.out.1 (k := k)
              refine ⟨by have := hq.hi; have := hx.hi; omega, hq.lo, ?_, hq.pos, ?_, fun e => by omega⟩
              · have := hq.len
                have := hx.len
                try simp only [List.length_append, List.length_cons, List.length_nil]
                omega
              · intro e
                have h1 := hq.yes e
                have h2 := hx.yes rfl
                rw [ht.1, ht.2, bar_if k i false (by have := HK2.out; simp; omega), HWR.out, ← h2.1, h1.1]
                refine ⟨by simp [wrapT], ?_⟩
                have h3 := h1.2
                have h4 := h2.2
                simp only [Bool.false_eq_true, if_true, if_false]
                omega
            case measure => simp [intOf]; omega
          · have qb : (m.kind == 3) = false := by rw [beq_eq_false_iff_ne]; exact hm3
            have HWR := Lib.hid (wrap_val (k := k) (m := m) (b := false) (by have := HK2.out; simp; omega))
            clear hm3
            go_wp2_with fail
            refine (IH.out m (List.mem_of_getElem? HM.out.1) a' c' o r1 _ F4.out.st HM.out.2 (H.out.2.2.1.1 m (List.mem_of_getElem? HM.out.1)).1 (H.out.2.2.2.1 m (List.mem_of_getElem? HM.out.1)) (X.out.pos rfl) HS.out.1 (by omega)).mono ?_
            rintro e w6 ⟨t, g', r2, rfl, hq⟩
            have F6 := Lib.hid (F4.out.call hq.on hq.st)
            have QQ := Lib.hid hq
            clear hq
            go_wp2_with fail
            refine (wstr_any (w.heap.size + 1) _ t _ F6.out.bl (by
              have h1 := QQ.out.len
              have h2 := X.out.len
              have h3 := QQ.out.lo
              have h4 := X.out.hi
              try simp only [List.length_append, List.length_cons, List.length_nil]
              have := HS.out
              omega)).mono ?_
            rintro e w9 ⟨rfl, hb9, bx, -⟩
            have F7 := Lib.hid (F6.out.put bx hb9)
            clear bx hb9
            go_wp2_with fail
            go_roundw
            case rel =>
              refine ⟨i + 1, _, g', r2, hil, by go_num, F7, Lib.hid ?_⟩
              have hq := QQ.out
              have hx := X.out
              have ht := tellL_take HM.out.1 (k := k)
              refine ⟨by have := hq.hi; have := hx.hi; omega, hq.lo, ?_, hq.pos, ?_, fun e => by omega⟩
              · have := hq.len
                have := hx.len
                try simp only [List.length_append, List.length_cons, List.length_nil]
                omega
              · intro e
                have h1 := hq.yes e
                have h2 := hx.yes rfl
                rw [ht.1, ht.2, bar_if k i false (by have := HK2.out; simp; omega), HWR.out, ← h2.1, h1.1]
                refine ⟨by simp [wrapT], ?_⟩
                have h3 := h1.2
                have h4 := h2.2
                simp only [Bool.false_eq_true, if_true, if_false]
                omega
            case measure => simp [intOf]; omega
        · skip
          have qa : (k == 2) = false := by rw [hk]; rfl
          have qc : (k == 4) = false := by rw [hk]; rfl
          have qe : (k == 3) = true := by rw [hk]; rfl
          have HK2 := Lib.hid hk
          clear hk
          have HWR := Lib.hid (wrap_val (k := k) (m := m) (b := false) (by have := HK2.out; simp; omega))
          go_wp2_with fail
          refine (IH.out m (List.mem_of_getElem? HM.out.1) a' c' o r1 _ F4.out.st HM.out.2 (H.out.2.2.1.1 m (List.mem_of_getElem? HM.out.1)).1 (H.out.2.2.2.1 m (List.mem_of_getElem? HM.out.1)) (X.out.pos rfl) HS.out.1 (by omega)).mono ?_
          rintro e w6 ⟨t, g', r2, rfl, hq⟩
          have F6 := Lib.hid (F4.out.call hq.on hq.st)
          have QQ := Lib.hid hq
          clear hq
          go_wp2_with fail
          refine (wstr_any (w.heap.size + 1) _ t _ F6.out.bl (by
            have h1 := QQ.out.len
            have h2 := X.out.len
            have h3 := QQ.out.lo
            have h4 := X.out.hi
            try simp only [List.length_append, List.length_cons, List.length_nil]
            have := HS.out
            omega)).mono ?_
          rintro e w9 ⟨rfl, hb9, bx, -⟩
          have F7 := Lib.hid (F6.out.put bx hb9)
          clear bx hb9
          go_wp2_with fail
          go_roundw
          case rel =>
            refine ⟨i + 1, _, g', r2, hil, by go_num, F7, Lib.hid ?_⟩
            have hq := QQ.out
            have hx := X.out
            have ht := tellL_take HM.out.1 (k := k)
            refine ⟨by have := hq.hi; have := hx.hi; omega, hq.lo, ?_, hq.pos, ?_, fun e => by omega⟩
            · have := hq.len
              have := hx.len
              try simp only [List.length_append, List.length_cons, List.length_nil]
              omega
            · intro e
              have h1 := hq.yes e
              have h2 := hx.yes rfl
              rw [ht.1, ht.2, bar_if k i false (by have := HK2.out; simp; omega), HWR.out, ← h2.1, h1.1]
              refine ⟨by simp [wrapT], ?_⟩
              have h3 := h1.2
              have h4 := h2.2
              simp only [Bool.false_eq_true, if_true, if_false]
              omega
          case measure => simp [intOf]; omega
        · skip
          have qa : (k == 2) = false := by rw [hk]; rfl
          have qc : (k == 4) = true := by rw [hk]; rfl
          have qe : (k == 3) = false := by rw [hk]; rfl
          have HK2 := Lib.hid hk
          clear hk
          by_cases hm1 : m.kind = 1
          · have qd : (m.kind != 1) = false := by rw [hm1]; rfl
            have qd' : (m.kind == 1) = true := by rw [hm1]; rfl
            have HWR := Lib.hid (wrap_val (k := k) (m := m) (b := false) (by have := HK2.out; simp; omega))
            clear hm1
            go_wp2_with fail
            refine (IH.out m (List.mem_of_getElem? HM.out.1) a' c' o r1 _ F4.out.st HM.out.2 (H.out.2.2.1.1 m (List.mem_of_getElem? HM.out.1)).1 (H.out.2.2.2.1 m (List.mem_of_getElem? HM.out.1)) (X.out.pos rfl) HS.out.1 (by omega)).mono ?_
            rintro e w6 ⟨t, g', r2, rfl, hq⟩
            have F6 := Lib.hid (F4.out.call hq.on hq.st)
            have QQ := Lib.hid hq
            clear hq
            go_wp2_with fail
            refine (wstr_any (w.heap.size + 1) _ t _ F6.out.bl (by
              have h1 := QQ.out.len
              have h2 := X.out.len
              have h3 := QQ.out.lo
              have h4 := X.out.hi
              try simp only [List.length_append, List.length_cons, List.length_nil]
              have := HS.out
              omega)).mono ?_
            rintro e w9 ⟨rfl, hb9, bx, -⟩
            have F7 := Lib.hid (F6.out.put bx hb9)
            clear bx hb9
            go_wp2_with fail
            go_roundw
            case rel =>
              refine ⟨i + 1, _, g', r2, hil, by go_num, F7, Lib.hid ?_⟩
              have hq := QQ.out
              have hx := X.out
              have ht := tellL_take HM.out.1 (k := k)
              refine ⟨by have := hq.hi; have := hx.hi; omega, hq.lo, ?_, hq.pos, ?_, fun e => by omega⟩
              · have := hq.len
                have := hx.len
                try simp only [List.length_append, List.length_cons, List.length_nil]
                omega
              · intro e
                have h1 := hq.yes e
                have h2 := hx.yes rfl
                rw [ht.1, ht.2, bar_if k i false (by have := HK2.out; simp; omega), HWR.out, ← h2.1, h1.1]
                refine ⟨by simp [wrapT], ?_⟩
                have h3 := h1.2
                have h4 := h2.2
                simp only [Bool.false_eq_true, if_true, if_false]
                omega
            case measure => simp [intOf]; omega
          · have qd : (m.kind != 1) = true := by rw [bne_iff_ne]; exact hm1
            have qd' : (m.kind == 1) = false := by rw [beq_eq_false_iff_ne]; exact hm1
            have HWR := Lib.hid (wrap_val (k := k) (m := m) (b := true) (by have := HK2.out; simp; omega))
            clear hm1
            go_wp2_with fail
            refine (group_any W0 gd rm gp tl m a' c' o r1 _ F4.out.st ho16 HS.out.1 (fun v hv => by
              have h := IH.out m (List.mem_of_getElem? HM.out.1) a' c' (o + 1) r1 v hv HM.out.2 (H.out.2.2.1.1 m (List.mem_of_getElem? HM.out.1)).1 (H.out.2.2.2.1 m (List.mem_of_getElem? HM.out.1)) (X.out.pos rfl) HS.out.1 (by omega)
              exact h)).mono ?_
            rintro e w6 ⟨t, g', r2, rfl, hq⟩
            have F6 := Lib.hid (F4.out.call hq.on hq.st)
            have QQ := Lib.hid hq
            clear hq
            go_wp2_with fail
            refine (wstr_any (w.heap.size + 1) _ (40 :: (t ++ [41])) _ F6.out.bl (by
              have h1 := QQ.out.len
              have h2 := X.out.len
              have h3 := QQ.out.lo
              have h4 := X.out.hi
              try simp only [List.length_append, List.length_cons, List.length_nil]
              have := HS.out
              omega)).mono ?_
            rintro e w9 ⟨rfl, hb9, bx, -⟩
            have F7 := Lib.hid (F6.out.put bx hb9)
            clear bx hb9
            go_wp2_with fail
            go_roundw
            case rel =>
              refine ⟨i + 1, _, g', r2, hil, by go_num, F7, Lib.hid ?_⟩
              have hq := QQ.out
              have hx := X.out
              have ht := tellL_take HM.out.1 (k := k)
              refine ⟨by have := hq.hi; have := hx.hi; omega, hq.lo, ?_, hq.pos, ?_, fun e => by omega⟩
              · have := hq.len
                have := hx.len
                try simp only [List.length_append, List.length_cons, List.length_nil]
                omega
              · intro e
                have h1 := hq.yes e
                have h2 := hx.yes rfl
                rw [ht.1, ht.2, bar_if k i false (by have := HK2.out; simp; omega), HWR.out, ← h2.1, h1.1]
                refine ⟨by simp [wrapT], ?_⟩
                have h3 := h1.2
                have h4 := h2.2
                simp only [Bool.false_eq_true, if_true, if_false]
                omega
            case measure => simp [intOf]; omega
    · have k3 : decide ((i : Int) < (l.length : Int)) = false := decide_eq_false (by omega)
      have k3' : decide (i < l.length) = false := decide_eq_false hil
      have e : l.take i = l := List.take_of_length_le (by omega)
      have x3 := X.out.yes
      rw [e] at x3
      have hal : acc.length ≤ 2500 * 1024 := by have := H.out.2.2.2.2.2.2.2; have := X.out.lo; have := X.out.hi; have := X.out.len; omega
      have Y := Lib.hid x3
      clear x3 e
      by_cases hk : k = 1
      · have qa : (k == 1) = true := by rw [hk]; rfl
        have hl0 : l = [] := by
          rcases H.out.2.2.1.2.2.2 with h9 | h9 | h9 | h9
          · exact h9.2
          · omega
          · omega
          · omega
        have hg : g = true := X.out.zero (by rw [hl0] at hi; simp at hi; omega)
        have HK := Lib.hid (And.intro hk (And.intro hl0 hg))
        have hst := set14_any s.f
        rw [f_s4] at hst
        have HST := Lib.hid hst
        clear hst hk hl0 hg
        go_wp2_with fail
        refine (HST.out _ H.out.2.2.2.2.1 (hT.below F.out.st.base)).mono ?_
        rintro e w5 ⟨rfl, bx⟩
        have F5 := Lib.hid (F.out.go bx)
        clear bx y0 y1 y2 y3 y4 y5 y6 y7
        obtain ⟨ts, hts⟩ : ∃ ts, bsT (setT s) = ts := ⟨_, rfl⟩
        rw [hts]
        have HTS := Lib.hid hts
        clear hts
        go_wp2_with fail
        go_ret
        refine ⟨setT s, g, r1, ret_str HTS.out.symm, ?_⟩
        have h := H.out.2.2.2.2.2
        have h1 := h.1
        have h2 := h.2.1
        rw [if_pos HK.out.1] at h1 h2
        have h3 := setT_len s
        exact ⟨by have := h.2.2; have := X.out.hi; have := X.out.len; omega, F5.out.st, F5.out.on, X.out.lo, by have := h.2.2; have := X.out.hi; omega, X.out.pos, fun _ => ⟨h1.symm, by rw [h2]; omega⟩⟩
      have qa : (k == 1) = false := by rw [beq_eq_false_iff_ne]; exact hk
      by_cases hk4 : k = 4
      · have qc : (k == 4) = true := by rw [hk4]; rfl
        have htb : timesB x y = true := by
          rcases H.out.2.2.1.2.2.2 with h | h | h | h
          · omega
          · omega
          · omega
          · exact h.2.2
        have HK := Lib.hid (And.intro hk (And.intro hk4 htb))
        clear hk hk4 htb
        go_wp2_with fail
        refine wp_region_TC (fun V w' => ∃ p : Beh (w.heap.size + 1) V, w' = p.u) [] (by kernel_rfl) ?_
        intro V bb
        have F5 := Lib.hid (F.out.go bb)
        clear bb F y0 y1 y2 y3 y4 y5 y6 y7
        have f6 : ∀ p : Beh (w.heap.size + 1) V, p.u.cell? ⟨w.heap.size, 6, none⟩ = some (.int .i64 x) := fun p => (p.h.cell (p := ⟨w.heap.size, 6, none⟩) (by simp)).trans (F5.out.nb.cell 6)
        have f7 : ∀ p : Beh (w.heap.size + 1) V, p.u.cell? ⟨w.heap.size, 7, none⟩ = some (.int .i64 y) := fun p => (p.h.cell (p := ⟨w.heap.size, 7, none⟩) (by simp)).trans (F5.out.nb.cell 7)
        refine stepsQ [1, 2, 3, 4] (by kernel_rfl) (by kernel_rfl) (by kernel_rfl) ⟨⟨_, Below.refl _ _⟩, rfl⟩ ?_
        simp only [atIdx, List.filterMap_cons, List.filterMap_nil, List.getElem?_toArray, List.getElem_toArray, List.getElem?_cons_zero, List.getElem?_cons_succ, List.getElem_cons_zero, List.getElem_cons_succ]
        iterate 4 (show wpQuiet _ _ _ _ (_ :: _) _; go_big_quiet_step (fail))
        refine wpQuiet_nil ?_
        show stepT _ _ _ _ _ _ _ _ _
        clear f6 f7
        refine stepS (i := 0) rfl (by kernel_rfl) ?_
        intro Kx hKx
        go_simp
        refine (wtext_any (w.heap.size + 1) acc _ F5.out.bl).mono ?_
        rintro e w5 ⟨rfl, hb5, bx, -⟩
        refine hKx _ _ ⟨fun _ => ⟨⟨_, bx⟩, rfl⟩, ?_⟩
        clear hKx Kx
        have F6 := Lib.hid (F5.out.put bx hb5)
        refine stepT_sub (C' := fun w' => ∃ p : Regrown, w' = grow (redrawn w5 p.d) p.os) ?_ ?_
        · rintro w' ⟨p, rfl⟩
          exact ⟨⟨_, bx.trans ((below_regrown w5 p.d p.os).mono (by have := F6.out.bl.lt; omega))⟩, rfl⟩
        clear bx hb5 F5
        obtain ⟨ta, hta⟩ : ∃ ts, bsT acc = ts := ⟨_, rfl⟩
        have hsa : ta.size ≤ 2500 * 1024 := by rw [← hta, bsT_size]; exact hal
        rw [hta]
        have HTA := Lib.hid hta
        clear hta
        refine stepS (i := 5) rfl (by kernel_rfl) ?_
        intro Kx hKx
        go_simp
        refine (often_any x y _ HK.out.2.2 (hM.below F6.out.st.base)).mono ?_
        rintro e w6 ⟨rfl, bx⟩
        refine hKx _ _ ⟨fun _ => Grown.of_below bx, ?_⟩
        clear hKx Kx
        have F7 := Lib.hid (F6.out.go bx)
        refine stepT_base bx ?_
        clear bx F6
        obtain ⟨ts, hts⟩ : ∃ ts, bsT (oftenT x y) = ts := ⟨_, rfl⟩
        have hso : ts.size ≤ 7 := by rw [← hts, bsT_size]; exact oftenT_len HK.out.2.2
        rw [hts]
        have HTS := Lib.hid hts
        clear hts
        refine stepsQ [6, 7] (by kernel_rfl) (by kernel_rfl) (by kernel_rfl) (Grown.of_below (Below.refl _ _)) ?_
        simp only [atIdx, List.filterMap_cons, List.filterMap_nil, List.getElem?_toArray, List.getElem_toArray, List.getElem?_cons_zero, List.getElem?_cons_succ, List.getElem_cons_zero, List.getElem_cons_succ]
        iterate 2 (show wpQuiet _ _ _ _ (_ :: _) _; go_big_quiet_step (fail))
        refine wpQuiet_nil ?_
        show stepT _ _ _ _ _ _ _ _ _
        refine stepT_end (by kernel_rfl) ?_
        go_wp2_with fail
        go_ret
        refine ⟨acc ++ oftenT x y, g, r1, ret_str (by rw [← HTA.out, ← HTS.out, bsT_app]), ?_⟩
        have h := H.out.2.2.2.2.2
        have h1 := h.1
        have h2 := h.2.1
        rw [if_neg HK.out.1] at h1 h2
        rw [if_pos HK.out.2.1] at h1
        have h3 := oftenT_len HK.out.2.2
        exact ⟨by rw [List.length_append]; have := h.2.2; have := X.out.hi; have := X.out.len; omega, F7.out.st, F7.out.on, X.out.lo, by have := h.2.2; have := X.out.hi; omega, X.out.pos, fun e => by rw [h1, h2, (Y.out e).1]; exact ⟨rfl, (Y.out e).2⟩⟩
      · have qc : (k == 4) = false := by rw [beq_eq_false_iff_ne]; exact hk4
        have HK := Lib.hid (And.intro hk hk4)
        clear hk hk4
        go_wp2_with fail
        refine (wtext_any (w.heap.size + 1) acc _ F.out.bl).mono ?_
        rintro e w5 ⟨rfl, hb5, bx, -⟩
        have F5 := Lib.hid (F.out.put bx hb5)
        clear bx hb5 y0 y1 y2 y3 y4 y5 y6 y7
        obtain ⟨ts, hts⟩ : ∃ ts, bsT acc = ts := ⟨_, rfl⟩
        rw [hts]
        have HTS := Lib.hid hts
        clear hts
        go_wp2_with fail
        go_ret
        refine ⟨acc, g, r1, ret_str HTS.out.symm, ?_⟩
        have h := H.out.2.2.2.2.2
        have h1 := h.1
        have h2 := h.2.1
        rw [if_neg HK.out.1] at h1 h2
        rw [if_neg HK.out.2, List.append_nil] at h1
        exact ⟨by have := h.2.2; have := X.out.hi; have := X.out.len; omega, F5.out.st, F5.out.on, X.out.lo, by have := h.2.2; have := X.out.hi; omega, X.out.pos, fun e => by rw [h1, h2]; exact Y.out e⟩
end Wild
end Go.Proofs.YtpknglbpbodnbaaDoor
namespace Go.Proofs.YtpknglbpbodnbaaDoor
set_option linter.unusedVariables false
set_option linter.unusedSimpArgs false
open Go.RowKit Go.Sort Cs Rg Go.ChangeShapes Go.WideShapes
namespace Wild

set_option maxHeartbeats 8000000 in
set_option maxRecDepth 1000000 in
theorem text_wild (n : Nd) (v : Value) (w : World) (hv : NdAt w v n) (hI : InN n) (hT : TabIn w) (hM : MarksIn w) :
    Calls Tryd.prog 8 #[v] w fun e w' => ∃ (t : List Nat) (B : Bool), e = .returned (.tuple #[.string (bsT t), .bool B]) ∧ (B = true → textN n = some t) ∧ (B = false → t = []) ∧ Below w.heap.size w w' := by
  obtain ⟨a, c, rfl, hin⟩ := hv
  have hmf : ∀ (fn : Fn) (first cap : Array Value) (w : World), (Instr.makeFunc fn first cap).run Tryd.prog w = .ok (.func fn first cap) w := fun _ _ _ _ => rfl
  have hb0 := (Below.refl w.heap.size w).alloc (Nat.le_refl _) (.cells #[.int .i64 n.kind, .int .u64 n.set.a, .int .u64 n.set.b, .int .u64 n.set.c, .int .u64 n.set.d, .slice a n.kids.length c, .int .i64 n.lo, .int .i64 n.hi] 27)
  have hq := Blk.new w 27 #[.int .i64 n.kind, .int .u64 n.set.a, .int .u64 n.set.b, .int .u64 n.set.c, .int .u64 n.set.d, .slice a n.kids.length c, .int .i64 n.lo, .int .i64 n.hi]
  obtain ⟨⟨y0, y1, y2, y3, y4, y5, y6, y7⟩, -⟩ := hq.c8
  have H := Lib.hid (And.intro hin (And.intro hq (And.intro hb0 (And.intro hI (And.intro hT hM)))))
  clear hin hb0 hq hI hT hM
  show Calls Tryd.prog 8 #[.agg #[.int .i64 n.kind, .int .u64 n.set.a, .int .u64 n.set.b, .int .u64 n.set.c, .int .u64 n.set.d, .slice a n.kids.length c, .int .i64 n.lo, .int .i64 n.hi]] w _
  go_enter Tryd.func8, Tryd.ntmps8
  go_wp2_with fail
  refine (right_any n _ _ ⟨a, c, rfl, H.out.1.below H.out.2.2.1⟩).mono ?_
  rintro e w1 ⟨rfl, bx⟩
  have hq1 := H.out.2.1.below bx H.out.2.1.lt
  have HX := Lib.hid (And.intro (H.out.2.2.1.trans (bx.mono H.out.2.2.1.size)) hq1)
  clear y0 y1 y2 y3 y4 y5 y6 y7 bx hq1
  cases hr : rightN n with
  | false =>
    have HR := Lib.hid hr
    clear hr
    go_wp2_with fail
    refine bodyPost_ret (results_tmp2 rfl _ _ _) rfl ?_
    exact ⟨[], false, rfl, fun e => absurd e (by decide), fun _ => rfl, HX.out.1⟩
  | true =>
    have HR := Lib.hid hr
    clear hr
    go_upto_region 7 with (fail)
    have p1 := Blk.new w1 45 #[.func (.func 19) #[] #[vPtr (w1.heap.size + 1 + 1), vPtr (w1.heap.size + 1), vPtr (w1.heap.size + 1 + 1 + 1), vPtr w1.heap.size]]
    have p2 := Blk.new (w1.alloc (.cells #[.func (.func 19) #[] #[vPtr (w1.heap.size + 1 + 1), vPtr (w1.heap.size + 1), vPtr (w1.heap.size + 1 + 1 + 1), vPtr w1.heap.size]] 45)) 4 #[.bool true]
    have p3 := Blk.new ((w1.alloc (.cells #[.func (.func 19) #[] #[vPtr (w1.heap.size + 1 + 1), vPtr (w1.heap.size + 1), vPtr (w1.heap.size + 1 + 1 + 1), vPtr w1.heap.size]] 45)).alloc (.cells #[.bool true] 4)) 3 #[.int .i64 1024]
    have p4 := Blk.new (((w1.alloc (.cells #[.func (.func 19) #[] #[vPtr (w1.heap.size + 1 + 1), vPtr (w1.heap.size + 1), vPtr (w1.heap.size + 1 + 1 + 1), vPtr w1.heap.size]] 45)).alloc (.cells #[.bool true] 4)).alloc (.cells #[.int .i64 1024] 3)) 45 #[.func (.func 18) #[] #[vPtr w1.heap.size]]
    simp only [World.size_alloc] at p2 p3 p4
    have q1 := ((p1.alloc (.cells #[.bool true] 4)).alloc (.cells #[.int .i64 1024] 3)).alloc (.cells #[.func (.func 18) #[] #[vPtr w1.heap.size]] 45)
    have q2 := (p2.alloc (.cells #[.int .i64 1024] 3)).alloc (.cells #[.func (.func 18) #[] #[vPtr w1.heap.size]] 45)
    have q3 := p3.alloc (.cells #[.func (.func 18) #[] #[vPtr w1.heap.size]] 45)
    have hbb : Below w1.heap.size w1 ((((w1.alloc (.cells #[.func (.func 19) #[] #[vPtr (w1.heap.size + 1 + 1), vPtr (w1.heap.size + 1), vPtr (w1.heap.size + 1 + 1 + 1), vPtr w1.heap.size]] 45)).alloc (.cells #[.bool true] 4)).alloc (.cells #[.int .i64 1024] 3)).alloc (.cells #[.func (.func 18) #[] #[vPtr w1.heap.size]] 45)) :=
      ((((Below.refl _ w1).alloc (Nat.le_refl _) _).alloc (by simp) _).alloc (by simp; omega) _).alloc (by simp; omega) _
    have hws := HX.out.1.size
    have hvs := Vs.mk (W0 := w) q2 q3 p4 q1 (HX.out.1.trans (hbb.mono hws)) (by omega) (by omega)
    have hq2 := HX.out.2.below hbb HX.out.2.lt
    have V := Lib.hid hvs
    clear p1 p2 p3 p4 q1 q2 q3 hbb hvs
    obtain ⟨⟨y0, y1, y2, y3, y4, y5, y6, y7⟩, -⟩ := hq2.c8
    clear hq2
    obtain ⟨B, hB⟩ : ∃ B, w1.heap.size = B := ⟨_, rfl⟩
    change Code.wp _ _ _ _ ((((w1.alloc (.cells #[.func (.func 19) #[] #[vPtr (w1.heap.size + 1 + 1), vPtr (w1.heap.size + 1), vPtr (w1.heap.size + 1 + 1 + 1), vPtr w1.heap.size]] 45)).alloc (.cells #[.bool true] 4)).alloc (.cells #[.int .i64 1024] 3)).alloc (.cells #[.func (.func 18) #[] #[vPtr w1.heap.size]] 45))
    generalize ((((w1.alloc (.cells #[.func (.func 19) #[] #[vPtr (w1.heap.size + 1 + 1), vPtr (w1.heap.size + 1), vPtr (w1.heap.size + 1 + 1 + 1), vPtr w1.heap.size]] 45)).alloc (.cells #[.bool true] 4)).alloc (.cells #[.int .i64 1024] 3)).alloc (.cells #[.func (.func 18) #[] #[vPtr w1.heap.size]] 45)) = w2 at *
    rw [hB] at V ⊢
    clear hB
    have dt := V.out.tel.cell 0
    simp only [List.getElem?_toArray, List.getElem?_cons_zero] at dt
    have htell := tell_any w (B + 1) (B + 1 + 1) (B + 1 + 1 + 1) B H.out.2.2.2.2.1 H.out.2.2.2.2.2 n a c 0 1024 w2 V.out H.out.1 HR.out H.out.2.2.2.1 (by decide) (by decide) (by omega)
    have HT := Lib.hid htell
    clear htell hmf
    go_wp2_with fail
    refine HT.out.mono ?_
    rintro e w3 ⟨t, g', r', rfl, hq⟩
    clear dt y0 y1 y2 y3 y4 y5 y6 y7 HT
    have hz : (bsT t).size = t.length := bsT_size t
    have hzl : t.length ≤ 2500 * 1025 := by have := hq.len; have := hq.lo; omega
    obtain ⟨ts, hts⟩ : ∃ ts, bsT t = ts := ⟨_, rfl⟩
    rw [hts] at hz ⊢
    have hb3 : Below w.heap.size w w3 := hq.st.base
    have hy3 := hq.yes
    have dg := hq.st.good.cell 0
    simp only [List.getElem?_toArray, List.getElem?_cons_zero] at dg
    have HQ := Lib.hid (And.intro hts (And.intro hb3 hy3))
    clear hts hb3 hy3 hq
    cases g' with
    | false =>
      go_wp2_with fail
      refine bodyPost_ret (results_tmp2 rfl _ _ _) rfl ?_
      exact ⟨[], false, rfl, fun e => absurd e (by decide), fun _ => rfl, HQ.out.2.1⟩
    | true =>
      by_cases h1 : t.length ≤ 256
      · have k1 : decide ((256 : Int) < (ts.size : Int)) = false := decide_eq_false (by omega)
        have k1' : decide (256 < ts.size) = false := decide_eq_false (by omega)
        go_wp2_with fail
        refine bodyPost_ret (results_tmp2 rfl _ _ _) rfl ?_
        have hy := (by first | exact HQ.out.2.2 trivial | exact HQ.out.2.2 rfl : t = tellN n ∧ 0 + nestN n ≤ 16)
        exact ⟨t, true, by rw [HQ.out.1]; rfl, fun _ => by rw [textN_some HR.out (by rw [← hy.1]; exact h1) (by have := hy.2; omega), ← hy.1], fun e => absurd e (by decide), HQ.out.2.1⟩
      · have k1 : decide ((256 : Int) < (ts.size : Int)) = true := decide_eq_true (by omega)
        have k1' : decide (256 < ts.size) = true := decide_eq_true (by omega)
        go_wp2_with fail
        refine bodyPost_ret (results_tmp2 rfl _ _ _) rfl ?_
        exact ⟨[], false, rfl, fun e => absurd e (by decide), fun _ => rfl, HQ.out.2.1⟩
end Wild
end Go.Proofs.YtpknglbpbodnbaaDoor
namespace Go.Proofs.YtpknglbpbodnbaaDoor
set_option linter.unusedVariables false
set_option linter.unusedSimpArgs false
open Go.RowKit Go.Sort Cs Rg Go.ChangeShapes Go.WideShapes
namespace Wild

/-- two trees' variables -/
structure Two (w' : World) (g h : Nat) (m n : Nd) (a : Option Addr) (c : Nat) (a2 : Option Addr) (c2 : Nat) : Prop where
  nd : Blk w' g 27 #[.int .i64 m.kind, .int .u64 m.set.a, .int .u64 m.set.b, .int .u64 m.set.c, .int .u64 m.set.d, .slice a m.kids.length c, .int .i64 m.lo, .int .i64 m.hi]
  inn : NdIn w' a m
  nd2 : Blk w' h 27 #[.int .i64 n.kind, .int .u64 n.set.a, .int .u64 n.set.b, .int .u64 n.set.c, .int .u64 n.set.d, .slice a2 n.kids.length c2, .int .i64 n.lo, .int .i64 n.hi]
  inn2 : NdIn w' a2 n
theorem Two.go {w' w2 : World} {g h : Nat} {m n : Nd} {a : Option Addr} {c : Nat} {a2 : Option Addr} {c2 : Nat} (t : Two w' g h m n a c a2 c2) (hb : Below w'.heap.size w' w2) : Two w2 g h m n a c a2 c2 :=
  ⟨t.nd.below hb t.nd.lt, t.inn.below hb, t.nd2.below hb t.nd2.lt, t.inn2.below hb⟩
theorem Two.new {w : World} {m n : Nd} {a : Option Addr} {c : Nat} {a2 : Option Addr} {c2 : Nat} (h1 : NdIn w a m) (h2 : NdIn w a2 n) :
    Two ((w.alloc (.cells #[.int .i64 m.kind, .int .u64 m.set.a, .int .u64 m.set.b, .int .u64 m.set.c, .int .u64 m.set.d, .slice a m.kids.length c, .int .i64 m.lo, .int .i64 m.hi] 27)).alloc (.cells #[.int .i64 n.kind, .int .u64 n.set.a, .int .u64 n.set.b, .int .u64 n.set.c, .int .u64 n.set.d, .slice a2 n.kids.length c2, .int .i64 n.lo, .int .i64 n.hi] 27)) w.heap.size (w.heap.size + 1) m n a c a2 c2 ∧
      Below w.heap.size w ((w.alloc (.cells #[.int .i64 m.kind, .int .u64 m.set.a, .int .u64 m.set.b, .int .u64 m.set.c, .int .u64 m.set.d, .slice a m.kids.length c, .int .i64 m.lo, .int .i64 m.hi] 27)).alloc (.cells #[.int .i64 n.kind, .int .u64 n.set.a, .int .u64 n.set.b, .int .u64 n.set.c, .int .u64 n.set.d, .slice a2 n.kids.length c2, .int .i64 n.lo, .int .i64 n.hi] 27)) := by
  have b0 := (Below.refl w.heap.size w).alloc (Nat.le_refl _) (.cells #[.int .i64 m.kind, .int .u64 m.set.a, .int .u64 m.set.b, .int .u64 m.set.c, .int .u64 m.set.d, .slice a m.kids.length c, .int .i64 m.lo, .int .i64 m.hi] 27)
  have n0 := Blk.new w 27 #[.int .i64 m.kind, .int .u64 m.set.a, .int .u64 m.set.b, .int .u64 m.set.c, .int .u64 m.set.d, .slice a m.kids.length c, .int .i64 m.lo, .int .i64 m.hi]
  have s0 : (w.alloc (.cells #[.int .i64 m.kind, .int .u64 m.set.a, .int .u64 m.set.b, .int .u64 m.set.c, .int .u64 m.set.d, .slice a m.kids.length c, .int .i64 m.lo, .int .i64 m.hi] 27)).heap.size = w.heap.size + 1 := by simp
  generalize w.alloc (.cells #[.int .i64 m.kind, .int .u64 m.set.a, .int .u64 m.set.b, .int .u64 m.set.c, .int .u64 m.set.d, .slice a m.kids.length c, .int .i64 m.lo, .int .i64 m.hi] 27) = w1 at *
  have b1 := (Below.refl w1.heap.size w1).alloc (Nat.le_refl _) (.cells #[.int .i64 n.kind, .int .u64 n.set.a, .int .u64 n.set.b, .int .u64 n.set.c, .int .u64 n.set.d, .slice a2 n.kids.length c2, .int .i64 n.lo, .int .i64 n.hi] 27)
  have n1 := Blk.new w1 27 #[.int .i64 n.kind, .int .u64 n.set.a, .int .u64 n.set.b, .int .u64 n.set.c, .int .u64 n.set.d, .slice a2 n.kids.length c2, .int .i64 n.lo, .int .i64 n.hi]
  rw [s0] at n1
  have hb := b0.trans (b1.mono (by omega))
  exact ⟨⟨n0.below b1 n0.lt, h1.below hb, n1, h2.below hb⟩, hb⟩
set_option maxHeartbeats 8000000 in
set_option maxRecDepth 1000000 in
theorem back_wild (m n : Nd) (v v' : Value) (w : World) (hv : NdAt w v m) (hI : InN m) (hv' : NdAt w v' n) (hI' : InN n) (hT : TabIn w) (hM : MarksIn w) :
    Calls Tryd.prog 4 #[v, v'] w fun e w' => e = .returned (.bool true) ∧ Below w.heap.size w w' := by
  obtain ⟨a, c, rfl, hin⟩ := hv
  obtain ⟨a2, c2, rfl, hin2⟩ := hv'
  have K0 : Kp w w := ⟨Below.refl _ _, hT, hM⟩
  have ht := Two.new (c := c) (c2 := c2) hin hin2
  have T1 := Lib.hid ht.1
  have K1 := Lib.hid (K0.go ht.2)
  have HI := Lib.hid (And.intro hI hI')
  clear hT hM hin hin2 ht K0 hI hI'
  unfold nodeV
  go_enter Tryd.func4, Tryd.ntmps4
  go_upto_region 1 with (fail)
  obtain ⟨h, hh⟩ : ∃ h, w.heap.size + 1 = h := ⟨_, rfl⟩
  generalize (w.alloc (.cells #[.int .i64 m.kind, .int .u64 m.set.a, .int .u64 m.set.b, .int .u64 m.set.c, .int .u64 m.set.d, .slice a m.kids.length c, .int .i64 m.lo, .int .i64 m.hi] 27)).alloc (.cells #[.int .i64 n.kind, .int .u64 n.set.a, .int .u64 n.set.b, .int .u64 n.set.c, .int .u64 n.set.d, .slice a2 n.kids.length c2, .int .i64 n.lo, .int .i64 n.hi] 27) = w1 at *
  rw [hh] at T1 ⊢
  clear hh
  obtain ⟨⟨x0, x1, x2, x3, x4, x5, x6, x7⟩, -⟩ := T1.out.nd.c8
  obtain ⟨⟨y0, y1, y2, y3, y4, y5, y6, y7⟩, -⟩ := T1.out.nd2.c8
  go_wp2_with fail
  refine (great_wild m _ w1 ⟨a, c, rfl, T1.out.inn⟩).mono ?_
  rintro e w2 ⟨hg1, rfl, b2⟩
  have T2 := Lib.hid (T1.out.go b2)
  have K2 := Lib.hid (K1.out.go b2)
  clear x0 x1 x2 x3 x4 x5 x6 x7 y0 y1 y2 y3 y4 y5 y6 y7 b2 T1 K1
  cases hg1 with
  | true =>
    go_wp2_with fail
    refine (works_any w2 K2.out.2.1 K2.out.2.2).mono ?_
    rintro e w9 ⟨rfl, b9⟩
    have H9 := Lib.hid (K2.out.go b9)
    clear b9
    go_wp2_with fail
    go_ret
    exact ⟨rfl, H9.out.1⟩
  | false =>
  obtain ⟨⟨x0, x1, x2, x3, x4, x5, x6, x7⟩, -⟩ := T2.out.nd.c8
  obtain ⟨⟨y0, y1, y2, y3, y4, y5, y6, y7⟩, -⟩ := T2.out.nd2.c8
  go_wp2_with fail
  refine (great_wild n _ w2 ⟨a2, c2, rfl, T2.out.inn2⟩).mono ?_
  rintro e w3 ⟨hg2, rfl, b3⟩
  have T3 := Lib.hid (T2.out.go b3)
  have K3 := Lib.hid (K2.out.go b3)
  clear x0 x1 x2 x3 x4 x5 x6 x7 y0 y1 y2 y3 y4 y5 y6 y7 b3 T2 K2
  cases hg2 with
  | true =>
    go_wp2_with fail
    refine (works_any w3 K3.out.2.1 K3.out.2.2).mono ?_
    rintro e w9 ⟨rfl, b9⟩
    have H9 := Lib.hid (K3.out.go b9)
    clear b9
    go_wp2_with fail
    go_ret
    exact ⟨rfl, H9.out.1⟩
  | false =>
  obtain ⟨⟨x0, x1, x2, x3, x4, x5, x6, x7⟩, -⟩ := T3.out.nd.c8
  obtain ⟨⟨y0, y1, y2, y3, y4, y5, y6, y7⟩, -⟩ := T3.out.nd2.c8
  go_wp2_with fail
  refine (text_wild m _ w3 ⟨a, c, rfl, T3.out.inn⟩ HI.out.1 K3.out.2.1 K3.out.2.2).mono ?_
  rintro e w4 ⟨sm, B, rfl, hy1, hn1, b4⟩
  have T4 := Lib.hid (T3.out.go b4)
  have K4 := Lib.hid (K3.out.go b4)
  clear x0 x1 x2 x3 x4 x5 x6 x7 y0 y1 y2 y3 y4 y5 y6 y7 b4 T3 K3
  obtain ⟨S, hS⟩ : ∃ S, bsT sm = S := ⟨_, rfl⟩
  rw [hS]
  have HS := Lib.hid (And.intro hS (And.intro hy1 hn1))
  clear hS hy1 hn1
  obtain ⟨⟨x0, x1, x2, x3, x4, x5, x6, x7⟩, -⟩ := T4.out.nd.c8
  obtain ⟨⟨y0, y1, y2, y3, y4, y5, y6, y7⟩, -⟩ := T4.out.nd2.c8
  go_wp2_with fail
  refine (text_wild n _ w4 ⟨a2, c2, rfl, T4.out.inn2⟩ HI.out.2 K4.out.2.1 K4.out.2.2).mono ?_
  rintro e w5 ⟨sn, B2, rfl, hy2, hn2, b5⟩
  have T5 := Lib.hid (T4.out.go b5)
  have K5 := Lib.hid (K4.out.go b5)
  clear x0 x1 x2 x3 x4 x5 x6 x7 y0 y1 y2 y3 y4 y5 y6 y7 b5 T4 K4
  obtain ⟨S2, hS2⟩ : ∃ S, bsT sn = S := ⟨_, rfl⟩
  rw [hS2]
  have HS2 := Lib.hid (And.intro hS2 hy2)
  clear hS2 hy2 hn2
  cases B with
  | false =>
    have e1 := HS.out.2.2 rfl
    have e2 : S = ⟨#[]⟩ := by rw [← HS.out.1, e1]; rfl
    clear e1 HS
    subst e2
    go_wp2_with fail
    refine (works_any w5 K5.out.2.1 K5.out.2.2).mono ?_
    rintro e w9 ⟨rfl, b9⟩
    have H9 := Lib.hid (K5.out.go b9)
    clear b9
    go_wp2_with fail
    go_ret
    exact ⟨rfl, H9.out.1⟩
  | true =>
  have htm := HS.out.2.1 rfl
  have e2 := HS.out.1
  have hag := text_again HI.out.1 htm
  rw [e2] at hag
  have HA := Lib.hid (And.intro hag (And.intro e2 htm))
  clear e2 htm HS hag
  go_wp2_with fail
  refine (parse_any S w5 K5.out.2.1).mono ?_
  rintro e w6 ⟨b6, v, E, x, rfl, hnd, hyes, -⟩
  obtain ⟨rfl, rfl⟩ := hyes (by rw [HA.out.1]; rfl)
  rw [HA.out.1] at hnd
  have hnd2 : NdV (fun b => w5.heap.size ≤ b) w6 v m := hnd
  clear hnd
  obtain ⟨a4, c4, rfl, hnd⟩ := hnd2
  have hin := NdP.in_ _ hnd
  have T6 := Lib.hid (T5.out.go b6)
  have K6 := Lib.hid (K5.out.go b6)
  have hn2 := Vr.new (c := c4) (E := 0) (x := 0) hin
  have U1 := Lib.hid hn2.1
  have T7 := Lib.hid (T6.out.go hn2.2)
  have K7 := Lib.hid (K6.out.go hn2.2)
  clear hyes hnd b6 hn2 hin T5 T6 K5 K6
  unfold nodeV
  go_upto_region 8 with (fail)
  obtain ⟨nb4, hnb⟩ : ∃ nb, w6.heap.size = nb := ⟨_, rfl⟩
  generalize (w6.alloc (.cells #[.int .i64 m.kind, .int .u64 m.set.a, .int .u64 m.set.b, .int .u64 m.set.c, .int .u64 m.set.d, .slice a4 m.kids.length c4, .int .i64 m.lo, .int .i64 m.hi] 27)).alloc (.cells #[.int .i64 0, .int .i64 0] 38) = w7 at *
  rw [hnb] at U1 ⊢
  clear hnb
  obtain ⟨⟨r0, r1, r2, r3, r4, r5, r6, r7⟩, -⟩ := U1.out.nd.c8
  obtain ⟨⟨f0, f1⟩, -⟩ := U1.out.ft.c2
  obtain ⟨⟨x0, x1, x2, x3, x4, x5, x6, x7⟩, -⟩ := T7.out.nd.c8
  obtain ⟨⟨y0, y1, y2, y3, y4, y5, y6, y7⟩, -⟩ := T7.out.nd2.c8
  go_wp2_with fail
  refine (refsame_any m m _ _ w7 ⟨a4, c4, rfl, U1.out.inn⟩ ⟨a, c, rfl, T7.out.inn⟩).mono ?_
  rintro e w8 ⟨rfl, b8⟩
  rw [decide_eq_true (rfl : m = m)]
  clear r0 r1 r2 r3 r4 r5 r6 r7 f0 f1
  have T8 := Lib.hid (T7.out.go b8)
  have K8 := Lib.hid (K7.out.go b8)
  clear x0 x1 x2 x3 x4 x5 x6 x7 y0 y1 y2 y3 y4 y5 y6 y7 b8 T7 K7
  cases B2 with
  | false =>
    clear HS2
    go_wp2_with fail
    refine (works_any w8 K8.out.2.1 K8.out.2.2).mono ?_
    rintro e w9 ⟨rfl, b9⟩
    have H9 := Lib.hid (K8.out.go b9)
    clear b9
    go_wp2_with fail
    go_ret
    exact ⟨rfl, H9.out.1⟩
  | true =>
  have htn := HS2.out.2 rfl
  have e2 := HS2.out.1
  have hsame := text_same HI.out.1 HI.out.2 HA.out.2.2 htn
  have hby := bsT_eq (textN_bytes HI.out.1 HA.out.2.2).1 (textN_bytes HI.out.2 htn).1
  rw [hsame, HA.out.2.1, e2] at hby
  have hss : m = n → S = S2 := fun e => by
    have h1 := HA.out.2.2
    rw [e, htn] at h1
    rw [← HA.out.2.1, ← e2, Option.some.inj h1]
  clear htn HS2 hsame e2
  obtain ⟨⟨x0, x1, x2, x3, x4, x5, x6, x7⟩, -⟩ := T8.out.nd.c8
  obtain ⟨⟨y0, y1, y2, y3, y4, y5, y6, y7⟩, -⟩ := T8.out.nd2.c8
  by_cases hmn : m = n
  · have hd : decide (m = n) = true := decide_eq_true hmn
    rw [hd] at hby
    have hSS : S = S2 := hss hmn
    have HD := Lib.hid hd
    clear hmn hd hss
    subst hSS
    clear hby
    go_wp2_with fail
    refine (refsame_any m n _ _ w8 ⟨a, c, rfl, T8.out.inn⟩ ⟨a2, c2, rfl, T8.out.inn2⟩).mono ?_
    rintro e w9 ⟨rfl, b9⟩
    rw [HD.out]
    have T9 := Lib.hid (T8.out.go b9)
    have K9 := Lib.hid (K8.out.go b9)
    clear x0 x1 x2 x3 x4 x5 x6 x7 y0 y1 y2 y3 y4 y5 y6 y7 b9 T8 K8
    go_wp2_with fail
    refine (works_any w9 K9.out.2.1 K9.out.2.2).mono ?_
    rintro e w9 ⟨rfl, b9⟩
    have H9 := Lib.hid (K9.out.go b9)
    clear b9
    go_wp2_with fail
    go_ret
    exact ⟨rfl, H9.out.1⟩
  · have hd : decide (m = n) = false := decide_eq_false hmn
    rw [hd] at hby
    have hSS : ¬ S = S2 := fun e => by rw [e] at hby; simp at hby
    have HD := Lib.hid hd
    clear hmn hd hss
    go_wp2_with fail
    refine (refsame_any m n _ _ w8 ⟨a, c, rfl, T8.out.inn⟩ ⟨a2, c2, rfl, T8.out.inn2⟩).mono ?_
    rintro e w9 ⟨rfl, b9⟩
    rw [HD.out]
    have T9 := Lib.hid (T8.out.go b9)
    have K9 := Lib.hid (K8.out.go b9)
    clear x0 x1 x2 x3 x4 x5 x6 x7 y0 y1 y2 y3 y4 y5 y6 y7 b9 T8 K8
    go_wp2_with fail
    refine (works_any w9 K9.out.2.1 K9.out.2.2).mono ?_
    rintro e w9 ⟨rfl, b9⟩
    have H9 := Lib.hid (K9.out.go b9)
    clear b9
    go_wp2_with fail
    go_ret
    exact ⟨rfl, H9.out.1⟩
end Wild
end Go.Proofs.YtpknglbpbodnbaaDoor
namespace Go.Proofs.YtpknglbpbodnbaaDoor
set_option linter.unusedVariables false
open Go.RowKit Go.Sort Cs Rg Go.ChangeShapes Go.WideShapes Go.ChangeAt

set_option maxRecDepth 100000 in
theorem regtextBackW.walkRaw {H : Type} (enc : TypeId × Value → H) (v0 v1 : Value) (W : World) {base base' : Nat} {d0 d1 : DataW H} {p0 p1 : List MemPlace}
    (wv0 : Value.okWide Tryd.prog W .any base 27 v0) (h0 : DataW.Trod enc Tryd.prog W 0 (fun _ => true) true 27 v0 d0 p0) (_lt0 : ∀ x ∈ p0, x.block < W.heap.size)
    (wv1 : Value.okWide Tryd.prog W .any base' 27 v1) (h1 : DataW.Trod enc Tryd.prog W 0 (fun _ => true) true 27 v1 d1 p1) (_lt1 : ∀ x ∈ p1, x.block < W.heap.size)
    (hL : laidMet Tryd.prog Rows.regtextBackRow.laid W) :
    Calls Tryd.prog 4 #[v0, v1] W fun e w' => e = .returned (.bool true) ∧ Below W.heap.size W w' := by
  obtain ⟨n, hn, hI, -⟩ := open_node wv0 h0
  obtain ⟨m, hm, hJ, -⟩ := open_node wv1 h1
  exact Wild.back_wild n m v0 v1 W hn hI hm hJ (tab14_in hL (by simp [Rows.regtextBackRow])) (marks_in hL (by simp [Rows.regtextBackRow]))
end Go.Proofs.YtpknglbpbodnbaaDoor
