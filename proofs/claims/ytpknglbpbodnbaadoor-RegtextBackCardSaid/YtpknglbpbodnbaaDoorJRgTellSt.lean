/-
  What Text's closures share: whether all is good, how much room is left, and themselves. Conditions: each lemma says its own.
-/
import Derived.Test.YtpknglbpbodnbaaDoorJRgTell
namespace Go.Proofs.YtpknglbpbodnbaaDoor
set_option linter.unusedVariables false
set_option linter.unusedSimpArgs false
open Go.RowKit Go.Sort Cs Rg Go.ChangeShapes Go.WideShapes

theorem Only.put {S : List Nat} {B : Nat} {w w1 w2 : World} (h : Only S w w1) (hb : Below B w1 w2) (hB : w.heap.size ≤ B) : Only S w w2 :=
  ⟨hb.os.trans h.os, hb.tape.trans h.tape, hb.output.trans h.output, Nat.le_trans h.size hb.size, fun k hk hS => (hb.block k (Nat.lt_of_lt_of_le hk hB)).trans (h.block k hk hS)⟩
theorem Blk.others {w w' : World} {g b : Nat} {t e : TypeId} {cs : Array Value} (h : Blk w g t cs) (ho : Lib.OthersKept e (some b) w w') (hg : g ≠ b) (ht : t ≠ e) : Blk w' g t cs :=
  ho g _ h (fun x => hg (Option.some.inj x)) (fun c fz x => by injection x with _ x2; exact ht x2)
theorem atF_only {T e : TypeId} {B b : Nat} {p : Value} {bs : List Value} {S : List Nat} {W W' : World} (h : Lib.BuilderAtF T e B b p bs W) (ho : Only S W W') (hS : ∀ k ∈ S, k < B) : Lib.BuilderAtF T e B b p bs W' := by
  have hlt := h.lt
  obtain ⟨hB, v, hv, ⟨h1, h2⟩, hne⟩ := h
  refine ⟨hB, v, (ho.block b hlt fun hm => by have := hS b hm; omega).trans hv, ⟨h1, ?_⟩, hne⟩
  rcases h2 with h2 | ⟨g, cap, cur, fz, e1, e2, e3, rest⟩
  · exact .inl h2
  · refine .inr ⟨g, cap, cur, fz, e1, e2, (ho.block g ?_ fun hm => by have := hS g hm; omega).trans e3, rest⟩
    rcases Nat.lt_or_ge g W.heap.size with hl | hl
    · exact hl
    · rw [Array.getElem?_eq_none hl] at e3; cases e3
theorem Bld.only {S : List Nat} {w w' : World} {b : Nat} {t : List Nat} (h : Bld w b t) (ho : Only S w w') (hS : ∀ k ∈ S, k < b) : Bld w' b t :=
  h.elim (fun x => .inl (atF_only x ho hS)) (fun x => .inr (atF_only x ho hS))

abbrev vPtr (b : Nat) : Value := .pointer (some ⟨b, 0, none⟩)
/-- the variables of Text that its closures share -/
structure Vs (W0 w : World) (gd rm gp tl : Nat) (g : Bool) (r : Nat) : Prop where
  good : Blk w gd 4 #[.bool g]
  room : Blk w rm 3 #[.int .i64 (r : Int)]
  grp : Blk w gp 45 #[.func (.func 18) #[] #[vPtr tl]]
  tel : Blk w tl 45 #[.func (.func 19) #[] #[vPtr rm, vPtr gd, vPtr gp, vPtr tl]]
  base : Below W0.heap.size W0 w
  b1 : W0.heap.size ≤ gd
  b2 : W0.heap.size ≤ rm
theorem Vs.belowB {W0 w w' : World} {gd rm gp tl B : Nat} {g : Bool} {r : Nat} (h : Vs W0 w gd rm gp tl g r) (hb : Below B w w') (h1 : gd < B) (h2 : rm < B) (h3 : gp < B) (h4 : tl < B) : Vs W0 w' gd rm gp tl g r :=
  ⟨h.good.below hb h1, h.room.below hb h2, h.grp.below hb h3, h.tel.below hb h4, h.base.trans (hb.mono (by have := h.b1; omega)), h.b1, h.b2⟩
theorem Vs.go {W0 w w' : World} {gd rm gp tl : Nat} {g : Bool} {r : Nat} (h : Vs W0 w gd rm gp tl g r) (hb : Below w.heap.size w w') : Vs W0 w' gd rm gp tl g r :=
  h.belowB hb h.good.lt h.room.lt h.grp.lt h.tel.lt
theorem Vs.ne {W0 w : World} {gd rm gp tl : Nat} {g : Bool} {r : Nat} (h : Vs W0 w gd rm gp tl g r) : gd ≠ rm ∧ gd ≠ gp ∧ gd ≠ tl ∧ rm ≠ gp ∧ rm ≠ tl :=
  ⟨Blk.ne_ h.good h.room (by decide), Blk.ne_ h.good h.grp (by decide), Blk.ne_ h.good h.tel (by decide), Blk.ne_ h.room h.grp (by decide), Blk.ne_ h.room h.tel (by decide)⟩
theorem Vs.setRoom {W0 w : World} {gd rm gp tl : Nat} {g : Bool} {r : Nat} (h : Vs W0 w gd rm gp tl g r) (r' : Nat) : Vs W0 (w.setCell ⟨rm, 0, none⟩ (.int .i64 (r' : Int))) gd rm gp tl g r' :=
  ⟨h.good.far (p := ⟨rm, 0, none⟩) h.ne.1 _, h.room.set_ 0 _, h.grp.far (p := ⟨rm, 0, none⟩) (fun e => h.ne.2.2.2.1 e.symm) _, h.tel.far (p := ⟨rm, 0, none⟩) (fun e => h.ne.2.2.2.2 e.symm) _, h.base.setCell (p := ⟨rm, 0, none⟩) h.b2 _, h.b1, h.b2⟩
theorem Vs.setGood {W0 w : World} {gd rm gp tl : Nat} {g : Bool} {r : Nat} (h : Vs W0 w gd rm gp tl g r) (g' : Bool) : Vs W0 (w.setCell ⟨gd, 0, none⟩ (.bool g')) gd rm gp tl g' r :=
  ⟨h.good.set_ 0 _, h.room.far (p := ⟨gd, 0, none⟩) (fun e => h.ne.1 e.symm) _, h.grp.far (p := ⟨gd, 0, none⟩) (fun e => h.ne.2.1 e.symm) _, h.tel.far (p := ⟨gd, 0, none⟩) (fun e => h.ne.2.2.1 e.symm) _, h.base.setCell (p := ⟨gd, 0, none⟩) h.b1 _, h.b1, h.b2⟩
/-- what telling a part comes to -/
structure TQ (W0 : World) (gd rm gp tl : Nat) (n : Nd) (o r : Nat) (w : World) (t : List Nat) (g' : Bool) (r' : Nat) (w' : World) : Prop where
  len : t.length + 50 ≤ 2500 * sizeN n
  st : Vs W0 w' gd rm gp tl g' r'
  on : Only [gd, rm] w w'
  lo : r ≤ r' + sizeN n
  hi : r' ≤ r
  yes : g' = true → t = tellN n ∧ o + nestN n ≤ 16
  no : g' = false → ¬ (o + nestN n ≤ 16 ∧ (tellN n).length ≤ 256)
/-- a call's own state -/
structure Fr (W0 w w' : World) (gd rm gp tl : Nat) (cs : Array Value) (g : Bool) (r : Nat) (acc : List Nat) : Prop where
  st : Vs W0 w' gd rm gp tl g r
  nb : Blk w' w.heap.size 27 cs
  bl : Bld w' (w.heap.size + 1) acc
  on : Only [gd, rm] w w'
  e1 : gd < w.heap.size
  e2 : rm < w.heap.size
  e3 : gp < w.heap.size
  e4 : tl < w.heap.size
section
variable {W0 w w' w2 : World} {gd rm gp tl : Nat} {cs : Array Value} {g g' : Bool} {r r' : Nat} {acc acc2 : List Nat}
theorem Fr.go (h : Fr W0 w w' gd rm gp tl cs g r acc) (hb : Below w'.heap.size w' w2) : Fr W0 w w2 gd rm gp tl cs g r acc :=
  ⟨h.st.go hb, h.nb.below hb h.nb.lt, h.bl.below hb, h.on.put hb h.on.size, h.e1, h.e2, h.e3, h.e4⟩
theorem Fr.put (h : Fr W0 w w' gd rm gp tl cs g r acc) (hb : Below (w.heap.size + 1) w' w2) (h2 : Bld w2 (w.heap.size + 1) acc2) : Fr W0 w w2 gd rm gp tl cs g r acc2 :=
  ⟨h.st.belowB hb (by have := h.e1; omega) (by have := h.e2; omega) (by have := h.e3; omega) (by have := h.e4; omega), h.nb.below hb (by omega), h2, h.on.put hb (by omega), h.e1, h.e2, h.e3, h.e4⟩
theorem Fr.call (h : Fr W0 w w' gd rm gp tl cs g r acc) (ho : Only [gd, rm] w' w2) (h2 : Vs W0 w2 gd rm gp tl g' r') : Fr W0 w w2 gd rm gp tl cs g' r' acc :=
  ⟨h2, h.nb.only ho (by have := h.e1; have := h.e2; simp; omega), h.bl.only ho (fun k hk => by have := h.e1; have := h.e2; simp at hk; rcases hk with rfl | rfl <;> omega), h.on.trans ho, h.e1, h.e2, h.e3, h.e4⟩
theorem Fr.bad (h : Fr W0 w w' gd rm gp tl cs g r acc) : Fr W0 w (w'.setCell ⟨gd, 0, none⟩ (.bool false)) gd rm gp tl cs false r acc :=
  h.call ((Only.refl _ _).setCell (a := ⟨gd, 0, none⟩) (by simp) _) (h.st.setGood false)
end
/-- a loop's plain facts -/
structure LF (k : Int) (l : List Nd) (T : List Nat) (D o q i : Nat) (acc : List Nat) (g : Bool) (r1 : Nat) : Prop where
  hi : r1 ≤ q
  lo : q ≤ r1 + sizeL (l.take i)
  len : acc.length ≤ 2500 * sizeL (l.take i)
  yes : g = true → acc = tellL k true (l.take i) ∧ o + nestL k (l.take i) ≤ 16
  no : g = false → ¬ (o + D ≤ 16 ∧ T.length ≤ 256)
  zero : i = 0 → g = true
/-! plain facts -/
theorem tellL_take_le (k : Int) (l : List Nd) (i : Nat) : (tellL k true (l.take i)).length ≤ (tellL k true l).length := by
  have h := tellL_app k true (l.take i) (l.drop i)
  rw [List.take_append_drop] at h
  rw [h, List.length_append]
  omega
theorem nestL_take_le (k : Int) (l : List Nd) (i : Nat) : nestL k (l.take i) ≤ nestL k l := by
  have h := nestL_app k (l.take i) (l.drop i)
  rw [List.take_append_drop] at h
  rw [h]
  omega
end Go.Proofs.YtpknglbpbodnbaaDoor
