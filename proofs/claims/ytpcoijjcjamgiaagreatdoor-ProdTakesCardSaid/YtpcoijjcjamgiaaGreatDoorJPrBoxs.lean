/-
  Automata in blocks of a call's own, one behind the other. Conditions: each lemma says its own.
-/
import Derived.Test.YtpcoijjcjamgiaaGreatDoorJNot
namespace Go.Proofs.YtpcoijjcjamgiaaGreatDoor
set_option linter.unusedVariables false
open Go.RowKit Go.Maps Go.Sort

structure BoxE where
  p : Nat
  cs : Array Value
  D : DfaI
structure Boxs (w W : World) (l : List BoxE) : Prop where
  bl : Below w.heap.size w W
  T : Pow10 W
  all : ∀ x ∈ l, Blk W x.p 26 x.cs ∧ DfaAt W (.agg x.cs) x.D
section
variable {w W W' : World} {l : List BoxE}
theorem Boxs.start (w : World) (hT : Pow10 w) : Boxs w w [] := ⟨Below.refl _ _, hT, fun x hx => by cases hx⟩
theorem Boxs.below (h : Boxs w W l) (hb : Below W.heap.size W W') : Boxs w W' l :=
  ⟨h.bl.trans (hb.mono h.bl.size), h.T.below hb (Nat.le_refl _), fun x hx => ⟨(h.all x hx).1.below hb (h.all x hx).1.lt, (h.all x hx).2.below hb⟩⟩
theorem Boxs.cons {p : Nat} {cs : Array Value} {D : DfaI} (h : Boxs w W l) (hq : Blk W p 26 cs) (hd : DfaAt W (.agg cs) D) : Boxs w W (⟨p, cs, D⟩ :: l) :=
  ⟨h.bl, h.T, fun x hx => by
    rcases List.mem_cons.1 hx with rfl | hx
    · exact ⟨hq, hd⟩
    · exact h.all x hx⟩
theorem Boxs.push {cs : Array Value} {D : DfaI} (h : Boxs w W l) (hd : DfaAt W (.agg cs) D) : Boxs w (W.alloc (.cells cs 26)) (⟨W.heap.size, cs, D⟩ :: l) :=
  have hal := (Below.refl W.heap.size W).alloc (Nat.le_refl _) (.cells cs 26)
  (h.below hal).cons (Blk.new W _ cs) (hd.below hal)
theorem Boxs.get {p : Nat} {cs : Array Value} {D : DfaI} (h : Boxs w W l) (hm : (⟨p, cs, D⟩ : BoxE) ∈ l) : Blk W p 26 cs ∧ DfaAt W (.agg cs) D := h.all _ hm
end
end Go.Proofs.YtpcoijjcjamgiaaGreatDoor
