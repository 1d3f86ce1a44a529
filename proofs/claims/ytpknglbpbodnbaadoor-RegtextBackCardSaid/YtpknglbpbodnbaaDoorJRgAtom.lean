/-
  The walk of atom. Conditions: the reader stands within its text, which has 256 bytes at most; the library's table lies as laid; alt does what it is said to do.
-/
import Derived.Test.YtpknglbpbodnbaaDoorJRgSizes
import Derived.Test.YtpknglbpbodnbaaDoorJRgJoinW
namespace Go.Proofs.YtpknglbpbodnbaaDoor
set_option linter.unusedVariables false
set_option linter.unusedSimpArgs false
open Go.RowKit Go.Sort Cs Rg Go.ChangeShapes Go.WideShapes

abbrev valNd (w0 : World) (n : Nd) (v : Value) (w' : World) : Prop := NdV (fun b => w0.heap.size ≤ b) w' v n
/-- what a method is said to do -/
def ALT (rb : Nat) (s : ByteArray) (f : Nat) : Prop := ∀ (i o : Nat) (w : World), Rd w rb s i o → o ≤ 16 → i ≤ s.size → TabIn w → 4 * (restL s i).length + 4 ≤ f →
  Calls Tryd.prog 40 #[vPtr rb] w (Told w rb s i o (altP f o (restL s i)) (valNd w))
def CAT (rb : Nat) (s : ByteArray) (f : Nat) : Prop := ∀ (i o : Nat) (w : World), Rd w rb s i o → o ≤ 16 → i ≤ s.size → TabIn w → 4 * (restL s i).length + 3 ≤ f →
  Calls Tryd.prog 55 #[vPtr rb] w (Told w rb s i o (catP f o [] (restL s i)) (valNd w))
def PIECE (rb : Nat) (s : ByteArray) (f : Nat) : Prop := ∀ (i o : Nat) (w : World), Rd w rb s i o → o ≤ 16 → i ≤ s.size → TabIn w → 4 * (restL s i).length + 2 ≤ f →
  Calls Tryd.prog 63 #[vPtr rb] w (Told w rb s i o (pieceP f o (restL s i)) (valNd w))
def ATOM (rb : Nat) (s : ByteArray) (f : Nat) : Prop := ∀ (i o : Nat) (w : World), Rd w rb s i o → o ≤ 16 → i ≤ s.size → TabIn w → 4 * (restL s i).length + 1 ≤ f →
  Calls Tryd.prog 66 #[vPtr rb] w (Told w rb s i o (atomP f o (restL s i)) (valNd w))
/-- the reader, and the variable of the result -/
structure Na (w w' : World) (rb : Nat) (s : ByteArray) (i o : Nat) : Prop where
  rd : RdGo w rb s i o w'
  res : Blk w' w.heap.size 27 #[.int .i64 0, .int .u64 0, .int .u64 0, .int .u64 0, .int .u64 0, .slice none 0 0, .int .i64 0, .int .i64 0]
  lr : rb < w.heap.size
section
variable {w w' w2 : World} {rb : Nat} {s : ByteArray} {i o : Nat}
theorem Na.new (h : Rd w rb s i o) : Na w (w.alloc (.cells #[.int .i64 0, .int .u64 0, .int .u64 0, .int .u64 0, .int .u64 0, .slice none 0 0, .int .i64 0, .int .i64 0] 27)) rb s i o := ⟨(RdGo.refl h).go ((Below.refl _ w).alloc (Nat.le_refl _) _), Blk.new w 27 #[.int .i64 0, .int .u64 0, .int .u64 0, .int .u64 0, .int .u64 0, .slice none 0 0, .int .i64 0, .int .i64 0], h.lt⟩
theorem Na.go (h : Na w w' rb s i o) (hb : Below w'.heap.size w' w2) : Na w w2 rb s i o := ⟨h.rd.go hb, h.res.below hb h.res.lt, h.lr⟩
theorem Na.on (h : Na w w' rb s i o) {j o2 : Nat} (h2 : RdGo w' rb s j o2 w2) : Na w w2 rb s j o2 := ⟨h.rd.on h2, h.res.only h2.2 (by have := h.lr; simp; omega), h.lr⟩
theorem Na.step (h : Na w w' rb s i o) : Na w (w'.setCell ⟨rb, 1, none⟩ (.int .i64 ((i : Int) + 1))) rb s (i + 1) o := h.on (RdGo.step (RdGo.refl h.rd.1))
theorem Rd.setOpen (h : Rd w rb s i o) (o2 : Nat) : Rd (w.setCell ⟨rb, 2, none⟩ (.int .i64 (o2 : Int))) rb s i o2 := h.set_ 2 (.int .i64 (o2 : Int))
theorem Na.setOpen (h : Na w w' rb s i o) (o2 : Nat) : Na w (w'.setCell ⟨rb, 2, none⟩ (.int .i64 (o2 : Int))) rb s i o2 := h.on ⟨h.rd.1.setOpen o2, (Only.refl _ _).setCell (a := ⟨rb, 2, none⟩) (by simp) _⟩
theorem Na.end_ (h : Na w w' rb s i o) (u0 u1 u2 u3 u4 u5 u6 u7 : Value) :
    RdGo w rb s i o ((((((((w'.setCell ⟨w.heap.size, 0, none⟩ u0).setCell ⟨w.heap.size, 1, none⟩ u1).setCell ⟨w.heap.size, 2, none⟩ u2).setCell ⟨w.heap.size, 3, none⟩ u3).setCell ⟨w.heap.size, 4, none⟩ u4).setCell ⟨w.heap.size, 5, none⟩ u5).setCell ⟨w.heap.size, 6, none⟩ u6).setCell ⟨w.heap.size, 7, none⟩ u7) :=
  ⟨Blk.only h.rd.1 (only_set8 w' w.heap.size u0 u1 u2 u3 u4 u5 u6 u7) (by have := h.lr; simp; omega), h.rd.2.put (B := w.heap.size) (below_set8 (Below.refl _ _) u0 u1 u2 u3 u4 u5 u6 u7 (Nat.le_refl _)) (Nat.le_refl _)⟩
end
theorem Na.openUp {w w' : World} {rb : Nat} {s : ByteArray} {i o : Nat} (h : Na w w' rb s i o) : Na w (w'.setCell ⟨rb, 2, none⟩ (.int .i64 ((o : Int) + 1))) rb s i (o + 1) := h.setOpen (o + 1)
theorem setV_f (S : S4) : setV S.f = .agg #[.int .u64 S.a, .int .u64 S.b, .int .u64 S.c, .int .u64 S.d] := rfl
theorem ndv_one (P : Nat → Prop) (w : World) (S : S4) : NdV P w (nodeV 1 S (.slice none 0 0) 0 0) (oneN S) := ⟨none, 0, rfl, by unfold oneN; rw [NdP]; exact ⟨by unfold maxLen; simp, .inl rfl⟩⟩
theorem need41 (rb : Nat) (s : ByteArray) (i o : Nat) (w : World) (h : Rd w rb s i o) (hs : s.size ≤ 256) :
    Calls Tryd.prog 68 #[vPtr rb, .int .u8 41] w fun e w' => (((restL s i).head? = some 41 ∧ e = .returned (.tuple #[]) ∧ RdGo w rb s (i + 1) o w') ∨ ((restL s i).head? ≠ some 41 ∧ Broke e ∧ Only [rb] w w')) := need_any rb s i o 41 w h hs (by omega)
theorem need125 (rb : Nat) (s : ByteArray) (i o : Nat) (w : World) (h : Rd w rb s i o) (hs : s.size ≤ 256) :
    Calls Tryd.prog 68 #[vPtr rb, .int .u8 125] w fun e w' => (((restL s i).head? = some 125 ∧ e = .returned (.tuple #[]) ∧ RdGo w rb s (i + 1) o w') ∨ ((restL s i).head? ≠ some 125 ∧ Broke e ∧ Only [rb] w w')) := need_any rb s i o 125 w h hs (by omega)
set_option maxHeartbeats 8000000 in
set_option maxRecDepth 1000000 in
theorem atom_step (rb : Nat) (s : ByteArray) (hs : s.size ≤ 256) (f : Nat) (hA : ∀ g, g < f → ALT rb s g) : ATOM rb s f := by
  intro i o w h ho hi hT hf
  have HT := Lib.hid (And.intro hT h)
  have HA := Lib.hid hA
  have G0 := Lib.hid (Na.new h)
  have hi6 : i ≤ 256 := by omega
  obtain ⟨f, rfl⟩ : ∃ f', f = f' + 1 := ⟨f - 1, by omega⟩
  obtain ⟨R, hR⟩ : ∃ R, atomP (f + 1) o (restL s i) = R := ⟨_, rfl⟩
  have HR := Lib.hid hR
  rw [hR]
  clear hR h hT hA
  go_enter Tryd.func66, Tryd.ntmps66
  go_wp2_with fail
  generalize w.alloc (.cells #[.int .i64 0, .int .u64 0, .int .u64 0, .int .u64 0, .int .u64 0, .slice none 0 0, .int .i64 0, .int .i64 0] 27) = w1 at *
  refine (peek_any rb s i o _ G0.out.rd.1 hs).mono ?_
  rintro e w2 ⟨rfl, bx⟩
  have G := Lib.hid (G0.out.go bx)
  clear bx G0
  cases hr : restL s i with
  | nil =>
    have HE := Lib.hid (show atomP (f + 1) o (restL s i) = none by rw [hr, atomP.eq_def])
    clear hr
    simp only [pkI]
    go_wp2_with fail
    refine (wrong_any rb s i o _ G.out.rd.1 hs).mono ?_
    rintro e w9 ⟨⟨E, x, rfl, hE⟩, bx⟩
    exact ⟨rfl, by rw [← HR.out, HE.out]; exact ⟨⟨E, x, rfl, hE⟩, G.out.rd.2.put bx G.out.rd.2.size⟩⟩
  | cons b l =>
    have hb := restL_cons hr
    have hb9 := hb.2.2
    have hil := hb.1
    have hlen := restL_len s i
    have hli := restL_len s i
    rw [hr, List.length_cons] at hlen
    obtain ⟨jn, hjn⟩ : ∃ jn, i + 1 = jn := ⟨_, rfl⟩
    have HJN := Lib.hid hjn
    have hrl := hb.2.1
    rw [hjn] at hrl
    have hlj := restL_len s jn
    have hat : atomP (f + 1) o (restL s i) = if b ∈ signsA then none
      else if b = 40 then (if 16 ≤ o then none else match altP f (o + 1) (restL s jn) with
        | none => none
        | some (n, l2) => if l2.head? = some 41 then some (n, l2.tail) else none)
      else if b = 46 then some (oneN all4, restL s jn)
      else if b = 91 then (match classP (restL s jn) with
        | none => none
        | some (S, l2) => some (oneN S, l2))
      else if b = 92 then (match escP (restL s jn) with
        | none => none
        | some (e, l2) => some (oneN e.set, l2))
      else some (oneN (one4 b), restL s jn) := by
      rw [hr, ← hrl, atomP.eq_def]
      rfl
    have HAT := Lib.hid hat
    have hjs : jn ≤ s.size := by omega
    have hij : i ≤ jn := by omega
    clear hr hb hat hrl
    simp only [pkI]
    have kn : ((b : Int) == -1) = false := by rw [beq_eq_false_iff_ne]; omega
    by_cases hsg : b ∈ signsA
    · have HE := Lib.hid (show atomP (f + 1) o (restL s i) = none by rw [HAT.out, if_pos hsg])
      have hv8 : b = 41 ∨ b = 93 ∨ b = 123 ∨ b = 125 ∨ b = 124 ∨ b = 42 ∨ b = 43 ∨ b = 63 := by simpa [signsA] using hsg
      clear hsg
      rcases hv8 with hv | hv | hv | hv | hv | hv | hv | hv
      · skip
        have q41 : ((b : Int) == 41) = ((41 : Int) == 41) := by rw [hv]; rfl
        have q93 : ((b : Int) == 93) = ((41 : Int) == 93) := by rw [hv]; rfl
        have q123 : ((b : Int) == 123) = ((41 : Int) == 123) := by rw [hv]; rfl
        have q125 : ((b : Int) == 125) = ((41 : Int) == 125) := by rw [hv]; rfl
        have q124 : ((b : Int) == 124) = ((41 : Int) == 124) := by rw [hv]; rfl
        have q42 : ((b : Int) == 42) = ((41 : Int) == 42) := by rw [hv]; rfl
        have q43 : ((b : Int) == 43) = ((41 : Int) == 43) := by rw [hv]; rfl
        have q63 : ((b : Int) == 63) = ((41 : Int) == 63) := by rw [hv]; rfl
        have q40 : ((b : Int) == 40) = ((41 : Int) == 40) := by rw [hv]; rfl
        have q46 : ((b : Int) == 46) = ((41 : Int) == 46) := by rw [hv]; rfl
        have q91 : ((b : Int) == 91) = ((41 : Int) == 91) := by rw [hv]; rfl
        have q92 : ((b : Int) == 92) = ((41 : Int) == 92) := by rw [hv]; rfl
        clear hv
        go_wp2_with fail
        refine (wrong_any rb s i o _ G.out.rd.1 hs).mono ?_
        rintro e w9 ⟨⟨E, x, rfl, hE⟩, bx⟩
        exact ⟨rfl, by rw [← HR.out, HE.out]; exact ⟨⟨E, x, rfl, hE⟩, G.out.rd.2.put bx G.out.rd.2.size⟩⟩
      · skip
        have q41 : ((b : Int) == 41) = ((93 : Int) == 41) := by rw [hv]; rfl
        have q93 : ((b : Int) == 93) = ((93 : Int) == 93) := by rw [hv]; rfl
        have q123 : ((b : Int) == 123) = ((93 : Int) == 123) := by rw [hv]; rfl
        have q125 : ((b : Int) == 125) = ((93 : Int) == 125) := by rw [hv]; rfl
        have q124 : ((b : Int) == 124) = ((93 : Int) == 124) := by rw [hv]; rfl
        have q42 : ((b : Int) == 42) = ((93 : Int) == 42) := by rw [hv]; rfl
        have q43 : ((b : Int) == 43) = ((93 : Int) == 43) := by rw [hv]; rfl
        have q63 : ((b : Int) == 63) = ((93 : Int) == 63) := by rw [hv]; rfl
        have q40 : ((b : Int) == 40) = ((93 : Int) == 40) := by rw [hv]; rfl
        have q46 : ((b : Int) == 46) = ((93 : Int) == 46) := by rw [hv]; rfl
        have q91 : ((b : Int) == 91) = ((93 : Int) == 91) := by rw [hv]; rfl
        have q92 : ((b : Int) == 92) = ((93 : Int) == 92) := by rw [hv]; rfl
        clear hv
        go_wp2_with fail
        refine (wrong_any rb s i o _ G.out.rd.1 hs).mono ?_
        rintro e w9 ⟨⟨E, x, rfl, hE⟩, bx⟩
        exact ⟨rfl, by rw [← HR.out, HE.out]; exact ⟨⟨E, x, rfl, hE⟩, G.out.rd.2.put bx G.out.rd.2.size⟩⟩
      · skip
        have q41 : ((b : Int) == 41) = ((123 : Int) == 41) := by rw [hv]; rfl
        have q93 : ((b : Int) == 93) = ((123 : Int) == 93) := by rw [hv]; rfl
        have q123 : ((b : Int) == 123) = ((123 : Int) == 123) := by rw [hv]; rfl
        have q125 : ((b : Int) == 125) = ((123 : Int) == 125) := by rw [hv]; rfl
        have q124 : ((b : Int) == 124) = ((123 : Int) == 124) := by rw [hv]; rfl
        have q42 : ((b : Int) == 42) = ((123 : Int) == 42) := by rw [hv]; rfl
        have q43 : ((b : Int) == 43) = ((123 : Int) == 43) := by rw [hv]; rfl
        have q63 : ((b : Int) == 63) = ((123 : Int) == 63) := by rw [hv]; rfl
        have q40 : ((b : Int) == 40) = ((123 : Int) == 40) := by rw [hv]; rfl
        have q46 : ((b : Int) == 46) = ((123 : Int) == 46) := by rw [hv]; rfl
        have q91 : ((b : Int) == 91) = ((123 : Int) == 91) := by rw [hv]; rfl
        have q92 : ((b : Int) == 92) = ((123 : Int) == 92) := by rw [hv]; rfl
        clear hv
        go_wp2_with fail
        refine (wrong_any rb s i o _ G.out.rd.1 hs).mono ?_
        rintro e w9 ⟨⟨E, x, rfl, hE⟩, bx⟩
        exact ⟨rfl, by rw [← HR.out, HE.out]; exact ⟨⟨E, x, rfl, hE⟩, G.out.rd.2.put bx G.out.rd.2.size⟩⟩
      · skip
        have q41 : ((b : Int) == 41) = ((125 : Int) == 41) := by rw [hv]; rfl
        have q93 : ((b : Int) == 93) = ((125 : Int) == 93) := by rw [hv]; rfl
        have q123 : ((b : Int) == 123) = ((125 : Int) == 123) := by rw [hv]; rfl
        have q125 : ((b : Int) == 125) = ((125 : Int) == 125) := by rw [hv]; rfl
        have q124 : ((b : Int) == 124) = ((125 : Int) == 124) := by rw [hv]; rfl
        have q42 : ((b : Int) == 42) = ((125 : Int) == 42) := by rw [hv]; rfl
        have q43 : ((b : Int) == 43) = ((125 : Int) == 43) := by rw [hv]; rfl
        have q63 : ((b : Int) == 63) = ((125 : Int) == 63) := by rw [hv]; rfl
        have q40 : ((b : Int) == 40) = ((125 : Int) == 40) := by rw [hv]; rfl
        have q46 : ((b : Int) == 46) = ((125 : Int) == 46) := by rw [hv]; rfl
        have q91 : ((b : Int) == 91) = ((125 : Int) == 91) := by rw [hv]; rfl
        have q92 : ((b : Int) == 92) = ((125 : Int) == 92) := by rw [hv]; rfl
        clear hv
        go_wp2_with fail
        refine (wrong_any rb s i o _ G.out.rd.1 hs).mono ?_
        rintro e w9 ⟨⟨E, x, rfl, hE⟩, bx⟩
        exact ⟨rfl, by rw [← HR.out, HE.out]; exact ⟨⟨E, x, rfl, hE⟩, G.out.rd.2.put bx G.out.rd.2.size⟩⟩
      · skip
        have q41 : ((b : Int) == 41) = ((124 : Int) == 41) := by rw [hv]; rfl
        have q93 : ((b : Int) == 93) = ((124 : Int) == 93) := by rw [hv]; rfl
        have q123 : ((b : Int) == 123) = ((124 : Int) == 123) := by rw [hv]; rfl
        have q125 : ((b : Int) == 125) = ((124 : Int) == 125) := by rw [hv]; rfl
        have q124 : ((b : Int) == 124) = ((124 : Int) == 124) := by rw [hv]; rfl
        have q42 : ((b : Int) == 42) = ((124 : Int) == 42) := by rw [hv]; rfl
        have q43 : ((b : Int) == 43) = ((124 : Int) == 43) := by rw [hv]; rfl
        have q63 : ((b : Int) == 63) = ((124 : Int) == 63) := by rw [hv]; rfl
        have q40 : ((b : Int) == 40) = ((124 : Int) == 40) := by rw [hv]; rfl
        have q46 : ((b : Int) == 46) = ((124 : Int) == 46) := by rw [hv]; rfl
        have q91 : ((b : Int) == 91) = ((124 : Int) == 91) := by rw [hv]; rfl
        have q92 : ((b : Int) == 92) = ((124 : Int) == 92) := by rw [hv]; rfl
        clear hv
        go_wp2_with fail
        refine (wrong_any rb s i o _ G.out.rd.1 hs).mono ?_
        rintro e w9 ⟨⟨E, x, rfl, hE⟩, bx⟩
        exact ⟨rfl, by rw [← HR.out, HE.out]; exact ⟨⟨E, x, rfl, hE⟩, G.out.rd.2.put bx G.out.rd.2.size⟩⟩
      · skip
        have q41 : ((b : Int) == 41) = ((42 : Int) == 41) := by rw [hv]; rfl
        have q93 : ((b : Int) == 93) = ((42 : Int) == 93) := by rw [hv]; rfl
        have q123 : ((b : Int) == 123) = ((42 : Int) == 123) := by rw [hv]; rfl
        have q125 : ((b : Int) == 125) = ((42 : Int) == 125) := by rw [hv]; rfl
        have q124 : ((b : Int) == 124) = ((42 : Int) == 124) := by rw [hv]; rfl
        have q42 : ((b : Int) == 42) = ((42 : Int) == 42) := by rw [hv]; rfl
        have q43 : ((b : Int) == 43) = ((42 : Int) == 43) := by rw [hv]; rfl
        have q63 : ((b : Int) == 63) = ((42 : Int) == 63) := by rw [hv]; rfl
        have q40 : ((b : Int) == 40) = ((42 : Int) == 40) := by rw [hv]; rfl
        have q46 : ((b : Int) == 46) = ((42 : Int) == 46) := by rw [hv]; rfl
        have q91 : ((b : Int) == 91) = ((42 : Int) == 91) := by rw [hv]; rfl
        have q92 : ((b : Int) == 92) = ((42 : Int) == 92) := by rw [hv]; rfl
        clear hv
        go_wp2_with fail
        refine (wrong_any rb s i o _ G.out.rd.1 hs).mono ?_
        rintro e w9 ⟨⟨E, x, rfl, hE⟩, bx⟩
        exact ⟨rfl, by rw [← HR.out, HE.out]; exact ⟨⟨E, x, rfl, hE⟩, G.out.rd.2.put bx G.out.rd.2.size⟩⟩
      · skip
        have q41 : ((b : Int) == 41) = ((43 : Int) == 41) := by rw [hv]; rfl
        have q93 : ((b : Int) == 93) = ((43 : Int) == 93) := by rw [hv]; rfl
        have q123 : ((b : Int) == 123) = ((43 : Int) == 123) := by rw [hv]; rfl
        have q125 : ((b : Int) == 125) = ((43 : Int) == 125) := by rw [hv]; rfl
        have q124 : ((b : Int) == 124) = ((43 : Int) == 124) := by rw [hv]; rfl
        have q42 : ((b : Int) == 42) = ((43 : Int) == 42) := by rw [hv]; rfl
        have q43 : ((b : Int) == 43) = ((43 : Int) == 43) := by rw [hv]; rfl
        have q63 : ((b : Int) == 63) = ((43 : Int) == 63) := by rw [hv]; rfl
        have q40 : ((b : Int) == 40) = ((43 : Int) == 40) := by rw [hv]; rfl
        have q46 : ((b : Int) == 46) = ((43 : Int) == 46) := by rw [hv]; rfl
        have q91 : ((b : Int) == 91) = ((43 : Int) == 91) := by rw [hv]; rfl
        have q92 : ((b : Int) == 92) = ((43 : Int) == 92) := by rw [hv]; rfl
        clear hv
        go_wp2_with fail
        refine (wrong_any rb s i o _ G.out.rd.1 hs).mono ?_
        rintro e w9 ⟨⟨E, x, rfl, hE⟩, bx⟩
        exact ⟨rfl, by rw [← HR.out, HE.out]; exact ⟨⟨E, x, rfl, hE⟩, G.out.rd.2.put bx G.out.rd.2.size⟩⟩
      · skip
        have q41 : ((b : Int) == 41) = ((63 : Int) == 41) := by rw [hv]; rfl
        have q93 : ((b : Int) == 93) = ((63 : Int) == 93) := by rw [hv]; rfl
        have q123 : ((b : Int) == 123) = ((63 : Int) == 123) := by rw [hv]; rfl
        have q125 : ((b : Int) == 125) = ((63 : Int) == 125) := by rw [hv]; rfl
        have q124 : ((b : Int) == 124) = ((63 : Int) == 124) := by rw [hv]; rfl
        have q42 : ((b : Int) == 42) = ((63 : Int) == 42) := by rw [hv]; rfl
        have q43 : ((b : Int) == 43) = ((63 : Int) == 43) := by rw [hv]; rfl
        have q63 : ((b : Int) == 63) = ((63 : Int) == 63) := by rw [hv]; rfl
        have q40 : ((b : Int) == 40) = ((63 : Int) == 40) := by rw [hv]; rfl
        have q46 : ((b : Int) == 46) = ((63 : Int) == 46) := by rw [hv]; rfl
        have q91 : ((b : Int) == 91) = ((63 : Int) == 91) := by rw [hv]; rfl
        have q92 : ((b : Int) == 92) = ((63 : Int) == 92) := by rw [hv]; rfl
        clear hv
        go_wp2_with fail
        refine (wrong_any rb s i o _ G.out.rd.1 hs).mono ?_
        rintro e w9 ⟨⟨E, x, rfl, hE⟩, bx⟩
        exact ⟨rfl, by rw [← HR.out, HE.out]; exact ⟨⟨E, x, rfl, hE⟩, G.out.rd.2.put bx G.out.rd.2.size⟩⟩
    have hns : b ≠ 41 ∧ b ≠ 93 ∧ b ≠ 123 ∧ b ≠ 125 ∧ b ≠ 124 ∧ b ≠ 42 ∧ b ≠ 43 ∧ b ≠ 63 := by simpa [signsA] using hsg
    by_cases h40 : b = 40
    · have hv := h40
      have q41 : ((b : Int) == 41) = ((40 : Int) == 41) := by rw [hv]; rfl
      have q93 : ((b : Int) == 93) = ((40 : Int) == 93) := by rw [hv]; rfl
      have q123 : ((b : Int) == 123) = ((40 : Int) == 123) := by rw [hv]; rfl
      have q125 : ((b : Int) == 125) = ((40 : Int) == 125) := by rw [hv]; rfl
      have q124 : ((b : Int) == 124) = ((40 : Int) == 124) := by rw [hv]; rfl
      have q42 : ((b : Int) == 42) = ((40 : Int) == 42) := by rw [hv]; rfl
      have q43 : ((b : Int) == 43) = ((40 : Int) == 43) := by rw [hv]; rfl
      have q63 : ((b : Int) == 63) = ((40 : Int) == 63) := by rw [hv]; rfl
      have q40 : ((b : Int) == 40) = ((40 : Int) == 40) := by rw [hv]; rfl
      have q46 : ((b : Int) == 46) = ((40 : Int) == 46) := by rw [hv]; rfl
      have q91 : ((b : Int) == 91) = ((40 : Int) == 91) := by rw [hv]; rfl
      have q92 : ((b : Int) == 92) = ((40 : Int) == 92) := by rw [hv]; rfl
      have hat : atomP (f + 1) o (restL s i) = if 16 ≤ o then none else match altP f (o + 1) (restL s jn) with
        | none => none
        | some (n, l2) => if l2.head? = some 41 then some (n, l2.tail) else none := by rw [HAT.out, if_neg hsg, if_pos h40]
      have HAT2 := Lib.hid hat
      clear hat hv h40 hns hsg
      obtain ⟨⟨c0, c1, c2⟩, z0, z1, z2⟩ := G.out.rd.1.c3
      go_upto_region 15 with (fail)
      have G2 := G.out.openUp
      obtain ⟨o1, ho1⟩ : ∃ o1, o + 1 = o1 := ⟨_, rfl⟩
      rw [ho1] at G2 HAT2
      have HO := Lib.hid ho1
      have ho17 : o1 ≤ 17 := by omega
      have hsub : (o1 : Int) - 1 = (o : Int) := by omega
      have G2 := Lib.hid G2
      clear c0 c1 c2 z0 z1 z2 G
      generalize w2.setCell ⟨rb, 2, none⟩ (.int .i64 ((o : Int) + 1)) = w3 at *
      obtain ⟨⟨c0, c1, c2⟩, z0, z1, z2⟩ := G2.out.rd.1.c3
      by_cases ho16 : 16 ≤ o
      · have HE := Lib.hid (show atomP (f + 1) o (restL s i) = none by rw [HAT2.out, if_pos ho16])
        have k16 : decide ((16 : Int) < (o1 : Int)) = true := decide_eq_true (by omega)
        have k16' : decide (16 < o1) = true := decide_eq_true (by omega)
        clear ho16 ho1
        go_wp2_with fail
        refine (fail_any 3 _ _ (by omega)).mono ?_
        rintro e w9 ⟨⟨E, x, rfl, hE⟩, bx⟩
        exact ⟨rfl, by rw [← HR.out, HE.out]; exact ⟨⟨E, x, rfl, hE⟩, G2.out.rd.2.put bx G2.out.rd.2.size⟩⟩
      have k16 : decide ((16 : Int) < (o1 : Int)) = false := decide_eq_false (by omega)
      have k16' : decide (16 < o1) = false := decide_eq_false (by omega)
      have ho16' : o1 ≤ 16 := by omega
      have hat := HAT2.out
      rw [if_neg ho16] at hat
      have HAT3 := Lib.hid hat
      clear hat ho16 ho1 HAT2
      go_upto_region 18 with (fail)
      have G3 := G2.out.step
      rw [hjn] at G3
      have G3 := Lib.hid G3
      clear c0 c1 c2 z0 z1 z2 G2
      generalize w3.setCell ⟨rb, 1, none⟩ (.int .i64 ((i : Int) + 1)) = w4 at *
      go_wp2_with fail
      refine (HA.out f (by omega) jn o1 _ G3.out.rd.1 ho16' hjs (HT.out.1.only HT.out.2 G3.out.rd.2) (by omega)).mono ?_
      intro e w5 ht
      rcases ht.elim with ⟨hn, ⟨E, x, rfl, hE⟩, ho⟩ | ⟨n, j, v, hn, rfl, ⟨a', c', rfl, hnp⟩, hij2, hj2, hg⟩
      · have HE := Lib.hid (show atomP (f + 1) o (restL s i) = none by rw [HAT3.out, hn])
        exact ⟨rfl, by rw [← HR.out, HE.out]; exact ⟨⟨E, x, rfl, hE⟩, G3.out.rd.2.trans ho⟩⟩
      have hat := HAT3.out
      rw [hn] at hat
      simp only at hat
      have HAT4 := Lib.hid hat
      have hw4 : w.heap.size < w4.heap.size := G3.out.res.lt
      have G4 := Lib.hid (G3.out.on hg)
      clear hat hn hg ht G3 HAT3
      unfold nodeV
      go_upto_region 19 with (fail)
      have hbk := (Below.refl w5.heap.size w5).alloc (Nat.le_refl _) (.cells #[.int .i64 n.kind, .int .u64 n.set.a, .int .u64 n.set.b, .int .u64 n.set.c, .int .u64 n.set.d, .slice a' n.kids.length c', .int .i64 n.lo, .int .i64 n.hi] 27)
      have nb := Blk.new w5 27 #[.int .i64 n.kind, .int .u64 n.set.a, .int .u64 n.set.b, .int .u64 n.set.c, .int .u64 n.set.d, .slice a' n.kids.length c', .int .i64 n.lo, .int .i64 n.hi]
      have NB := Lib.hid (And.intro nb (NdP.keep (Q := fun b => w4.heap.size ≤ b) hbk.size (fun b hb hp => ⟨hp, hbk.block b hb⟩) n hnp))
      have G5 := Lib.hid (G4.out.go hbk)
      clear hbk nb hnp G4
      obtain ⟨nbk, hnbk⟩ : ∃ nbk, w5.heap.size = nbk := ⟨_, rfl⟩
      generalize w5.alloc (.cells #[.int .i64 n.kind, .int .u64 n.set.a, .int .u64 n.set.b, .int .u64 n.set.c, .int .u64 n.set.d, .slice a' n.kids.length c', .int .i64 n.lo, .int .i64 n.hi] 27) = w6 at *
      rw [hnbk] at NB ⊢
      clear hnbk
      go_wp2_with fail
      refine (need41 rb s j o1 _ G5.out.rd.1 hs).mono ?_
      rintro e w7 (⟨hd, rfl, hg⟩ | ⟨hd, ⟨E, x, rfl, hE⟩, ho⟩)
      · have hjl : j < s.size := by
          cases hr : restL s j with
          | nil => rw [hr] at hd; cases hd
          | cons b l => exact (restL_cons hr).1
        have HE := Lib.hid (show atomP (f + 1) o (restL s i) = some (n, restL s (j + 1)) by rw [HAT4.out, if_pos hd, restL_at hjl]; rfl)
        have hne : nbk ≠ rb := Blk.ne_ NB.out.1 G5.out.rd.1 (by decide)
        have NB2 := Lib.hid (And.intro (NB.out.1.only hg.2 (by simpa using hne)) (And.intro hne (NdP.keep (Q := fun b => w4.heap.size ≤ b) hg.2.size (fun b hb hp => ⟨hp, hg.2.block b hb (by have := G5.out.lr; simp; omega)⟩) n NB.out.2)))
        have G6 := Lib.hid (G5.out.on hg)
        clear hd hg hne NB G5
        obtain ⟨⟨c0, c1, c2⟩, z0, z1, z2⟩ := G6.out.rd.1.c3
        go_upto_region 21 with (fail)
        have G7 := Lib.hid (G6.out.setOpen o)
        have ho7 : Only [rb] w7 (w7.setCell ⟨rb, 2, none⟩ (.int .i64 (o : Int))) := (Only.refl _ _).setCell (a := ⟨rb, 2, none⟩) (by simp) _
        have NB3 := Lib.hid (And.intro (NB2.out.1.only ho7 (by simpa using NB2.out.2.1)) (NdP.keep (Q := fun b => w4.heap.size ≤ b) ho7.size (fun b hb hp => ⟨hp, ho7.block b hb (by have := G6.out.lr; simp; omega)⟩) n NB2.out.2.2))
        clear c0 c1 c2 z0 z1 z2 G6 NB2 ho7
        generalize w7.setCell ⟨rb, 2, none⟩ (.int .i64 (o : Int)) = w8 at *
        obtain ⟨⟨x0, x1, x2, x3, x4, x5, x6, x7⟩, -⟩ := NB3.out.1.c8
        obtain ⟨⟨y0, y1, y2, y3, y4, y5, y6, y7⟩, z0, z1, z2, z3, z4, z5, z6, z7⟩ := G7.out.res.c8
        go_wp2_with fail
        refine bodyPost_ret (v := nodeV n.kind n.set (.slice a' n.kids.length c') n.lo n.hi) (by simp [results, Tryd.results66, go_sem, nodeV, y0, y1, y2, y3, y4, y5, y6, y7]) rfl ?_
        rw [← HR.out, HE.out]
        have hoo := only_set8 w8 w.heap.size (.int .i64 n.kind) (.int .u64 n.set.a) (.int .u64 n.set.b) (.int .u64 n.set.c) (.int .u64 n.set.d) (.slice a' n.kids.length c') (.int .i64 n.lo) (.int .i64 n.hi)
        exact Told.some_ ⟨a', c', rfl, NdP.keep hoo.size (fun b hb hp => ⟨by omega, hoo.block b hb (by simp; omega)⟩) n NB3.out.2⟩ (by omega) (by omega) (G7.out.end_ _ _ _ _ _ _ _ _)
      · have HE := Lib.hid (show atomP (f + 1) o (restL s i) = none by rw [HAT4.out, if_neg hd])
        exact ⟨rfl, by rw [← HR.out, HE.out]; exact ⟨⟨E, x, rfl, hE⟩, G5.out.rd.2.trans ho⟩⟩
    by_cases h46 : b = 46
    · have HE := Lib.hid (show atomP (f + 1) o (restL s i) = some (oneN all4, restL s jn) by rw [HAT.out, if_neg hsg, if_neg h40, if_pos h46])
      have hv := h46
      have q41 : ((b : Int) == 41) = ((46 : Int) == 41) := by rw [hv]; rfl
      have q93 : ((b : Int) == 93) = ((46 : Int) == 93) := by rw [hv]; rfl
      have q123 : ((b : Int) == 123) = ((46 : Int) == 123) := by rw [hv]; rfl
      have q125 : ((b : Int) == 125) = ((46 : Int) == 125) := by rw [hv]; rfl
      have q124 : ((b : Int) == 124) = ((46 : Int) == 124) := by rw [hv]; rfl
      have q42 : ((b : Int) == 42) = ((46 : Int) == 42) := by rw [hv]; rfl
      have q43 : ((b : Int) == 43) = ((46 : Int) == 43) := by rw [hv]; rfl
      have q63 : ((b : Int) == 63) = ((46 : Int) == 63) := by rw [hv]; rfl
      have q40 : ((b : Int) == 40) = ((46 : Int) == 40) := by rw [hv]; rfl
      have q46 : ((b : Int) == 46) = ((46 : Int) == 46) := by rw [hv]; rfl
      have q91 : ((b : Int) == 91) = ((46 : Int) == 91) := by rw [hv]; rfl
      have q92 : ((b : Int) == 92) = ((46 : Int) == 92) := by rw [hv]; rfl
      clear hv h46 h40 hns hsg
      have hof := fun w => of_any 0 255 w (by omega) (by omega)
      rw [show setV (ofS 0 255) = setV all4.f from rfl, setV_f] at hof
      obtain ⟨S, hS⟩ : ∃ S, all4 = S := ⟨_, rfl⟩
      rw [hS] at hof HE
      have HOF := Lib.hid hof
      clear hof hS
      obtain ⟨⟨c0, c1, c2⟩, z0, z1, z2⟩ := G.out.rd.1.c3
      go_upto_region 24 with (fail)
      have G2 := G.out.step
      rw [hjn] at G2
      have G2 := Lib.hid G2
      clear c0 c1 c2 z0 z1 z2 G
      generalize w2.setCell ⟨rb, 1, none⟩ (.int .i64 ((i : Int) + 1)) = w3 at *
      go_wp2_with fail
      refine (HOF.out _).mono ?_
      rintro e w4 ⟨rfl, bx⟩
      have G3 := Lib.hid (G2.out.go bx)
      clear bx G2
      obtain ⟨⟨y0, y1, y2, y3, y4, y5, y6, y7⟩, z0, z1, z2, z3, z4, z5, z6, z7⟩ := G3.out.res.c8
      go_wp2_with fail
      refine bodyPost_ret (v := nodeV 1 S (.slice none 0 0) 0 0) (by simp [results, Tryd.results66, go_sem, nodeV, y0, y1, y2, y3, y4, y5, y6, y7]) rfl ?_
      rw [← HR.out, HE.out]
      exact Told.some_ (ndv_one _ _ _) (by omega) hjs (G3.out.end_ _ _ _ _ _ _ _ _)
    by_cases h91 : b = 91
    · have hat : atomP (f + 1) o (restL s i) = match classP (restL s jn) with
        | none => none
        | some (S, l2) => some (oneN S, l2) := by rw [HAT.out, if_neg hsg, if_neg h40, if_neg h46, if_pos h91]
      have HAT2 := Lib.hid hat
      have hv := h91
      have q41 : ((b : Int) == 41) = ((91 : Int) == 41) := by rw [hv]; rfl
      have q93 : ((b : Int) == 93) = ((91 : Int) == 93) := by rw [hv]; rfl
      have q123 : ((b : Int) == 123) = ((91 : Int) == 123) := by rw [hv]; rfl
      have q125 : ((b : Int) == 125) = ((91 : Int) == 125) := by rw [hv]; rfl
      have q124 : ((b : Int) == 124) = ((91 : Int) == 124) := by rw [hv]; rfl
      have q42 : ((b : Int) == 42) = ((91 : Int) == 42) := by rw [hv]; rfl
      have q43 : ((b : Int) == 43) = ((91 : Int) == 43) := by rw [hv]; rfl
      have q63 : ((b : Int) == 63) = ((91 : Int) == 63) := by rw [hv]; rfl
      have q40 : ((b : Int) == 40) = ((91 : Int) == 40) := by rw [hv]; rfl
      have q46 : ((b : Int) == 46) = ((91 : Int) == 46) := by rw [hv]; rfl
      have q91 : ((b : Int) == 91) = ((91 : Int) == 91) := by rw [hv]; rfl
      have q92 : ((b : Int) == 92) = ((91 : Int) == 92) := by rw [hv]; rfl
      clear hv h91 h46 h40 hns hsg hat
      obtain ⟨⟨c0, c1, c2⟩, z0, z1, z2⟩ := G.out.rd.1.c3
      go_upto_region 27 with (fail)
      have G2 := G.out.step
      rw [hjn] at G2
      have G2 := Lib.hid G2
      clear c0 c1 c2 z0 z1 z2 G
      generalize w2.setCell ⟨rb, 1, none⟩ (.int .i64 ((i : Int) + 1)) = w3 at *
      go_wp2_with fail
      refine (class_any rb s jn o _ G2.out.rd.1 hs hjs (HT.out.1.only HT.out.2 G2.out.rd.2)).mono ?_
      intro e w4 ht
      rcases ht.elim with ⟨hn, ⟨E, x, rfl, hE⟩, ho⟩ | ⟨S, j, v, hn, rfl, hv, hij2, hj2, hg⟩
      · have HE := Lib.hid (show atomP (f + 1) o (restL s i) = none by rw [HAT2.out, hn])
        exact ⟨rfl, by rw [← HR.out, HE.out]; exact ⟨⟨E, x, rfl, hE⟩, G2.out.rd.2.trans ho⟩⟩
      have G3 := Lib.hid (G2.out.on hg)
      have HE := Lib.hid (show atomP (f + 1) o (restL s i) = some (oneN S, restL s j) by rw [HAT2.out, hn])
      clear hg hn ht G2
      obtain rfl := hv
      rw [setV_f]
      obtain ⟨⟨y0, y1, y2, y3, y4, y5, y6, y7⟩, z0, z1, z2, z3, z4, z5, z6, z7⟩ := G3.out.res.c8
      go_wp2_with fail
      refine bodyPost_ret (v := nodeV 1 S (.slice none 0 0) 0 0) (by simp [results, Tryd.results66, go_sem, nodeV, y0, y1, y2, y3, y4, y5, y6, y7]) rfl ?_
      rw [← HR.out, HE.out]
      exact Told.some_ (ndv_one _ _ _) (by omega) hj2 (G3.out.end_ _ _ _ _ _ _ _ _)
    by_cases h92 : b = 92
    · have hat : atomP (f + 1) o (restL s i) = match escP (restL s jn) with
        | none => none
        | some (e, l2) => some (oneN e.set, l2) := by rw [HAT.out, if_neg hsg, if_neg h40, if_neg h46, if_neg h91, if_pos h92]
      have HAT2 := Lib.hid hat
      have hv := h92
      have q41 : ((b : Int) == 41) = ((92 : Int) == 41) := by rw [hv]; rfl
      have q93 : ((b : Int) == 93) = ((92 : Int) == 93) := by rw [hv]; rfl
      have q123 : ((b : Int) == 123) = ((92 : Int) == 123) := by rw [hv]; rfl
      have q125 : ((b : Int) == 125) = ((92 : Int) == 125) := by rw [hv]; rfl
      have q124 : ((b : Int) == 124) = ((92 : Int) == 124) := by rw [hv]; rfl
      have q42 : ((b : Int) == 42) = ((92 : Int) == 42) := by rw [hv]; rfl
      have q43 : ((b : Int) == 43) = ((92 : Int) == 43) := by rw [hv]; rfl
      have q63 : ((b : Int) == 63) = ((92 : Int) == 63) := by rw [hv]; rfl
      have q40 : ((b : Int) == 40) = ((92 : Int) == 40) := by rw [hv]; rfl
      have q46 : ((b : Int) == 46) = ((92 : Int) == 46) := by rw [hv]; rfl
      have q91 : ((b : Int) == 91) = ((92 : Int) == 91) := by rw [hv]; rfl
      have q92 : ((b : Int) == 92) = ((92 : Int) == 92) := by rw [hv]; rfl
      clear hv h92 h91 h46 h40 hns hsg hat
      go_wp2_with fail
      refine (escape_any rb s i o _ G.out.rd.1 hs hil).mono ?_
      intro e w4 ht
      rw [HJN.out] at ht
      rcases ht.elim with ⟨hn, ⟨E, x, rfl, hE⟩, ho⟩ | ⟨X, j, v, hn, rfl, hv, hij2, hj2, hg⟩
      · have HE := Lib.hid (show atomP (f + 1) o (restL s i) = none by rw [HAT2.out, hn])
        exact ⟨rfl, by rw [← HR.out, HE.out]; exact ⟨⟨E, x, rfl, hE⟩, G.out.rd.2.trans ho⟩⟩
      have G3 := Lib.hid (G.out.on hg)
      have HE := Lib.hid (show atomP (f + 1) o (restL s i) = some (oneN X.set, restL s j) by rw [HAT2.out, hn])
      clear hg hn ht G
      obtain rfl := hv
      obtain ⟨S, hS⟩ : ∃ S, X.set = S := ⟨_, rfl⟩
      rw [hS] at HE ⊢
      rw [setV_f]
      clear hS
      go_upto_region 30 with (fail)
      have hbk := (Below.refl w4.heap.size w4).alloc (Nat.le_refl _) (.cells #[.int .u64 S.a, .int .u64 S.b, .int .u64 S.c, .int .u64 S.d] 24)
      have nb := Blk.new w4 24 #[.int .u64 S.a, .int .u64 S.b, .int .u64 S.c, .int .u64 S.d]
      have G4 := Lib.hid (G3.out.go hbk)
      clear hbk G3
      generalize w4.alloc (.cells #[.int .u64 S.a, .int .u64 S.b, .int .u64 S.c, .int .u64 S.d] 24) = w5 at *
      obtain ⟨⟨x0, x1, x2, x3⟩, -⟩ := nb.c4
      obtain ⟨⟨y0, y1, y2, y3, y4, y5, y6, y7⟩, z0, z1, z2, z3, z4, z5, z6, z7⟩ := G4.out.res.c8
      go_wp2_with fail
      refine bodyPost_ret (v := nodeV 1 S (.slice none 0 0) 0 0) (by simp [results, Tryd.results66, go_sem, nodeV, y0, y1, y2, y3, y4, y5, y6, y7]) rfl ?_
      rw [← HR.out, HE.out]
      exact Told.some_ (ndv_one _ _ _) (by omega) hj2 (G4.out.end_ _ _ _ _ _ _ _ _)
    have HE := Lib.hid (show atomP (f + 1) o (restL s i) = some (oneN (one4 b), restL s jn) by rw [HAT.out, if_neg hsg, if_neg h40, if_neg h46, if_neg h91, if_neg h92])
    have q41 : ((b : Int) == 41) = false := by rw [beq_eq_false_iff_ne]; omega
    have q93 : ((b : Int) == 93) = false := by rw [beq_eq_false_iff_ne]; omega
    have q123 : ((b : Int) == 123) = false := by rw [beq_eq_false_iff_ne]; omega
    have q125 : ((b : Int) == 125) = false := by rw [beq_eq_false_iff_ne]; omega
    have q124 : ((b : Int) == 124) = false := by rw [beq_eq_false_iff_ne]; omega
    have q42 : ((b : Int) == 42) = false := by rw [beq_eq_false_iff_ne]; omega
    have q43 : ((b : Int) == 43) = false := by rw [beq_eq_false_iff_ne]; omega
    have q63 : ((b : Int) == 63) = false := by rw [beq_eq_false_iff_ne]; omega
    have q40 : ((b : Int) == 40) = false := by rw [beq_eq_false_iff_ne]; omega
    have q46 : ((b : Int) == 46) = false := by rw [beq_eq_false_iff_ne]; omega
    have q91 : ((b : Int) == 91) = false := by rw [beq_eq_false_iff_ne]; omega
    have q92 : ((b : Int) == 92) = false := by rw [beq_eq_false_iff_ne]; omega
    have hcv := cvi_u8 b hb9
    have hof := fun w => of_any b b w hb9 hb9
    rw [show setV (ofS b b) = setV (one4 b).f from rfl, setV_f] at hof
    obtain ⟨S, hS⟩ : ∃ S, one4 b = S := ⟨_, rfl⟩
    rw [hS] at hof HE
    have HOF := Lib.hid hof
    clear hof hS h92 h91 h46 h40 hns hsg
    obtain ⟨⟨c0, c1, c2⟩, z0, z1, z2⟩ := G.out.rd.1.c3
    go_upto_region 32 with (fail)
    have G2 := G.out.step
    rw [hjn] at G2
    have G2 := Lib.hid G2
    clear c0 c1 c2 z0 z1 z2 G
    generalize w2.setCell ⟨rb, 1, none⟩ (.int .i64 ((i : Int) + 1)) = w3 at *
    go_wp2_with fail
    refine (HOF.out _).mono ?_
    rintro e w4 ⟨rfl, bx⟩
    have G3 := Lib.hid (G2.out.go bx)
    clear bx G2
    obtain ⟨⟨y0, y1, y2, y3, y4, y5, y6, y7⟩, z0, z1, z2, z3, z4, z5, z6, z7⟩ := G3.out.res.c8
    go_wp2_with fail
    refine bodyPost_ret (v := nodeV 1 S (.slice none 0 0) 0 0) (by simp [results, Tryd.results66, go_sem, nodeV, y0, y1, y2, y3, y4, y5, y6, y7]) rfl ?_
    rw [← HR.out, HE.out]
    exact Told.some_ (ndv_one _ _ _) (by omega) hjs (G3.out.end_ _ _ _ _ _ _ _ _)
end Go.Proofs.YtpknglbpbodnbaaDoor
