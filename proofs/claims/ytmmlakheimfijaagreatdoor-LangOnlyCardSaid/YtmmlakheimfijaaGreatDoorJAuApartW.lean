/-
  The walk of the reference's Apart: a text that one of two right automata takes alone, if there is one. Conditions: both are right, and have at most two hundred states.
-/
import Derived.Test.YtmmlakheimfijaaGreatDoorJAuApartPl
import Derived.Test.YtmmlakheimfijaaGreatDoorJDfa
import Derived.Test.YtmmlakheimfijaaGreatDoorJOfOut
import Derived.Test.YtmmlakheimfijaaGreatDoorJKit
import Derived.Deep.DeepCutAuto
namespace Go.Proofs.YtmmlakheimfijaaGreatDoor
set_option linter.unusedVariables false
set_option linter.unusedSimpArgs false
open Go.RowKit Go.Maps Go.Sort Go.ChangeShapes Go.WideShapes

def strCells (l : List ByteArray) : List Value := l.map .string
theorem strCells_snoc (l : List ByteArray) (s : ByteArray) : strCells l ++ [.string s] = strCells (l ++ [s]) := by simp [strCells]
/-- the three rows -/
structure Ap3 (w W : World) (A B : DfaI) (Z : List (List Nat)) (vx vy vt : Value) : Prop where
  x : W.ownsRow w.heap.size 3 1 vx Z.length (natCells (Z.map fun u => (pa A B u).1))
  y : W.ownsRow w.heap.size 3 1 vy Z.length (natCells (Z.map fun u => (pa A B u).2))
  t : W.ownsRow w.heap.size 9 1 vt Z.length (strCells (Z.map txN))
  ne : ∀ g, vx.ownBlock = some g → vy.ownBlock ≠ some g
  bl : Below w.heap.size w W
section
variable {w W W' : World} {A B : DfaI} {Z : List (List Nat)} {vx vy vt : Value}
theorem Ap3.below (h : Ap3 w W A B Z vx vy vt) (hb : Below W.heap.size W W') : Ap3 w W' A B Z vx vy vt :=
  ⟨own_only h.x (Only.of_below (S := []) hb) (by simp), own_only h.y (Only.of_below (S := []) hb) (by simp), own_only h.t (Only.of_below (S := []) hb) (by simp), h.ne, h.bl.trans (hb.mono h.bl.size)⟩
end

def ApCut (w W : World) (SA SB : Nat) (s6 s7 : Value) (W2 : World) : Prop := W2.ownsRow W.heap.size 3 1 s6 1 (natCells [SA]) ∧ W2.ownsRow W.heap.size 3 1 s7 1 (natCells [SB]) ∧ (∀ g, s6.ownBlock = some g → s7.ownBlock ≠ some g) ∧ Below W.heap.size W W2
theorem infoStr : (Tryz.prog.info? 9).map (fun i => (i.zero, i.size, i.bytes)) = some (some (.string .empty), 1, 16) := by kernel_rfl
/-- the three rows, whatever they hold -/
structure Ap3g (w W : World) (X Y : List Nat) (T : List ByteArray) (vx vy vt : Value) : Prop where
  x : W.ownsRow w.heap.size 3 1 vx X.length (natCells X)
  y : W.ownsRow w.heap.size 3 1 vy Y.length (natCells Y)
  t : W.ownsRow w.heap.size 9 1 vt T.length (strCells T)
  ne : ∀ g, vx.ownBlock = some g → vy.ownBlock ≠ some g
  bl : Below w.heap.size w W
section
variable {w W W' : World} {A B : DfaI} {Z : List (List Nat)} {X Y : List Nat} {T : List ByteArray} {vx vy vt : Value}
theorem Ap3.g (h : Ap3 w W A B Z vx vy vt) : Ap3g w W (Z.map fun u => (pa A B u).1) (Z.map fun u => (pa A B u).2) (Z.map txN) vx vy vt :=
  ⟨by rw [List.length_map]; exact h.x, by rw [List.length_map]; exact h.y, by rw [List.length_map]; exact h.t, h.ne, h.bl⟩
theorem Ap3g.ap (h : Ap3g w W (Z.map fun u => (pa A B u).1) (Z.map fun u => (pa A B u).2) (Z.map txN) vx vy vt) : Ap3 w W A B Z vx vy vt :=
  ⟨by have := h.x; rwa [List.length_map] at this, by have := h.y; rwa [List.length_map] at this, by have := h.t; rwa [List.length_map] at this, h.ne, h.bl⟩
theorem Ap3g.below (h : Ap3g w W X Y T vx vy vt) (hb : Below W.heap.size W W') : Ap3g w W' X Y T vx vy vt :=
  ⟨own_only h.x (Only.of_below (S := []) hb) (by simp), own_only h.y (Only.of_below (S := []) hb) (by simp), own_only h.t (Only.of_below (S := []) hb) (by simp), h.ne, h.bl.trans (hb.mono h.bl.size)⟩
theorem kept_of {base : Nat} {e : TypeId} {size n : Nat} {v : Value} {xs : List Value} {row : Option Nat} (h : W.ownsRow base e size v n xs) (hg : W.grownBy W' row) (hne : ∀ g, row = some g → v.ownBlock ≠ some g) : W'.ownsRow base e size v n xs := by
  refine h.kept hg ?_
  cases hv : v.ownBlock with
  | none => exact .inl rfl
  | some g => exact .inr fun e => hne g e.symm hv
theorem below_of {base : Nat} {e : TypeId} {size n : Nat} {v : Value} {xs : List Value} (h : W.ownsRow base e size v n xs) (hb : Below base w W) (hg : W.grownBy W' v.ownBlock) (hB : base ≤ W.heap.size) : Below base w W' :=
  hb.grown hg hB fun j e => (h.lt j e).1
theorem Ap3g.pushX {w3 : World} {x g cap : Nat} (h : Ap3g w W X Y T vx vy vt) (hown : w3.ownsRow w.heap.size 3 1 (.slice (some ⟨g, 0, none⟩) (X.length + 1) cap) (X.length + 1) (natCells X ++ [.int .i64 (x : Int)])) (hgrow : (W.alloc (.cells #[.int .i64 (x : Int)] 3)).grownBy w3 vx.ownBlock)
    (hat : vx.ownBlock = some g ∨ g = (W.alloc (.cells #[.int .i64 (x : Int)] 3)).heap.size) : Ap3g w w3 (X ++ [x]) Y T (.slice (some ⟨g, 0, none⟩) (X.length + 1) cap) vy vt := by
  have hal := (Below.refl W.heap.size W).alloc (Nat.le_refl _) (.cells #[.int .i64 (x : Int)] 3)
  have h1 := h.below hal
  have hs := hal.size
  refine ⟨by rw [List.length_append, natCells_snoc]; exact hown, kept_of h1.y hgrow h.ne, kept_of h1.t hgrow fun k hk => own_ne h1.x h1.t (by decide) k hk, fun k hk => ?_, below_of h1.x h1.bl hgrow h1.bl.size⟩
  obtain rfl : g = k := Option.some.inj hk
  rcases hat with h2 | h2
  · exact h.ne g h2
  · intro hy
    have := (h1.y.lt g hy).2
    omega
theorem Ap3g.pushY {w3 : World} {x g cap : Nat} (h : Ap3g w W X Y T vx vy vt) (hown : w3.ownsRow w.heap.size 3 1 (.slice (some ⟨g, 0, none⟩) (Y.length + 1) cap) (Y.length + 1) (natCells Y ++ [.int .i64 (x : Int)])) (hgrow : (W.alloc (.cells #[.int .i64 (x : Int)] 3)).grownBy w3 vy.ownBlock)
    (hat : vy.ownBlock = some g ∨ g = (W.alloc (.cells #[.int .i64 (x : Int)] 3)).heap.size) : Ap3g w w3 X (Y ++ [x]) T vx (.slice (some ⟨g, 0, none⟩) (Y.length + 1) cap) vt := by
  have hal := (Below.refl W.heap.size W).alloc (Nat.le_refl _) (.cells #[.int .i64 (x : Int)] 3)
  have h1 := h.below hal
  refine ⟨kept_of h1.x hgrow fun k hk hx => h.ne k hx hk, by rw [List.length_append, natCells_snoc]; exact hown, kept_of h1.t hgrow fun k hk => own_ne h1.y h1.t (by decide) k hk, fun k hk hy => ?_, below_of h1.y h1.bl hgrow h1.bl.size⟩
  obtain rfl : g = k := Option.some.inj hy
  rcases hat with h2 | h2
  · exact h.ne g hk h2
  · have := (h1.x.lt g hk).2
    omega
theorem Ap3g.pushT {w3 : World} {s : ByteArray} {g cap : Nat} (h : Ap3g w W X Y T vx vy vt) (hown : w3.ownsRow w.heap.size 9 1 (.slice (some ⟨g, 0, none⟩) (T.length + 1) cap) (T.length + 1) (strCells T ++ [.string s])) (hgrow : (W.alloc (.cells #[.string s] 9)).grownBy w3 vt.ownBlock) :
    Ap3g w w3 X Y (T ++ [s]) vx vy (.slice (some ⟨g, 0, none⟩) (T.length + 1) cap) := by
  have hal := (Below.refl W.heap.size W).alloc (Nat.le_refl _) (.cells #[.string s] 9)
  have h1 := h.below hal
  exact ⟨kept_of h1.x hgrow fun k hk => own_ne h1.t h1.x (by decide) k hk, kept_of h1.y hgrow fun k hk => own_ne h1.t h1.y (by decide) k hk, by rw [List.length_append, ← strCells_snoc]; exact hown, h.ne, below_of h1.t h1.bl hgrow h1.bl.size⟩
end
theorem DfaAt.parts {w : World} {S : Int} {af ab an : Option Addr} {F B M cf cb cn : Nat} {D : DfaI} (h : DfaAt w (.agg #[.int .i64 S, .slice af F cf, .slice ab B cb, .slice an M cn]) D) :
    BoolsAt w (.slice af F cf) F (fun i => D.fin.getD i false) ∧ IntsAt w (.slice ab B cb) D.block ∧ IRowsAt w (.slice an M cn) D.next := by
  obtain ⟨x1, x2, x3, he, h1, h2, h3⟩ := h
  obtain ⟨-, rfl, rfl, rfl⟩ : _ ∧ _ ∧ _ ∧ _ := by simpa using he
  obtain ⟨a', c', he', h4⟩ := id h1
  obtain ⟨-, e, -⟩ := Value.slice.inj he'
  rw [← e] at h1
  exact ⟨h1, h2, h3⟩
set_option maxHeartbeats 8000000 in
set_option maxRecDepth 1000000 in
theorem refapart_any (va vb : Value) (A B : DfaI) (w : World) (ha : DfaAt w va A) (hb : DfaAt w vb B) (hA : RightD A) (hB : RightD B) (lA : A.next.length ≤ 200) (lB : B.next.length ≤ 200) :
    Calls Tryz.prog 20 #[va, vb] w fun e w' => ∃ (s : ByteArray) (b : Bool), e = .returned (.tuple #[.string s, .bool b]) ∧ s.size ≤ 40000 ∧ (b = true → langD A (bytesTo s s.size) ≠ langD B (bytesTo s s.size)) ∧ (b = false → ∀ u, Bytes u → langD A u = langD B u) ∧ Below w.heap.size w w' := by
  obtain ⟨fa, xa, na, rfl, hfa, hxa, hna⟩ := id ha
  obtain ⟨fb, xb, nb, rfl, hfb, hxb, hnb⟩ := id hb
  obtain ⟨a1, c1, rfl, -⟩ := id hfa
  obtain ⟨a2, c2, rfl, -⟩ := id hxa
  obtain ⟨a3, c3, rfl, -⟩ := id hna
  obtain ⟨a4, c4, rfl, -⟩ := id hfb
  obtain ⟨a5, c5, rfl, -⟩ := id hxb
  obtain ⟨a6, c6, rfl, -⟩ := id hnb
  obtain ⟨SA, hSA⟩ : ∃ S : Nat, A.start = (S : Int) := ⟨A.start.toNat, by have := hA.s0; omega⟩
  obtain ⟨SB, hSB⟩ : ∃ S : Nat, B.start = (S : Int) := ⟨B.start.toNat, by have := hB.s0; omega⟩
  have eFA := hA.fin
  have eFB := hB.fin
  have eXA := hA.blk.2
  have eXB := hB.blk.2
  obtain ⟨MA, hMA⟩ : ∃ M, A.next.length = M := ⟨_, rfl⟩
  obtain ⟨MB, hMB⟩ : ∃ M, B.next.length = M := ⟨_, rfl⟩
  rw [hMA] at lA eFA
  rw [hMB] at lB eFB
  have HP := Lib.hid (And.intro hA (And.intro hB (And.intro hSA (And.intro hSB (And.intro hMA hMB)))))
  simp only [hSA, hSB, eFA, eFB, eXA, eXB, hMA, hMB] at ha hb ⊢
  have hz0 : ∀ o, (w.alloc o).heap.size = w.heap.size + 1 := fun o => by simp
  have b0 := (Below.refl w.heap.size w).alloc (Nat.le_refl _) (.cells #[.int .i64 SA, .slice a1 MA c1, .slice a2 256 c2, .slice a3 MA c3] 26)
  have b1 := b0.alloc (by rw [hz0]; omega) (.cells #[.int .i64 SB, .slice a4 MB c4, .slice a5 256 c5, .slice a6 MB c6] 26)
  have qa := (Blk.new w 26 #[.int .i64 SA, .slice a1 MA c1, .slice a2 256 c2, .slice a3 MA c3]).alloc (.cells #[.int .i64 SB, .slice a4 MB c4, .slice a5 256 c5, .slice a6 MB c6] 26)
  have qb := Blk.new (w.alloc (.cells #[.int .i64 SA, .slice a1 MA c1, .slice a2 256 c2, .slice a3 MA c3] 26)) 26 #[.int .i64 SB, .slice a4 MB c4, .slice a5 256 c5, .slice a6 MB c6]
  rw [hz0] at qb
  have HD := Lib.hid (And.intro (ha.below b1) (And.intro (hb.below b1) (And.intro qa (And.intro qb b1))))
  obtain ⟨⟨y0, y1, y2, y3⟩, -⟩ := qa.c4
  obtain ⟨⟨x0, x1, x2, x3⟩, -⟩ := qb.c4
  clear ha hb hA hB hfa hxa hna hfb hxb hnb hSA hSB eFA eFB eXA eXB hMA hMB b0 b1 qa qb
  go_enter Tryz.func20, Tryz.ntmps20
  go_wp2_with fail
  clear hz0
  generalize (w.alloc (.cells #[.int .i64 SA, .slice a1 MA c1, .slice a2 256 c2, .slice a3 MA c3] 26)).alloc (.cells #[.int .i64 SB, .slice a4 MB c4, .slice a5 256 c5, .slice a6 MB c6] 26) = W at *
  go_cut [6, 7] (fun s6 s7 W2 => ApCut w W SA SB s6 s7 W2)
  case first =>
    refine wp_region_T [] (by kernel_rfl) ?_
    intro V bb
    have lc : ∀ {p : Addr} {v : Value}, W.cell? p = some v → ∀ d os, (Sort.grow (redrawn V d) os).cell? p = some v := fun {p v} hp d os => ((bb.trans ((below_regrown V d os).mono bb.size)).cell (World.block_lt_of_cell? W p hp)).trans hp
    have q0 := lc y0
    have q1 := lc x0
    clear lc
    have hzV := bb.size
    have hzW : W.heap.size ≤ V.heap.size := hzV
    refine stepsQ [0, 1, 3, 4] (by kernel_rfl) (by kernel_rfl) (by kernel_rfl) (Grown.of_below (Below.refl _ _)) ?_
    simp only [atIdx, List.filterMap_cons, List.filterMap_nil, List.getElem?_toArray, List.getElem_toArray, List.getElem?_cons_zero, List.getElem?_cons_succ, List.getElem_cons_zero, List.getElem_cons_succ]
    iterate 4 (show wpQuiet _ _ _ _ (_ :: _) _; go_big_quiet_step (fail))
    refine wpQuiet_nil ?_
    show stepT _ _ _ _ _ _ _ _ _
    refine stepS2 (i := 2) (j := 5) rfl rfl (by kernel_rfl) ?_ ?_
    · intro K hK
      go_simp
      have o1 := World.ownsRow_lit (base := W.heap.size) (e := 3) (size := 1) V #[.int .i64 (SA : Int)] 1 hzW (by decide) (by simp)
      have b1 := (Below.refl V.heap.size V).alloc (Nat.le_refl _) (.cells #[.int .i64 (SA : Int)] 3)
      refine hK _ _ ⟨fun _ => Grown.of_below b1, ?_⟩
      clear hK K
      have hz1 : (V.alloc (.cells #[.int .i64 (SA : Int)] 3)).heap.size = V.heap.size + 1 := by simp
      generalize V.alloc (.cells #[.int .i64 (SA : Int)] 3) = V1 at *
      refine stepsQ [6] (by kernel_rfl) (by kernel_rfl) (by kernel_rfl) (Grown.of_below b1) ?_
      simp only [atIdx, List.filterMap_cons, List.filterMap_nil, List.getElem?_toArray, List.getElem_toArray, List.getElem?_cons_zero, List.getElem?_cons_succ, List.getElem_cons_zero, List.getElem_cons_succ]
      iterate 1 (show wpQuiet _ _ _ _ (_ :: _) _; go_big_quiet_step (fail))
      refine wpQuiet_nil ?_
      show stepT _ _ _ _ _ _ _ _ _
      refine stepS (i := 5) rfl (by kernel_rfl) ?_
      intro K hK
      go_simp
      have o2 := World.ownsRow_lit (base := W.heap.size) (e := 3) (size := 1) V1 #[.int .i64 (SB : Int)] 1 (by omega) (by decide) (by simp)
      have b2 := b1.alloc (by omega) (.cells #[.int .i64 (SB : Int)] 3)
      refine hK _ _ ⟨fun _ => Grown.of_below b2, ?_⟩
      clear hK K
      replace o1 := o1.alloc (.cells #[.int .i64 (SB : Int)] 3)
      rw [hz1] at o2
      generalize V1.alloc (.cells #[.int .i64 (SB : Int)] 3) = V2 at *
      refine stepsQ [7] (by kernel_rfl) (by kernel_rfl) (by kernel_rfl) (Grown.of_below b2) ?_
      simp only [atIdx, List.filterMap_cons, List.filterMap_nil, List.getElem?_toArray, List.getElem_toArray, List.getElem?_cons_zero, List.getElem?_cons_succ, List.getElem_cons_zero, List.getElem_cons_succ]
      iterate 1 (show wpQuiet _ _ _ _ (_ :: _) _; go_big_quiet_step (fail))
      refine wpQuiet_nil ?_
      show stepT _ _ _ _ _ _ _ _ _
      refine stepT_end (by kernel_rfl) ?_
      go_wp2_with fail
      go_meet
      exact ⟨o1, o2, fun g e e' => by
        have h1 := Option.some.inj e
        have h2 := Option.some.inj e'
        simp at h1 h2
        omega, bb.trans (b2.mono hzV)⟩
    · intro K hK
      go_simp
      have o1 := World.ownsRow_lit (base := W.heap.size) (e := 3) (size := 1) V #[.int .i64 (SB : Int)] 1 hzW (by decide) (by simp)
      have b1 := (Below.refl V.heap.size V).alloc (Nat.le_refl _) (.cells #[.int .i64 (SB : Int)] 3)
      refine hK _ _ ⟨fun _ => Grown.of_below b1, ?_⟩
      clear hK K
      have hz1 : (V.alloc (.cells #[.int .i64 (SB : Int)] 3)).heap.size = V.heap.size + 1 := by simp
      generalize V.alloc (.cells #[.int .i64 (SB : Int)] 3) = V1 at *
      refine stepS (i := 2) rfl (by kernel_rfl) ?_
      intro K hK
      go_simp
      have o2 := World.ownsRow_lit (base := W.heap.size) (e := 3) (size := 1) V1 #[.int .i64 (SA : Int)] 1 (by omega) (by decide) (by simp)
      have b2 := b1.alloc (by omega) (.cells #[.int .i64 (SA : Int)] 3)
      refine hK _ _ ⟨fun _ => Grown.of_below b2, ?_⟩
      clear hK K
      replace o1 := o1.alloc (.cells #[.int .i64 (SA : Int)] 3)
      rw [hz1] at o2
      generalize V1.alloc (.cells #[.int .i64 (SA : Int)] 3) = V2 at *
      refine stepsQ [6, 7] (by kernel_rfl) (by kernel_rfl) (by kernel_rfl) (Grown.of_below b2) ?_
      simp only [atIdx, List.filterMap_cons, List.filterMap_nil, List.getElem?_toArray, List.getElem_toArray, List.getElem?_cons_zero, List.getElem?_cons_succ, List.getElem_cons_zero, List.getElem_cons_succ]
      iterate 2 (show wpQuiet _ _ _ _ (_ :: _) _; go_big_quiet_step (fail))
      refine wpQuiet_nil ?_
      show stepT _ _ _ _ _ _ _ _ _
      refine stepT_end (by kernel_rfl) ?_
      go_wp2_with fail
      go_meet
      exact ⟨o2, o1, fun g e e' => by
        have h1 := Option.some.inj e
        have h2 := Option.some.inj e'
        simp at h1 h2
        omega, bb.trans (b2.mono hzV)⟩
  case rest =>
    obtain ⟨cx, cy, cne, cb⟩ := hcut
    obtain ⟨ax, capx, rfl⟩ := own_shape cx
    obtain ⟨ay, capy, rfl⟩ := own_shape cy
    have hzc := cb.size
    have hzw : W.heap.size ≤ wc.heap.size := hzc
    have HB := Lib.hid HD.out.2.2.2.2
    have ct := World.ownsRow_lit (base := W.heap.size) (e := 9) (size := 1) wc #[.string ⟨#[]⟩] 1 hzw (by decide) (by simp)
    have bt := (Below.refl wc.heap.size wc).alloc (Nat.le_refl _) (.cells #[.string ⟨#[]⟩] 9)
    have h3 : Ap3 W (wc.alloc (.cells #[.string ⟨#[]⟩] 9)) A B [[]] (.slice ax 1 capx) (.slice ay 1 capy) (.slice (some ⟨wc.heap.size, 0, none⟩) 1 1) :=
      ⟨by have e : SA = (pa A B []).1 := by (show SA = A.start.toNat; rw [HP.out.2.2.1]; rfl)
          rw [e] at cx; exact cx.alloc _,
       by have e : SB = (pa A B []).2 := by (show SB = B.start.toNat; rw [HP.out.2.2.2.1]; rfl)
          rw [e] at cy; exact cy.alloc _, ct, cne, cb.trans (bt.mono hzw)⟩
    have H3 := Lib.hid h3
    have HD3 := Lib.hid (And.intro HD.out.1 (And.intro HD.out.2.1 (And.intro HD.out.2.2.1 (And.intro HD.out.2.2.2.1 (cb.trans (bt.mono hzc))))))
    clear cx cy cne cb ct bt h3 HD y0 y1 y2 y3 x0 x1 x2 x3 hzc hzw
    go_wp2_with fail
    generalize wc.alloc (.cells #[.string ⟨#[]⟩] 9) = W0 at *
    go_loopw [6, 7, 8, 9] (fun sx sy st c wr => ∃ (i : Nat) (Z : List (List Nat)), c = .int .i64 i ∧ i ≤ Z.length ∧ Z.length ≤ 40000 ∧ Hid (PairsI A B Z i 0) ∧ Ap3 W wr A B Z sx sy st ∧ Below W.heap.size W wr) (fun _ _ _ c _ => 40000 - (intOf c).toNat)
    case atStart => exact ⟨0, [[]], rfl, by simp, by simp, Lib.hid PairsI.start, H3.out, HD3.out.2.2.2.2⟩
    case round =>
      obtain ⟨i, Z, rfl, hi, hZ, hP, h3, hbW⟩ := hrel
      obtain ⟨ax', cx', rfl⟩ := own_shape h3.x
      obtain ⟨ay', cy', rfl⟩ := own_shape h3.y
      obtain ⟨at', ct', rfl⟩ := own_shape h3.t
      by_cases hlt : i < Z.length
      · have k1 : decide (i < Z.length) = true := decide_eq_true hlt
        obtain ⟨u, hu⟩ : ∃ u, Z[i]? = some u := ⟨_, List.getElem?_eq_getElem hlt⟩
        obtain ⟨p, hp⟩ : ∃ p, (pa A B u).1 = p := ⟨_, rfl⟩
        obtain ⟨q, hq⟩ : ∃ q, (pa A B u).2 = q := ⟨_, rfl⟩
        have hpq := hP.out.lt HP.out.1 HP.out.2.1 (List.mem_of_getElem? hu)
        rw [hp, hq, HP.out.2.2.2.2.1, HP.out.2.2.2.2.2] at hpq
        obtain ⟨bx, ox, rfl, m0⟩ := (NatsAt.of_own (by simpa using h3.x)).get (k := i) (x := p) (by rw [List.getElem?_map, hu]; simp [hp])
        obtain ⟨by_, oy, rfl, m1⟩ := (NatsAt.of_own (by simpa using h3.y)).get (k := i) (x := q) (by rw [List.getElem?_map, hu]; simp [hq])
        obtain ⟨hfA, hbA, hnA⟩ := (HD3.out.1.below hbW).parts
        obtain ⟨hfB, hbB, hnB⟩ := (HD3.out.2.1.below hbW).parts
        obtain ⟨⟨qa0, qa1, qa2, qa3⟩, -⟩ := (HD3.out.2.2.1.below hbW HD3.out.2.2.1.lt).c4
        obtain ⟨⟨qb0, qb1, qb2, qb3⟩, -⟩ := (HD3.out.2.2.2.1.below hbW HD3.out.2.2.2.1.lt).c4
        obtain ⟨bfa, ofa, cfa, hea, m2⟩ := hfA.get hpq.1
        obtain ⟨bfb, ofb, cfb, heb, m3⟩ := hfB.get hpq.2
        obtain ⟨rfl, -, -⟩ := Value.slice.inj hea
        obtain ⟨rfl, -, -⟩ := Value.slice.inj heb
        obtain ⟨fa, hfa⟩ : ∃ f, A.fin.getD p false = f := ⟨_, rfl⟩
        obtain ⟨fb, hfb⟩ : ∃ f, B.fin.getD q false = f := ⟨_, rfl⟩
        rw [hfa] at m2
        rw [hfb] at m3
        have hLA : langD A u = fa := by rw [← hfa, ← hp]; rfl
        have hLB : langD B u = fb := by rw [← hfb, ← hq]; rfl
        obtain ⟨bt, ot, rfl, m4⟩ : ∃ b off, at' = some ⟨b, off, none⟩ ∧ wr.cell? ⟨b, off + i, none⟩ = some (.string (txN u)) := by
          obtain ⟨gt, ctt, het, hgt1, hgt2⟩ := h3.t.form (by omega)
          obtain ⟨rfl, -, -⟩ := Value.slice.inj het
          have := h3.t.cellAt i (by omega)
          rw [strCells, List.getElem?_map, List.getElem?_map, hu] at this
          exact ⟨gt, 0, rfl, by rw [Nat.zero_add]; exact this⟩
        have HI := Lib.hid (And.intro hu (And.intro hp (And.intro hq (And.intro hLA (And.intro hLB (And.intro hP.out (And.intro h3 hbW)))))))
        clear hfA hbA hnA hfB hbB hnB hea heb hfa hfb hLA hLB hu hp hq hP h3 hbW
        go_wp2_with fail
        refine wp_region_T [] (by kernel_rfl) ?_
        intro V bb
        have lc : ∀ {p : Addr} {v : Value}, wr.cell? p = some v → ∀ d os, (Sort.grow (redrawn V d) os).cell? p = some v := fun {p v} hp d os => ((bb.trans ((below_regrown V d os).mono bb.size)).cell (World.block_lt_of_cell? wr p hp)).trans hp
        have q0 := lc qa1
        have q1 := lc m0
        have q2 := lc m2
        have q3 := lc qb1
        have q4 := lc m1
        have q5 := lc m3
        have q6 := lc m4
        clear lc
        have hm4 := m4
        clear qa0 qa1 qa2 qa3 qb0 qb1 qb2 qb3 m0 m1 m2 m3 m4
        refine stepsQ [0, 1, 2, 3, 4, 5, 6, 7, 8, 9, 10, 11, 12, 13, 14, 15, 16] (by kernel_rfl) (by kernel_rfl) (by kernel_rfl) (Grown.of_below (Below.refl _ _)) ?_
        simp only [atIdx, List.filterMap_cons, List.filterMap_nil, List.getElem?_toArray, List.getElem_toArray, List.getElem?_cons_zero, List.getElem?_cons_succ, List.getElem_cons_zero, List.getElem_cons_succ]
        iterate 17 (show wpQuiet _ _ _ _ (_ :: _) _; go_big_quiet_step (fail))
        refine wpQuiet_nil ?_
        show stepT _ _ _ _ _ _ _ _ _
        refine stepT_end (by kernel_rfl) ?_
        have HV := Lib.hid bb
        have m4 := ((bb.cell (World.block_lt_of_cell? wr _ hm4)).trans hm4)
        clear q0 q1 q2 q3 q4 q5 q6 bb hm4
        generalize hd : (!fa == fb) = d
        cases d with
        | true =>
          have hf : fa ≠ fb := by cases fa <;> cases fb <;> simp_all
          have hsz := HI.out.2.2.2.2.2.1.short i _ HI.out.1
          go_wp2_with fail
          refine bodyPost_ret (v := .tuple #[.string (txN u), .bool true]) (by simp [results, Tryz.results20, go_sem]) rfl ?_
          have hby := HI.out.2.2.2.2.2.1.bytes u (List.mem_of_getElem? HI.out.1)
          refine ⟨txN u, true, rfl, by rw [txN_size]; omega, fun _ => ?_, fun h => by (cases h), HB.out.trans ((HI.out.2.2.2.2.2.2.1.bl.trans (HV.out.mono HI.out.2.2.2.2.2.2.1.bl.size)).mono HB.out.size)⟩
          rw [txN_bytes hby, HI.out.2.2.2.1, HI.out.2.2.2.2.1]
          exact hf
        | false =>
          have hf : fa = fb := by cases fa <;> cases fb <;> simp_all
          have h3 := HI.out.2.2.2.2.2.2.1.below HV.out
          have HJ := Lib.hid (And.intro HI.out.2.2.2.2.2.1 (And.intro h3 (HI.out.2.2.2.2.2.2.2.trans (HV.out.mono HI.out.2.2.2.2.2.2.2.size))))
          have HL := Lib.hid (show langD A u = langD B u by rw [HI.out.2.2.2.1, HI.out.2.2.2.2.1, hf])
          have HU := Lib.hid HI.out.1
          clear hd hf h3 HI HV m4
          go_wp2_with fail
          go_loopw [6, 7, 8, 10] (fun sx sy st cc wr => ∃ (c : Nat) (Z' : List (List Nat)), cc = .int .i64 c ∧ c ≤ 256 ∧ Z'[i]? = some u ∧ Hid (PairsI A B Z' i c) ∧ Ap3 W wr A B Z' sx sy st ∧ Below W.heap.size W wr) (fun _ _ _ c _ => 256 - (intOf c).toNat)
          case atStart => exact ⟨0, Z, rfl, by omega, HU.out, Lib.hid HJ.out.1, HJ.out.2.1, HJ.out.2.2⟩
          case round =>
            obtain ⟨c, Z', rfl, hc, hu, hP, h3, hbW⟩ := hrel
            have hZ' := hP.out.size HP.out.1 HP.out.2.1 (by rw [HP.out.2.2.2.2.1]; exact lA) (by rw [HP.out.2.2.2.2.2]; exact lB)
            have hi' := (List.getElem?_eq_some_iff.1 hu).1
            obtain ⟨ax', cx', rfl⟩ := own_shape h3.x
            obtain ⟨ay', cy', rfl⟩ := own_shape h3.y
            obtain ⟨at', ct', rfl⟩ := own_shape h3.t
            by_cases hlc : c < 256
            · have k2 : decide ((c : Int) < 256) = true := decide_eq_true (by omega)
              obtain ⟨p, hp⟩ : ∃ p, (pa A B u).1 = p := ⟨_, rfl⟩
              obtain ⟨q, hq⟩ : ∃ q, (pa A B u).2 = q := ⟨_, rfl⟩
              have hpq := hP.out.lt HP.out.1 HP.out.2.1 (List.mem_of_getElem? hu)
              rw [hp, hq] at hpq
              obtain ⟨bx, ox, rfl, m0⟩ := (NatsAt.of_own (by simpa using h3.x)).get (k := i) (x := p) (by rw [List.getElem?_map, hu]; simp [hp])
              obtain ⟨by_, oy, rfl, m1⟩ := (NatsAt.of_own (by simpa using h3.y)).get (k := i) (x := q) (by rw [List.getElem?_map, hu]; simp [hq])
              obtain ⟨hfA, hbA, hnA⟩ := (HD3.out.1.below hbW).parts
              obtain ⟨hfB, hbB, hnB⟩ := (HD3.out.2.1.below hbW).parts
              obtain ⟨⟨qa0, qa1, qa2, qa3⟩, -⟩ := (HD3.out.2.2.1.below hbW HD3.out.2.2.1.lt).c4
              obtain ⟨⟨qb0, qb1, qb2, qb3⟩, -⟩ := (HD3.out.2.2.2.1.below hbW HD3.out.2.2.2.1.lt).c4
              obtain ⟨la, hla1, hla2, hla3, hla4, hla5⟩ := HP.out.1.step hpq.1 hlc
              obtain ⟨lb, hlb1, hlb2, hlb3, hlb4, hlb5⟩ := HP.out.2.1.step hpq.2 hlc
              rw [HP.out.2.2.2.2.1, HP.out.2.2.2.2.2] at hpq
              obtain ⟨bnA, onA, aA, cA, rfl, n0, nA⟩ := hnA.get hla1
              obtain ⟨bnB, onB, aB, cB, rfl, n1, nB⟩ := hnB.get hlb1
              obtain ⟨bkA, okA, rfl, n2⟩ := nA.get hla3
              obtain ⟨bkB, okB, rfl, n3⟩ := nB.get hlb3
              obtain ⟨blA, olA, rfl, n4⟩ := hbA.get hla2
              obtain ⟨blB, olB, rfl, n5⟩ := hbB.get hlb2
              obtain ⟨kA, hkA⟩ : ∃ k, A.blk c = k := ⟨_, rfl⟩
              obtain ⟨kB, hkB⟩ : ∃ k, B.blk c = k := ⟨_, rfl⟩
              obtain ⟨np, hnp⟩ : ∃ k, A.aut.nx p (A.blk c) = k := ⟨_, rfl⟩
              obtain ⟨nq, hnq⟩ : ∃ k, B.aut.nx q (B.blk c) = k := ⟨_, rfl⟩
              rw [hnp] at n2
              rw [hnq] at n3
              rw [hkA] at n2 n4 hla5
              rw [hkB] at n3 n5 hlb5
              have hnew : pa A B (u ++ [c]) = (np, nq) := by rw [pa_snoc, hp, hq, ← hnp, ← hnq]; rfl
              have HI := Lib.hid (And.intro hu (And.intro hP.out (And.intro h3 (And.intro hbW hnew))))
              obtain ⟨LA, hLA⟩ : ∃ L, la.length = L := ⟨_, rfl⟩
              obtain ⟨LB, hLB⟩ : ∃ L, lb.length = L := ⟨_, rfl⟩
              rw [hLA] at n0 hla5
              rw [hLB] at n1 hlb5
              obtain ⟨hp1, hq1⟩ := hpq
              clear hfA hbA hnA hfB hbB hnB nA nB hla1 hla2 hla3 hla4 hlb1 hlb2 hlb3 hlb4 hkA hkB hnp hnq hp hq hu hP h3 hbW hnew hLA hLB
              go_wp2_with fail
              refine wp_region_T [] (by kernel_rfl) ?_
              intro V' bb
              have lc : ∀ {p : Addr} {v : Value}, wr.cell? p = some v → ∀ d os, (Sort.grow (redrawn V' d) os).cell? p = some v := fun {p v} hp d os => ((bb.trans ((below_regrown V' d os).mono bb.size)).cell (World.block_lt_of_cell? wr p hp)).trans hp
              have q0 := lc qa3
              have q1 := lc qa2
              have q2 := lc qb3
              have q3 := lc qb2
              have q4 := lc m0
              have q5 := lc m1
              have q6 := lc n0
              have q7 := lc n1
              have q8 := lc n2
              have q9 := lc n3
              have q10 := lc n4
              have q11 := lc n5
              clear lc
              clear qa0 qa1 qa2 qa3 qb0 qb1 qb2 qb3 m0 m1 n0 n1 n2 n3 n4 n5
              refine stepsQ [0, 1, 2, 3, 4, 5, 6, 7, 8, 9, 10, 11, 12, 13, 14, 15, 16, 17, 18, 19, 20, 21, 22, 23, 24, 25, 26, 27, 28, 29, 30, 31] (by kernel_rfl) (by kernel_rfl) (by kernel_rfl) (Grown.of_below (Below.refl _ _)) ?_
              simp only [atIdx, List.filterMap_cons, List.filterMap_nil, List.getElem?_toArray, List.getElem_toArray, List.getElem?_cons_zero, List.getElem?_cons_succ, List.getElem_cons_zero, List.getElem_cons_succ]
              iterate 32 (show wpQuiet _ _ _ _ (_ :: _) _; go_big_quiet_step (fail))
              refine wpQuiet_nil ?_
              show stepT _ _ _ _ _ _ _ _ _
              refine stepT_end (by kernel_rfl) ?_
              have h3' := HI.out.2.2.1.below bb
              have HK := Lib.hid (And.intro h3' (HI.out.2.2.2.1.trans (bb.mono HI.out.2.2.2.1.size)))
              clear q0 q1 q2 q3 q4 q5 q6 q7 q8 q9 q10 q11 bb h3'
              go_wp2_with fail
              go_loopw [13, 14] (fun o k wr => wr = V' ∧ ∃ n : Nat, k = .int .i64 n ∧ n ≤ Z'.length ∧ o = .bool (oldP A B Z' (np, nq) n)) (fun _ k _ => 40000 - (intOf k).toNat)
              case atStart => exact ⟨rfl, 0, rfl, by omega, rfl⟩
              case round =>
                obtain ⟨rfl, n, rfl, hn, rfl⟩ := hrel
                obtain ⟨old, hold⟩ : ∃ b, oldP A B Z' (np, nq) n = b := ⟨_, rfl⟩
                rw [hold]
                by_cases hnl : n < Z'.length
                · have k3 : decide (n < Z'.length) = true := decide_eq_true hnl
                  obtain ⟨v, hv⟩ : ∃ v, Z'[n]? = some v := ⟨_, List.getElem?_eq_getElem hnl⟩
                  obtain ⟨vx, hvx⟩ : ∃ x, (pa A B v).1 = x := ⟨_, rfl⟩
                  obtain ⟨vy, hvy⟩ : ∃ x, (pa A B v).2 = x := ⟨_, rfl⟩
                  obtain ⟨b1, o1, he1, m0⟩ := (NatsAt.of_own (by simpa using HK.out.1.x)).get (k := n) (x := vx) (by rw [List.getElem?_map, hv]; simp [hvx])
                  obtain ⟨b2, o2, he2, m1⟩ := (NatsAt.of_own (by simpa using HK.out.1.y)).get (k := n) (x := vy) (by rw [List.getElem?_map, hv]; simp [hvy])
                  have e1 : bx = b1 ∧ ox = o1 := by simpa using he1
                  have e2 : by_ = b2 ∧ oy = o2 := by simpa using he2
                  obtain ⟨rfl, rfl⟩ := e1
                  obtain ⟨rfl, rfl⟩ := e2
                  have hs := oldP_succ A B hv (np, nq)
                  have hpv : pa A B v = (vx, vy) := by rw [← hvx, ← hvy]
                  rw [hold, hpv] at hs
                  have HV := Lib.hid hs
                  clear hs hpv hv hvx hvy he1 he2 hold
                  cases old with
                  | true =>
                    go_wp2_with fail
                    go_roundw
                    case rel => exact ⟨by first | rfl | trivial, n + 1, by go_num, by omega, congrArg Value.bool (by rw [HV.out]; simp)⟩
                    case measure => simp [intOf]; omega
                  | false =>
                    by_cases hx : vx = np
                    · subst hx
                      by_cases hy : vy = nq
                      · subst hy
                        have kx : ((vx : Int) == (vx : Int)) = true := by simp
                        have ky : ((vy : Int) == (vy : Int)) = true := by simp
                        go_wp2_with fail
                        go_roundw
                        case rel => exact ⟨by first | rfl | trivial, n + 1, by go_num, by omega, congrArg Value.bool (by rw [HV.out]; simp)⟩
                        case measure => simp [intOf]; omega
                      · have kx : ((vx : Int) == (vx : Int)) = true := by simp
                        have ky : ((vy : Int) == (nq : Int)) = false := by rw [beq_eq_false_iff_ne]; omega
                        go_wp2_with fail
                        go_roundw
                        case rel => exact ⟨by first | rfl | trivial, n + 1, by go_num, by omega, congrArg Value.bool (by rw [HV.out]; simp [hy])⟩
                        case measure => simp [intOf]; omega
                    · have kx : ((vx : Int) == (np : Int)) = false := by rw [beq_eq_false_iff_ne]; omega
                      go_wp2_with fail
                      go_roundw
                      case rel => exact ⟨by first | rfl | trivial, n + 1, by go_num, by omega, congrArg Value.bool (by rw [HV.out]; simp [hx])⟩
                      case measure => simp [intOf]; omega
                · obtain rfl : Z'.length = n := by omega
                  have k3 : decide (Z'.length < Z'.length) = false := decide_eq_false (by omega)
                  have hall := oldP_all A B Z' (np, nq)
                  rw [hold, ← HI.out.2.2.2.2] at hall
                  cases old with
                  | true =>
                    have hP' := HI.out.2.1.old HI.out.1 (hall.1 rfl)
                    have HN := Lib.hid (And.intro hP' HK.out)
                    clear hall hP' hold
                    go_wp2_with fail
                    go_roundw
                    case rel => exact ⟨c + 1, Z', by go_num, by omega, HI.out.1, Lib.hid HN.out.1, HN.out.2.1, HN.out.2.2⟩
                    case measure => simp [intOf]; omega
                  | false =>
                    have hP' := HI.out.2.1.new HI.out.1 hlc (fun hm => by have := hall.2 hm; cases this)
                    have hu' : (Z' ++ [u ++ [c]])[i]? = some u := by rw [List.getElem?_append_left hi']; exact HI.out.1
                    have HN := Lib.hid (And.intro hP' hu')
                    have hG := HK.out.1.g
                    have hbV := HK.out.2
                    obtain ⟨X, hX⟩ : ∃ X, Z'.map (fun u => (pa A B u).1) = X := ⟨_, rfl⟩
                    obtain ⟨Y, hY⟩ : ∃ X, Z'.map (fun u => (pa A B u).2) = X := ⟨_, rfl⟩
                    obtain ⟨T, hT⟩ : ∃ X, Z'.map txN = X := ⟨_, rfl⟩
                    have hXl : X.length = Z'.length := by rw [← hX, List.length_map]
                    have hYl : Y.length = Z'.length := by rw [← hY, List.length_map]
                    have hTl : T.length = Z'.length := by rw [← hT, List.length_map]
                    rw [hX, hY, hT] at hG
                    have HXYT := Lib.hid (And.intro hX (And.intro hY (And.intro hT (And.intro hXl (And.intro hYl hTl)))))
                    obtain ⟨i0, hi0, hz00, hz01, hz02⟩ := info_parts infoInt
                    obtain ⟨s0, hs0, hs00, hs01, hs02⟩ := info_parts infoStr
                    have bo := (Below.refl wr.heap.size wr).alloc (Nat.le_refl _) (.cells #[.int .u8 (c : Int)] 5)
                    have no := Blk.new wr 5 #[.int .u8 (c : Int)]
                    have hwz := hG.bl.size
                    have hG1 := hG.below bo
                    have hcu : (c : Int) % 256 = c := by omega
                    have hx1 := hG1.x
                    rw [hXl] at hx1
                    replace hx1 := hx1.alloc (.cells #[.int .i64 (np : Int)] 3)
                    have hone1 := one_at (w := wr.alloc (.cells #[.int .u8 (c : Int)] 5)) (u := .int .i64 (np : Int)) (t := 3)
                    have hzo : (wr.alloc (.cells #[.int .u8 (c : Int)] 5)).heap.size = wr.heap.size + 1 := by simp
                    rw [hzo] at hone1
                    clear hall hP' hu' hold hG hX hY hT hXl hYl hTl
                    go_wp2_with (first
                      | (at_builtin; refine wpList_append_lies _ rfl _ _ 23 rfl W.heap.size 3 i0 (.int .i64 0) 1 8 Tryz.underlying23 hi0 hz00 hz01 hz02 rfl (by decide) _ _ _ rfl hx1 ⟨wr.heap.size + 1, 0, none⟩ 1 1 [.int .i64 (np : Int)] rfl rfl hone1 (fun u hu => by simp at hu; subst hu; rfl) (by decide) (by unfold maxLen; omega) (by omega) (by simp; omega) _ rfl ?_; intro g11 cap11 w11 hown11 hgrow11 hat11 hlt11; have hG2 := hG1.pushX (x := np) (g := g11) (cap := cap11) (by rw [HXYT.out.2.2.2.1]; exact hown11) hgrow11 hat11; rw [HXYT.out.2.2.2.1] at hG2; have hy1 := hG2.y; rw [HXYT.out.2.2.2.2.1] at hy1; replace hy1 := hy1.alloc (.cells #[.int .i64 (nq : Int)] 3); have hz2 := hG2.bl.size; have nb1 := (no.alloc (.cells #[.int .i64 (np : Int)] 3)).grown hgrow11 (fun e => own_blk_ne hx1 (no.alloc (.cells #[.int .i64 (np : Int)] 3)) (by decide) e.symm))
                      | (at_builtin; refine wpList_append_lies _ rfl _ _ 23 rfl W.heap.size 3 i0 (.int .i64 0) 1 8 Tryz.underlying23 hi0 hz00 hz01 hz02 rfl (by decide) _ _ _ rfl hy1 ⟨w11.heap.size, 0, none⟩ 1 1 [.int .i64 (nq : Int)] rfl rfl one_at (fun u hu => by simp at hu; subst hu; rfl) (by decide) (by unfold maxLen; omega) (by omega) (by simp; omega) _ rfl ?_; intro g12 cap12 w12 hown12 hgrow12 hat12 hlt12; have hG3 := hG2.pushY (x := nq) (g := g12) (cap := cap12) (by rw [HXYT.out.2.2.2.2.1]; exact hown12) hgrow12 hat12; rw [HXYT.out.2.2.2.2.1] at hG3; have nb2 := (nb1.alloc (.cells #[.int .i64 (nq : Int)] 3)).grown hgrow12 (fun e => own_blk_ne hy1 (nb1.alloc (.cells #[.int .i64 (nq : Int)] 3)) (by decide) e.symm)))
                    have hsh := HI.out.2.1.short i u HI.out.1
                    obtain ⟨gt, ctt, het, -, -⟩ := hG3.t.form (by rw [HXYT.out.2.2.2.2.2]; omega)
                    obtain ⟨rfl, -, -⟩ := Value.slice.inj het
                    have hto := hG3.t
                    rw [HXYT.out.2.2.2.2.2] at hto
                    have ht1 := hto.cellAt i (by omega)
                    rw [← HXYT.out.2.2.1, strCells, List.getElem?_map, List.getElem?_map, HI.out.1] at ht1
                    simp only [Option.map_some] at ht1
                    clear hown11 hgrow11 hat11 hlt11 hown12 hgrow12 hat12 hlt12 hG1 hG2 hx1 hy1 nb1 no bo hone1 het hto
                    have hz3 := hG3.bl.size
                    have hbW3 := hG3.bl
                    refine wp_region_T [9, 10] (by kernel_rfl) ?_
                    intro V2 bb
                    have lc : ∀ {p : Addr} {v : Value}, w12.cell? p = some v → ∀ d os, (Sort.grow (redrawn V2 d) os).cell? p = some v := fun {p v} hp d os => ((bb.trans ((below_regrown V2 d os).mono bb.size)).cell (World.block_lt_of_cell? w12 p hp)).trans hp
                    have q0 := lc ht1
                    clear lc
                    refine stepsQ [0, 1, 2, 3, 4, 5] (by kernel_rfl) (by kernel_rfl) (by kernel_rfl) (Grown.of_below (Below.refl _ _)) ?_
                    simp only [atIdx, List.filterMap_cons, List.filterMap_nil, List.getElem?_toArray, List.getElem_toArray, List.getElem?_cons_zero, List.getElem?_cons_succ, List.getElem_cons_zero, List.getElem_cons_succ]
                    iterate 6 (show wpQuiet _ _ _ _ (_ :: _) _; go_big_quiet_step (fail))
                    refine wpQuiet_nil ?_
                    show stepT _ _ _ _ _ _ _ _ _
                    refine stepS (i := 6) rfl (by kernel_rfl) ?_
                    intro K hK
                    have hcv : ∀ V, Below w12.heap.size w12 V → (convert 48 9 (.slice (some ⟨wr.heap.size, 0, none⟩) 1 1)).run Tryz.prog V = .ok (.string ⟨#[UInt8.ofNat c]⟩) V := fun V hb => run_convert_bytes_back V 48 9 5 ⟨wr.heap.size, 0, none⟩ 1 [UInt8.ofNat c] Tryz.underlying48 Tryz.underlying5 Tryz.underlying9 (fun j hj => by
                      obtain rfl : j = 0 := by simp at hj; omega
                      rw [Addr.add_lit, (nb2.below hb nb2.lt).cell 0]
                      simp [UInt8.toNat_ofNat']
                      omega)
                    have hcv2 := hcv V2 bb
                    clear hcv
                    go_simp
                    refine hK _ _ ⟨fun _ => Grown.of_below (Below.refl _ _), ?_⟩
                    clear hK K hcv2 q0 ht1 nb2
                    have hts : (txN u).size ≤ 40000 := by rw [txN_size]; omega
                    have hto : (⟨#[UInt8.ofNat c]⟩ : ByteArray).size = 1 := rfl
                    have hsn := txN_snoc u c
                    obtain ⟨t0, ht0⟩ : ∃ t, txN u = t := ⟨_, rfl⟩
                    obtain ⟨t1, ht1⟩ : ∃ t, (⟨#[UInt8.ofNat c]⟩ : ByteArray) = t := ⟨_, rfl⟩
                    rw [ht0] at hts hsn ⊢
                    rw [ht1] at hto hsn ⊢
                    refine stepsQ [7] (by kernel_rfl) (by kernel_rfl) (by kernel_rfl) (Grown.of_below (Below.refl _ _)) ?_
                    simp only [atIdx, List.filterMap_cons, List.filterMap_nil, List.getElem?_toArray, List.getElem_toArray, List.getElem?_cons_zero, List.getElem?_cons_succ, List.getElem_cons_zero, List.getElem_cons_succ]
                    iterate 1 (show wpQuiet _ _ _ _ (_ :: _) _; go_big_quiet_step (fail))
                    refine wpQuiet_nil ?_
                    show stepT _ _ _ _ _ _ _ _ _
                    obtain ⟨t2, ht2⟩ : ∃ t, t0 ++ t1 = t := ⟨_, rfl⟩
                    rw [ht2] at hsn ⊢
                    have hG4 := hG3.below bb
                    have hto2 := hG4.t
                    rw [HXYT.out.2.2.2.2.2] at hto2
                    replace hto2 := hto2.alloc (.cells #[.string t2] 9)
                    have hone2 := one_at (w := V2) (u := .string t2) (t := 9)
                    have hz4 := hG4.bl.size
                    refine stepS (i := 8) rfl (by kernel_rfl) ?_
                    intro K hK
                    go_simp
                    refine hK _ _ ⟨fun _ => Grown.of_below ((Below.refl _ _).alloc (Nat.le_refl _) _), ?_⟩
                    clear hK K
                    refine stepS (i := 9) rfl (by kernel_rfl) ?_
                    intro K hK
                    refine step_append_lies _ rfl (.tmp 120) (.tmp 128) 47 rfl W.heap.size 9 s0 (.string .empty) 1 16 Tryz.underlying47 hs0 hs00 hs01 hs02 rfl (by decide) _ _ _ (by simp [Act.eval, Act.put]) hto2 ⟨V2.heap.size, 0, none⟩ 1 1 [.string t2] (by simp [Act.eval, Act.put]) rfl hone2 (fun u hu => by simp at hu; subst hu; rfl) (by decide) (by unfold maxLen; omega) (by omega) (by simp; omega) _ rfl ?_
                    intro g14 cap14 w14 hown14 hgrow14 hat14 hlt14
                    go_simp
                    refine hK _ _ ⟨fun h => absurd (by decide) h, ?_⟩
                    clear hK K
                    refine stepS (i := 10) rfl (by kernel_rfl) ?_
                    intro K hK
                    go_simp
                    refine hK _ _ ⟨fun h => absurd (by decide) h, ?_⟩
                    clear hK K
                    refine stepT_end (by kernel_rfl) ?_
                    have hG5 := hG4.pushT (s := t2) (g := g14) (cap := cap14) (by rw [HXYT.out.2.2.2.2.2]; exact hown14) hgrow14
                    rw [HXYT.out.2.2.2.2.2] at hG5
                    have hlen : (Z' ++ [u ++ [c]]).length = Z'.length + 1 := by simp
                    have hnew := HI.out.2.2.2.2
                    have hA5 : Ap3 W w14 A B (Z' ++ [u ++ [c]]) (.slice (some ⟨g11, 0, none⟩) (Z'.length + 1) cap11) (.slice (some ⟨g12, 0, none⟩) (Z'.length + 1) cap12) (.slice (some ⟨g14, 0, none⟩) (Z'.length + 1) cap14) := by
                      refine Ap3g.ap ?_
                      simp only [List.map_append, List.map_cons, List.map_nil, hnew, HXYT.out.1, HXYT.out.2.1, HXYT.out.2.2.1]
                      rw [hsn]
                      exact hG5
                    have HR := Lib.hid hA5
                    clear hG5 hA5 hG4 hG3 hto2 hone2 hown14 hgrow14 hat14 hlt14 hlen hnew bb hsn
                    go_wp2_with fail
                    go_roundw
                    case rel => exact ⟨c + 1, Z' ++ [u ++ [c]], by go_num, by omega, HN.out.2, Lib.hid HN.out.1, HR.out, HR.out.bl⟩
                    case measure => simp [intOf]; omega
            · obtain rfl : c = 256 := by omega
              have k2 : decide ((256 : Int) < 256) = false := by decide
              have HN := Lib.hid (And.intro (hP.out.next hu HL.out) (And.intro h3 hbW))
              clear hP h3 hbW hu
              go_wp2_with fail
              go_roundw
              case rel => exact ⟨i + 1, Z', by go_num, by omega, hZ', Lib.hid HN.out.1, HN.out.2.1, HN.out.2.2⟩
              case measure => simp [intOf]; omega
      · obtain rfl : Z.length = i := by omega
        have k1 : decide (Z.length < Z.length) = false := decide_eq_false (by omega)
        have HE := Lib.hid (And.intro hP.out h3.bl)
        clear h3 hP
        go_wp2_with fail
        refine bodyPost_ret (v := .tuple #[.string ⟨#[]⟩, .bool false]) (by simp [results, Tryz.results20, go_sem]) rfl ?_
        exact ⟨⟨#[]⟩, false, rfl, by decide, fun h => by (cases h), fun _ u hu => HE.out.1.end_ hu, HB.out.trans (HE.out.2.mono HB.out.size)⟩
end Go.Proofs.YtmmlakheimfijaaGreatDoor
