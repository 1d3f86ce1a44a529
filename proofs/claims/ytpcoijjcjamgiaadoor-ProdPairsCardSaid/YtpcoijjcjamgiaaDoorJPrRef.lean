/-
  The walk of the reference's Pairs. Conditions: both automata have few states.
-/
import Derived.Test.YtpcoijjcjamgiaaDoorJRows
import Derived.Test.YtpcoijjcjamgiaaDoorJDfa
import Derived.Test.YtpcoijjcjamgiaaDoorJNot
namespace Go.Proofs.YtpcoijjcjamgiaaDoor
set_option linter.unusedVariables false
set_option linter.unusedSimpArgs false
open Go.RowKit Go.Maps Go.Sort Go.ChangeShapes Go.WideShapes Go.Joins

section
variable {D E : DfaI} {mb fs : List Nat} {x : Pr} {o : List Pr}
/-- the pairs met so far, the first i of them gone over -/
structure StepF (fs : List Nat) (D E : DfaI) (N i : Nat) (o : List Pr) : Prop where
  bfs : bfs (addR eqP) (nextP D E (fs)) (N - i) i o = pairsF D E fs
  lt : ∀ p ∈ o, p.1 < D.next.length ∧ p.2 < E.next.length
  nd : o.Nodup
  hd : ∃ t, o = (D.aut.start, E.aut.start) :: t
  le : i ≤ o.length
  lim : o.length < N
theorem nextF_lt (hm : MeetB D E mb fs) (hD : RightD D) (hE : RightD E) (hx : x.1 < D.next.length ∧ x.2 < E.next.length) : ∀ q ∈ nextP D E (fs) x, q.1 < D.next.length ∧ q.2 < E.next.length :=
  nextP_in (S := fun p => p.1 < D.next.length ∧ p.2 < E.next.length) (fun c hc => hm.byte hc) (fun p c hp hc => stpP_lt hD hE hp hc) x hx
theorem StepF.size (hlt : ∀ p ∈ o, p.1 < D.next.length ∧ p.2 < E.next.length) (hnd : o.Nodup) (hd : ∃ t, o = (D.aut.start, E.aut.start) :: t) : o.length ≤ D.next.length * E.next.length := by
  have h0 : AllP D E [] o := ⟨hd, hnd, fun p _ k hk => by simp at hk, hlt⟩
  exact h0.size
theorem StepF.start (hD : RightD D) (hE : RightD E) : StepF fs D E (D.next.length * E.next.length + 1) 0 [(D.aut.start, E.aut.start)] where
  bfs := rfl
  lt := fun p hp => by obtain rfl := List.mem_singleton.1 hp; exact start_lt hD hE
  nd := (by simp)
  hd := ⟨[], rfl⟩
  le := Nat.zero_le _
  lim := by
    have := StepF.size (D := D) (E := E) (o := [(D.aut.start, E.aut.start)]) (fun p hp => by obtain rfl := List.mem_singleton.1 hp; exact start_lt hD hE) ((by simp)) ⟨[], rfl⟩
    omega
theorem StepF.next {N i : Nat} (hm : MeetB D E mb fs) (hN : N = D.next.length * E.next.length + 1) (hD : RightD D) (hE : RightD E) (h : StepF fs D E N i o) (hx : o[i]? = some x) : StepF fs D E N (i + 1) ((nextP D E (fs) x).foldl (addR eqP) o) := by
  have hi := (List.getElem?_eq_some_iff.1 hx).1
  have hxl := h.lt x (List.mem_of_getElem? hx)
  obtain ⟨t, ht⟩ := foldR_pre eqP (nextP D E (fs) x) o
  have hlt := foldR_in (E := eqP) (S := fun p : Pr => p.1 < D.next.length ∧ p.2 < E.next.length) (nextP D E (fs) x) o h.lt (nextF_lt hm hD hE hxl)
  have hnd : ((nextP D E (fs) x).foldl (addR eqP) o).Nodup := by
    rw [List.nodup_iff_pairwise_ne]
    refine (foldR_apart (E := eqP) _ o ?_).imp fun {a b} h e => ?_
    · have := h.nd
      rw [List.nodup_iff_pairwise_ne] at this
      refine this.imp fun {a b} hne => ?_
      unfold eqP
      exact decide_eq_false fun e => hne e.symm
    · simp [e, eqP] at h
  have hhd : ∃ t', (nextP D E (fs) x).foldl (addR eqP) o = (D.aut.start, E.aut.start) :: t' := by
    obtain ⟨t0, h0⟩ := h.hd
    exact ⟨t0 ++ t, by rw [ht, h0]; rfl⟩
  refine ⟨?_, hlt, hnd, hhd, ?_, ?_⟩
  · have hb := h.bfs
    have hl := h.lim
    rw [show N - i = (N - (i + 1)) + 1 by omega, Go.Proofs.YtpcoijjcjamgiaaDoor.bfs, hx] at hb
    exact hb
  · rw [ht, List.length_append]; omega
  · have := StepF.size hlt hnd hhd
    omega
theorem StepF.done {N : Nat} (h : StepF fs D E N o.length o) : o = pairsF D E fs := by
  have hb := h.bfs
  have hl := h.lim
  rw [show N - o.length = (N - o.length - 1) + 1 by omega, Go.Proofs.YtpcoijjcjamgiaaDoor.bfs, List.getElem?_eq_none (Nat.le_refl _)] at hb
  exact hb
theorem StepF.more {N i : Nat} (h : StepF fs D E N i o) : o.length ≤ (pairsF D E fs).length := by
  obtain ⟨t, ht⟩ := bfs_pre eqP (nextP D E (fs)) (N - i) i o
  rw [h.bfs] at ht
  rw [ht, List.length_append]
  omega
end
/-- two rows of numbers -/
structure Pr2 (w W : World) (X Y : List Nat) (vx vy : Value) : Prop where
  x : W.ownsRow w.heap.size 3 1 vx X.length (natCells X)
  y : W.ownsRow w.heap.size 3 1 vy Y.length (natCells Y)
  ne : ∀ g, vx.ownBlock = some g → vy.ownBlock ≠ some g
  bl : Below w.heap.size w W
section
variable {w W W' : World} {X Y : List Nat} {vx vy : Value}
theorem Pr2.below (h : Pr2 w W X Y vx vy) (hb : Below W.heap.size W W') : Pr2 w W' X Y vx vy :=
  ⟨own_under h.x hb fun g hg => own_lt h.x hg, own_under h.y hb fun g hg => own_lt h.y hg, h.ne, h.bl.trans (hb.mono h.bl.size)⟩
theorem Pr2.pushX {w3 : World} {x g cap : Nat} (h : Pr2 w W X Y vx vy) (hown : w3.ownsRow w.heap.size 3 1 (.slice (some ⟨g, 0, none⟩) (X.length + 1) cap) (X.length + 1) (natCells X ++ [.int .i64 (x : Int)])) (hgrow : (W.alloc (.cells #[.int .i64 (x : Int)] 3)).grownBy w3 vx.ownBlock)
    (hat : vx.ownBlock = some g ∨ g = (W.alloc (.cells #[.int .i64 (x : Int)] 3)).heap.size) : Pr2 w w3 (X ++ [x]) Y (.slice (some ⟨g, 0, none⟩) (X.length + 1) cap) vy := by
  have hal := (Below.refl W.heap.size W).alloc (Nat.le_refl _) (.cells #[.int .i64 (x : Int)] 3)
  have h1 := h.below hal
  have hs := hal.size
  refine ⟨by rw [List.length_append, natCells_snoc]; exact hown, own_sameP h1.y fun k hk => hgrow.block k (own_lt h1.y hk) fun e => h.ne k e.symm hk, fun k hk => ?_, h1.bl.grown hgrow h1.bl.size fun j e => (h1.x.lt j e).1⟩
  obtain rfl : g = k := Option.some.inj hk
  rcases hat with h2 | h2
  · exact h.ne g h2
  · intro hy
    have := (h1.y.lt g hy).2
    omega
theorem Pr2.pushY {w3 : World} {x g cap : Nat} (h : Pr2 w W X Y vx vy) (hown : w3.ownsRow w.heap.size 3 1 (.slice (some ⟨g, 0, none⟩) (Y.length + 1) cap) (Y.length + 1) (natCells Y ++ [.int .i64 (x : Int)])) (hgrow : (W.alloc (.cells #[.int .i64 (x : Int)] 3)).grownBy w3 vy.ownBlock)
    (hat : vy.ownBlock = some g ∨ g = (W.alloc (.cells #[.int .i64 (x : Int)] 3)).heap.size) : Pr2 w w3 X (Y ++ [x]) vx (.slice (some ⟨g, 0, none⟩) (Y.length + 1) cap) := by
  have hal := (Below.refl W.heap.size W).alloc (Nat.le_refl _) (.cells #[.int .i64 (x : Int)] 3)
  have h1 := h.below hal
  refine ⟨own_sameP h1.x fun k hk => hgrow.block k (own_lt h1.x hk) fun e => h.ne k hk e.symm, by rw [List.length_append, natCells_snoc]; exact hown, fun k hk hy => ?_, h1.bl.grown hgrow h1.bl.size fun j e => (h1.y.lt j e).1⟩
  obtain rfl : g = k := Option.some.inj hy
  rcases hat with h2 | h2
  · exact h.ne g hk h2
  · have := (h1.x.lt g hk).2
    omega
end
def oldR (o : List Pr) (x : Pr) (k : Nat) : Bool := (o.take k).any (eqP x)
theorem oldR_succ {o : List Pr} {k : Nat} {u : Pr} (h : o[k]? = some u) (x : Pr) : oldR o x (k + 1) = (oldR o x k || eqP x u) := by
  unfold oldR
  rw [List.take_add_one, h]
  simp
theorem oldR_all (o : List Pr) (x : Pr) : oldR o x o.length = true ↔ x ∈ o := by
  unfold oldR
  rw [List.take_length, List.any_eq_true]
  constructor
  · rintro ⟨y, hy, e⟩
    rw [show x = y from of_decide_eq_true e]
    exact hy
  · exact fun h => ⟨x, h, eqP_refl x⟩
theorem oldR_mem {o : List Pr} {x : Pr} {k : Nat} (h : oldR o x k = true) : x ∈ o := by
  unfold oldR at h
  obtain ⟨y, hy, e⟩ := List.any_eq_true.1 h
  rw [show x = y from of_decide_eq_true e]
  exact List.mem_of_mem_take hy
theorem prO_pre (D E : DfaI) (fs : List Nat) (x : Pr) (o : List Pr) (c : Nat) : ∃ t, prO D E fs x o c = o ++ t := foldR_pre eqP _ o
theorem prO_full_pre (D E : DfaI) (fs : List Nat) (x : Pr) (o : List Pr) (c : Nat) : ∃ t, (nextP D E fs x).foldl (addR eqP) o = prO D E fs x o c ++ t := by
  have h : (nextP D E fs x).foldl (addR eqP) o = ((nextP D E fs x).drop c).foldl (addR eqP) (prO D E fs x o c) := by
    unfold prO
    rw [← List.foldl_append, List.take_append_drop]
  rw [h]
  exact foldR_pre eqP _ _
theorem range_at {c : Nat} (h : c < 256) : (List.range 256).getD c 0 = c := by
  rw [List.getD_eq_getElem?_getD, List.getElem?_range h]
  rfl
def refN (D E : DfaI) : Nat := if (rightD D && rightD E) = true then (pairsF D E (List.range 256)).length else 0
def xsP (o : List Pr) : List Nat := o.map (·.1)
def ysP (o : List Pr) : List Nat := o.map (·.2)
theorem DfaAt.parts {w : World} {S : Int} {af ab an : Option Addr} {F B M cf cb cn : Nat} {D : DfaI} (h : DfaAt w (.agg #[.int .i64 S, .slice af F cf, .slice ab B cb, .slice an M cn]) D) :
    IntsAt w (.slice ab B cb) D.block ∧ IRowsAt w (.slice an M cn) D.next := ⟨h.cut.2.1, h.cut.2.2⟩
set_option maxHeartbeats 8000000 in
set_option maxRecDepth 1000000 in
theorem refpairs_any (va vb : Value) (A B : DfaI) (w : World) (ha : DfaAt w va A) (hb : DfaAt w vb B) (hIA : A.In) (hIB : B.In) (lA : A.next.length ≤ 10) (lB : B.next.length ≤ 10) :
    Calls Tryd.prog 8 #[va, vb] w fun e w' => ∃ x y c d, e = .returned (.tuple #[.slice x (refN A B) c, .slice y (refN A B) d]) ∧ refN A B ≤ 100 ∧ Below w.heap.size w w' := by
  obtain ⟨S, a1, a2, a3, F, K1, MA, c1, c2, c3, hS, hF, hK1, hM, rfl⟩ := ha.form
  obtain ⟨S', a4, a5, a6, F', K2, MB, c4, c5, c6, hS', hF', hK2, hM', rfl⟩ := hb.form
  have hz0 : ∀ o, (w.alloc o).heap.size = w.heap.size + 1 := fun o => by simp
  have b0 := (Below.refl w.heap.size w).alloc (Nat.le_refl _) (.cells #[.int .i64 S, .slice a1 F c1, .slice a2 K1 c2, .slice a3 MA c3] 26)
  have b1 := b0.alloc (by rw [hz0]; omega) (.cells #[.int .i64 S', .slice a4 F' c4, .slice a5 K2 c5, .slice a6 MB c6] 26)
  have qa := (Blk.new w 26 #[.int .i64 S, .slice a1 F c1, .slice a2 K1 c2, .slice a3 MA c3]).alloc (.cells #[.int .i64 S', .slice a4 F' c4, .slice a5 K2 c5, .slice a6 MB c6] 26)
  have qb := Blk.new (w.alloc (.cells #[.int .i64 S, .slice a1 F c1, .slice a2 K1 c2, .slice a3 MA c3] 26)) 26 #[.int .i64 S', .slice a4 F' c4, .slice a5 K2 c5, .slice a6 MB c6]
  rw [hz0] at qb
  have HD := Lib.hid (And.intro (ha.below b1) (And.intro (hb.below b1) (And.intro qa (And.intro qb b1))))
  obtain ⟨⟨y0, y1, y2, y3⟩, -⟩ := qa.c4
  have HI := Lib.hid (And.intro hIA (And.intro hIB (And.intro hS (And.intro hS' (And.intro hM (And.intro hM' (And.intro hK1 hK2)))))))
  clear ha hb hIA hIB hF hF' hK1 hK2 b0 b1 qa qb hS hS' 
  rw [hM] at lA
  rw [hM'] at lB
  clear hM hM'
  go_enter Tryd.func8, Tryd.ntmps8
  go_wp2_with fail
  clear hz0
  generalize (w.alloc (.cells #[.int .i64 S, .slice a1 F c1, .slice a2 K1 c2, .slice a3 MA c3] 26)).alloc (.cells #[.int .i64 S', .slice a4 F' c4, .slice a5 K2 c5, .slice a6 MB c6] 26) = W at *
  refine (refdright_any _ A W HD.out.1 HI.out.1).mono ?_
  rintro e w1 ⟨rfl, b1⟩
  have H1 := Lib.hid (And.intro (HD.out.1.below b1) (And.intro (HD.out.2.1.below b1) (And.intro (HD.out.2.2.1.below b1 HD.out.2.2.1.lt) (And.intro (HD.out.2.2.2.1.below b1 HD.out.2.2.2.1.lt) (HD.out.2.2.2.2.trans (b1.mono HD.out.2.2.2.2.size))))))
  clear b1 HD y0 y1 y2 y3
  cases hr : rightD A with
  | false =>
    have HO := Lib.hid (show refN A B = 0 by unfold refN; rw [hr]; rfl)
    clear hr
    go_wp2_with fail
    refine bodyPost_ret (v := .tuple #[.slice none 0 0, .slice none 0 0]) (by simp [results, Tryd.results8, go_sem]) rfl ⟨none, none, 0, 0, by rw [HO.out], by rw [HO.out]; omega, H1.out.2.2.2.2⟩
  | true =>
  have HR := Lib.hid hr
  clear hr
  obtain ⟨⟨x0, x1, x2, x3⟩, -⟩ := H1.out.2.2.2.1.c4
  go_wp2_with fail
  refine (refdright_any _ B w1 H1.out.2.1 HI.out.2.1).mono ?_
  rintro e w2 ⟨rfl, b2⟩
  have H2 := Lib.hid (And.intro (H1.out.1.below b2) (And.intro (H1.out.2.1.below b2) (And.intro (H1.out.2.2.1.below b2 H1.out.2.2.1.lt) (And.intro (H1.out.2.2.2.1.below b2 H1.out.2.2.2.1.lt) (H1.out.2.2.2.2.trans (b2.mono H1.out.2.2.2.2.size))))))
  clear b2 H1 x0 x1 x2 x3
  cases hr2 : rightD B with
  | false =>
    have HO := Lib.hid (show refN A B = 0 by unfold refN; rw [hr2, Bool.and_false]; rfl)
    clear hr2
    go_wp2_with fail
    refine bodyPost_ret (v := .tuple #[.slice none 0 0, .slice none 0 0]) (by simp [results, Tryd.results8, go_sem]) rfl ⟨none, none, 0, 0, by rw [HO.out], by rw [HO.out]; omega, H2.out.2.2.2.2⟩
  | true =>
  have hRA := rightD_iff.1 HR.out
  have hRB := rightD_iff.1 hr2
  have hrn : refN A B = (pairsF A B (List.range 256)).length := by unfold refN; rw [HR.out, hr2]; rfl
  have hsz := pairsF_size hRA hRB (meet_range A B)
  obtain ⟨SA, hSA⟩ : ∃ N : Nat, S = (N : Int) := ⟨S.toNat, by have := hRA.s0; rw [HI.out.2.2.1] at this; omega⟩
  obtain ⟨SB, hSB⟩ : ∃ N : Nat, S' = (N : Int) := ⟨S'.toNat, by have := hRB.s0; rw [HI.out.2.2.2.1] at this; omega⟩
  have hs1 : A.aut.start = SA := by show A.start.toNat = SA; rw [HI.out.2.2.1, hSA]; rfl
  have hs2 : B.aut.start = SB := by show B.start.toNat = SB; rw [HI.out.2.2.2.1, hSB]; rfl
  obtain ⟨N, hN⟩ : ∃ N, N = A.next.length * B.next.length + 1 := ⟨_, rfl⟩
  have hN101 : N ≤ 101 := by
    have : A.next.length * B.next.length ≤ 10 * 10 := Nat.mul_le_mul (by rw [HI.out.2.2.2.2.1]; exact lA) (by rw [HI.out.2.2.2.2.2.1]; exact lB)
    omega
  have hst := StepF.start (fs := List.range 256) hRA hRB
  rw [← hN, hs1, hs2] at hst
  have hX1 : K1 = 256 := by rw [← HI.out.2.2.2.2.2.2.1]; exact hRA.blk.2
  have hX2 : K2 = 256 := by rw [← HI.out.2.2.2.2.2.2.2]; exact hRB.blk.2
  subst hSA hSB hX1 hX2
  have HP := Lib.hid (And.intro hRA (And.intro hRB (And.intro hrn (And.intro (show refN A B ≤ 100 by rw [hrn]; omega) (And.intro hN hst)))))
  obtain ⟨⟨y0, y1, y2, y3⟩, -⟩ := H2.out.2.2.1.c4
  obtain ⟨⟨x0, x1, x2, x3⟩, -⟩ := H2.out.2.2.2.1.c4
  clear hRA hRB hrn hsz hr2 HR hs1 hs2 hN hst
  go_wp2_with fail
  go_cut [6, 7] (fun s6 s7 W2 => Pr2 w2 W2 [SA] [SB] s6 s7)
  case first =>
    refine wp_region_T [] (by kernel_rfl) ?_
    intro V bb
    have lc : ∀ {p : Addr} {v : Value}, w2.cell? p = some v → ∀ d os, (Sort.grow (redrawn V d) os).cell? p = some v := fun {p v} hp d os => ((bb.trans ((below_regrown V d os).mono bb.size)).cell (World.block_lt_of_cell? w2 p hp)).trans hp
    have q0 := lc y0
    have q1 := lc x0
    clear lc
    clear y0 x0
    have hzV := bb.size
    refine stepsQ [0, 1, 3, 4] (by kernel_rfl) (by kernel_rfl) (by kernel_rfl) (Grown.of_below (Below.refl _ _)) ?_
    simp only [atIdx, List.filterMap_cons, List.filterMap_nil, List.getElem?_toArray, List.getElem_toArray, List.getElem?_cons_zero, List.getElem?_cons_succ, List.getElem_cons_zero, List.getElem_cons_succ]
    iterate 4 (show wpQuiet _ _ _ _ (_ :: _) _; go_big_quiet_step (fail))
    refine wpQuiet_nil ?_
    show stepT _ _ _ _ _ _ _ _ _
    refine stepS2 (i := 2) (j := 5) rfl rfl (by kernel_rfl) ?_ ?_
    · intro K hK
      go_simp
      have o1 := World.ownsRow_lit (base := w2.heap.size) (e := 3) (size := 1) V #[.int .i64 (SA : Int)] 1 hzV (by decide) (by simp)
      have b1 := (Below.refl V.heap.size V).alloc (Nat.le_refl _) (.cells #[.int .i64 (SA : Int)] 3)
      refine hK _ _ ⟨fun _ => Grown.of_below b1, ?_⟩
      clear hK K
      have hz1 : (V.alloc (.cells #[.int .i64 (SA : Int)] 3)).heap.size = V.heap.size + 1 := by simp
      generalize V.alloc (.cells #[.int .i64 (SA : Int)] 3) = V1 at *
      refine stepsQ [6] (by kernel_rfl) (by kernel_rfl) (by kernel_rfl) (Grown.of_below b1) ?_
      simp only [atIdx, List.filterMap_cons, List.filterMap_nil, List.getElem?_toArray, List.getElem_toArray, List.getElem?_cons_zero, List.getElem?_cons_succ, List.getElem_cons_zero, List.getElem_cons_succ]
      iterate 1 (show wpQuiet _ _ _ _ (_ :: _) _; go_big_quiet_step (fail))
      refine wpQuiet_nil ?_
      show stepT _ _ _ _ _ _ _ _ _
      refine stepS (i := 5) rfl (by kernel_rfl) ?_
      intro K hK
      go_simp
      have o2 := World.ownsRow_lit (base := w2.heap.size) (e := 3) (size := 1) V1 #[.int .i64 (SB : Int)] 1 (by omega) (by decide) (by simp)
      have b2 := b1.alloc (by omega) (.cells #[.int .i64 (SB : Int)] 3)
      refine hK _ _ ⟨fun _ => Grown.of_below b2, ?_⟩
      clear hK K
      replace o1 := o1.alloc (.cells #[.int .i64 (SB : Int)] 3)
      rw [hz1] at o2
      generalize V1.alloc (.cells #[.int .i64 (SB : Int)] 3) = V2 at *
      refine stepsQ [7] (by kernel_rfl) (by kernel_rfl) (by kernel_rfl) (Grown.of_below b2) ?_
      simp only [atIdx, List.filterMap_cons, List.filterMap_nil, List.getElem?_toArray, List.getElem_toArray, List.getElem?_cons_zero, List.getElem?_cons_succ, List.getElem_cons_zero, List.getElem_cons_succ]
      iterate 1 (show wpQuiet _ _ _ _ (_ :: _) _; go_big_quiet_step (fail))
      refine wpQuiet_nil ?_
      show stepT _ _ _ _ _ _ _ _ _
      refine stepT_end (by kernel_rfl) ?_
      go_wp2_with fail
      go_meet
      exact ⟨o1, o2, fun g e e' => by
        have h1 := Option.some.inj e
        have h2 := Option.some.inj e'
        simp at h1 h2
        omega, bb.trans (b2.mono hzV)⟩
    · intro K hK
      go_simp
      have o1 := World.ownsRow_lit (base := w2.heap.size) (e := 3) (size := 1) V #[.int .i64 (SB : Int)] 1 hzV (by decide) (by simp)
      have b1 := (Below.refl V.heap.size V).alloc (Nat.le_refl _) (.cells #[.int .i64 (SB : Int)] 3)
      refine hK _ _ ⟨fun _ => Grown.of_below b1, ?_⟩
      clear hK K
      have hz1 : (V.alloc (.cells #[.int .i64 (SB : Int)] 3)).heap.size = V.heap.size + 1 := by simp
      generalize V.alloc (.cells #[.int .i64 (SB : Int)] 3) = V1 at *
      refine stepS (i := 2) rfl (by kernel_rfl) ?_
      intro K hK
      go_simp
      have o2 := World.ownsRow_lit (base := w2.heap.size) (e := 3) (size := 1) V1 #[.int .i64 (SA : Int)] 1 (by omega) (by decide) (by simp)
      have b2 := b1.alloc (by omega) (.cells #[.int .i64 (SA : Int)] 3)
      refine hK _ _ ⟨fun _ => Grown.of_below b2, ?_⟩
      clear hK K
      replace o1 := o1.alloc (.cells #[.int .i64 (SA : Int)] 3)
      rw [hz1] at o2
      generalize V1.alloc (.cells #[.int .i64 (SA : Int)] 3) = V2 at *
      refine stepsQ [6, 7] (by kernel_rfl) (by kernel_rfl) (by kernel_rfl) (Grown.of_below b2) ?_
      simp only [atIdx, List.filterMap_cons, List.filterMap_nil, List.getElem?_toArray, List.getElem_toArray, List.getElem?_cons_zero, List.getElem?_cons_succ, List.getElem_cons_zero, List.getElem_cons_succ]
      iterate 2 (show wpQuiet _ _ _ _ (_ :: _) _; go_big_quiet_step (fail))
      refine wpQuiet_nil ?_
      show stepT _ _ _ _ _ _ _ _ _
      refine stepT_end (by kernel_rfl) ?_
      go_wp2_with fail
      go_meet
      exact ⟨o2, o1, fun g e e' => by
        have h1 := Option.some.inj e
        have h2 := Option.some.inj e'
        simp at h1 h2
        omega, bb.trans (b2.mono hzV)⟩
  case rest =>
    have HC := Lib.hid hcut
    clear hcut y0 y1 y2 y3 x0 x1 x2 x3
    go_wp2_with fail
    go_loopw [6, 7, 8, 9, 10, 11, 12, 13] (fun sx sy c _ _ _ _ _ wr => ∃ (i : Nat) (o : List Pr), c = .int .i64 i ∧ i ≤ o.length ∧ o.length < N ∧ Hid (StepF (List.range 256) A B N i o ∧ Pr2 w2 wr (xsP o) (ysP o) sx sy)) (fun _ _ c _ _ _ _ _ _ => 101 - (intOf c).toNat)
    case atStart => exact ⟨0, [(SA, SB)], rfl, by omega, HP.out.2.2.2.2.2.lim, Lib.hid ⟨HP.out.2.2.2.2.2, HC.out⟩⟩
    case round =>
      obtain ⟨i, o, rfl, hi, hoN, HS⟩ := hrel
      have hxl : (xsP o).length = o.length := by simp [xsP]
      have hyl : (ysP o).length = o.length := by simp [ysP]
      obtain ⟨ax', cx', hsx⟩ := own_slice HS.out.2.x
      obtain ⟨ay', cy', hsy⟩ := own_slice HS.out.2.y
      rw [hxl] at hsx
      rw [hyl] at hsy
      subst hsx hsy
      by_cases hlt : i < o.length
      · obtain ⟨x, hx⟩ : ∃ x, o[i]? = some x := ⟨_, List.getElem?_eq_getElem hlt⟩
        obtain ⟨p, q⟩ := x
        have hpq := HS.out.1.lt _ (List.mem_of_getElem? hx)
        simp only at hpq
        have HU := Lib.hid (And.intro hx (And.intro hpq HS.out))
        clear hx hpq hxl hyl HS
        go_wp2_with fail
        go_loopw [6, 7, 9, 10, 11, 12, 13] (fun sx sy cc _ _ _ _ wr => ∃ (c : Nat) (o' : List Pr), cc = .int .i64 c ∧ c ≤ 256 ∧ Hid (o' = prO A B (List.range 256) (p, q) o c ∧ Pr2 w2 wr (xsP o') (ysP o') sx sy)) (fun _ _ c _ _ _ _ _ => 256 - (intOf c).toNat)
        case atStart => exact ⟨0, o, rfl, by omega, Lib.hid ⟨rfl, HU.out.2.2.2⟩⟩
        case round =>
          obtain ⟨c, o', rfl, hc, HT⟩ := hrel
          have hxl : (xsP o').length = o'.length := by simp [xsP]
          have hyl : (ysP o').length = o'.length := by simp [ysP]
          obtain ⟨ax, cx, hsx⟩ := own_slice HT.out.2.x
          obtain ⟨ay, cy, hsy⟩ := own_slice HT.out.2.y
          rw [hxl] at hsx
          rw [hyl] at hsy
          subst hsx hsy
          have hN' : o'.length < N := by
            obtain ⟨t, ht⟩ := prO_full_pre A B (List.range 256) (p, q) o c
            have h1 := (HU.out.2.2.1.next (meet_range A B) HP.out.2.2.2.2.1 HP.out.1 HP.out.2.1 HU.out.1).lim
            rw [ht, ← HT.out.1, List.length_append] at h1
            omega
          have hoi : o'[i]? = some (p, q) := by
            obtain ⟨t, ht⟩ := prO_pre A B (List.range 256) (p, q) o c
            rw [HT.out.1, ht, List.getElem?_append_left hlt]
            exact HU.out.1
          have hi' : i < o'.length := (List.getElem?_eq_some_iff.1 hoi).1
          by_cases hlc : c < 256
          · have hpq := HU.out.2.1
            obtain ⟨bx, ox, rfl, m0⟩ := (NatsAt.of_own (by have := HT.out.2.x; rwa [hxl] at this)).get (k := i) (x := p) (by unfold xsP; rw [List.getElem?_map, hoi]; rfl)
            obtain ⟨by_, oy, rfl, m1⟩ := (NatsAt.of_own (by have := HT.out.2.y; rwa [hyl] at this)).get (k := i) (x := q) (by unfold ysP; rw [List.getElem?_map, hoi]; rfl)
            have hbW := HT.out.2.bl
            obtain ⟨hbA, hnA⟩ := (H2.out.1.below hbW).parts
            obtain ⟨hbB, hnB⟩ := (H2.out.2.1.below hbW).parts
            obtain ⟨⟨qa0, qa1, qa2, qa3⟩, -⟩ := (H2.out.2.2.1.below hbW H2.out.2.2.1.lt).c4
            obtain ⟨⟨qb0, qb1, qb2, qb3⟩, -⟩ := (H2.out.2.2.2.1.below hbW H2.out.2.2.2.1.lt).c4
            obtain ⟨la, hla1, hla2, hla3, hla4, hla5⟩ := HP.out.1.step hpq.1 hlc
            obtain ⟨lb, hlb1, hlb2, hlb3, hlb4, hlb5⟩ := HP.out.2.1.step hpq.2 hlc
            rw [HI.out.2.2.2.2.1, HI.out.2.2.2.2.2.1] at hpq
            obtain ⟨bnA, onA, aA, cA, rfl, n0, nA⟩ := hnA.get hla1
            obtain ⟨bnB, onB, aB, cB, rfl, n1, nB⟩ := hnB.get hlb1
            obtain ⟨bkA, okA, rfl, n2⟩ := nA.get hla3
            obtain ⟨bkB, okB, rfl, n3⟩ := nB.get hlb3
            obtain ⟨blA, olA, rfl, n4⟩ := hbA.get hla2
            obtain ⟨blB, olB, rfl, n5⟩ := hbB.get hlb2
            obtain ⟨kA, hkA⟩ : ∃ k, A.blk c = k := ⟨_, rfl⟩
            obtain ⟨kB, hkB⟩ : ∃ k, B.blk c = k := ⟨_, rfl⟩
            obtain ⟨np, hnp⟩ : ∃ k, A.aut.nx p (A.blk c) = k := ⟨_, rfl⟩
            obtain ⟨nq, hnq⟩ : ∃ k, B.aut.nx q (B.blk c) = k := ⟨_, rfl⟩
            rw [hnp] at n2
            rw [hnq] at n3
            rw [hkA] at n2 n4 hla5
            rw [hkB] at n3 n5 hlb5
            have hnew : prO A B (List.range 256) (p, q) o (c + 1) = addR eqP o' (np, nq) := by
              rw [prO_next (by rw [List.length_range]; exact hlc), range_at hlc, ← HT.out.1, ← hnp, ← hnq]
              rfl
            have HJ := Lib.hid (And.intro HT.out.2 (And.intro hnew (And.intro hxl hyl)))
            obtain ⟨LA, hLA⟩ : ∃ L, la.length = L := ⟨_, rfl⟩
            obtain ⟨LB, hLB⟩ : ∃ L, lb.length = L := ⟨_, rfl⟩
            rw [hLA] at n0 hla5
            rw [hLB] at n1 hlb5
            obtain ⟨hp1, hq1⟩ := hpq
            clear hbA hnA hbB hnB nA nB hla1 hla2 hla3 hla4 hlb1 hlb2 hlb3 hlb4 hkA hkB hnp hnq hbW hnew hLA hLB hoi hxl hyl HT
            go_wp2_with fail
            refine wp_region_T [] (by kernel_rfl) ?_
            intro V bb
            have lc : ∀ {p : Addr} {v : Value}, wr.cell? p = some v → ∀ d os, (Sort.grow (redrawn V d) os).cell? p = some v := fun {p v} hp d os => ((bb.trans ((below_regrown V d os).mono bb.size)).cell (World.block_lt_of_cell? wr p hp)).trans hp
            have q0 := lc qa3
            have q1 := lc qa2
            have q2 := lc qb3
            have q3 := lc qb2
            have q4 := lc m0
            have q5 := lc m1
            have q6 := lc n0
            have q7 := lc n1
            have q8 := lc n2
            have q9 := lc n3
            have q10 := lc n4
            have q11 := lc n5
            clear lc
            clear qa3 qa2 qb3 qb2 m0 m1 n0 n1 n2 n3 n4 n5
            refine stepsQ [0, 1, 2, 3, 4, 5, 6, 7, 8, 9, 10, 11, 12, 13, 14, 15, 16, 17, 18, 19, 20, 21, 22, 23, 24, 25, 26, 27, 28, 29, 30, 31] (by kernel_rfl) (by kernel_rfl) (by kernel_rfl) (Grown.of_below (Below.refl _ _)) ?_
            simp only [atIdx, List.filterMap_cons, List.filterMap_nil, List.getElem?_toArray, List.getElem_toArray, List.getElem?_cons_zero, List.getElem?_cons_succ, List.getElem_cons_zero, List.getElem_cons_succ]
            iterate 32 (show wpQuiet _ _ _ _ (_ :: _) _; go_big_quiet_step (fail))
            refine wpQuiet_nil ?_
            show stepT _ _ _ _ _ _ _ _ _
            refine stepT_end (by kernel_rfl) ?_
            have HK := Lib.hid (HJ.out.1.below bb)
            clear q0 q1 q2 q3 q4 q5 q6 q7 q8 q9 q10 q11 bb qa0 qa1 qb0 qb1
            go_wp2_with fail
            go_loopw [12, 13] (fun od k wr => wr = V ∧ ∃ n : Nat, k = .int .i64 n ∧ n ≤ o'.length ∧ od = .bool (oldR o' (np, nq) n)) (fun _ k _ => 101 - (intOf k).toNat)
            case atStart => exact ⟨rfl, 0, rfl, by omega, rfl⟩
            case round =>
              obtain ⟨rfl, n, rfl, hn, rfl⟩ := hrel
              obtain ⟨old, hold⟩ : ∃ b, oldR o' (np, nq) n = b := ⟨_, rfl⟩
              rw [hold]
              cases old with
              | true =>
                have HN := Lib.hid (And.intro (HJ.out.2.1.trans (addR_old (oldR_mem hold))) HK.out)
                clear hold
                by_cases hnl : n < o'.length
                · have k3 : decide (n < o'.length) = true := decide_eq_true hnl
                  go_wp2_with fail
                  go_roundw
                  case rel => exact ⟨c + 1, o', by go_num, by omega, Lib.hid ⟨HN.out.1.symm, HN.out.2⟩⟩
                  case measure => simp [intOf]; omega
                · have k3 : decide (n < o'.length) = false := decide_eq_false hnl
                  go_wp2_with fail
                  go_roundw
                  case rel => exact ⟨c + 1, o', by go_num, by omega, Lib.hid ⟨HN.out.1.symm, HN.out.2⟩⟩
                  case measure => simp [intOf]; omega
              | false =>
              by_cases hnl : n < o'.length
              · have k3 : decide (n < o'.length) = true := decide_eq_true hnl
                obtain ⟨v, hv⟩ : ∃ v, o'[n]? = some v := ⟨_, List.getElem?_eq_getElem hnl⟩
                obtain ⟨vx, vy⟩ := v
                obtain ⟨b1, o1, he1, m0⟩ := (NatsAt.of_own (by have := HK.out.x; rwa [HJ.out.2.2.1] at this)).get (k := n) (x := vx) (by unfold xsP; rw [List.getElem?_map, hv]; rfl)
                obtain ⟨b2, o2, he2, m1⟩ := (NatsAt.of_own (by have := HK.out.y; rwa [HJ.out.2.2.2] at this)).get (k := n) (x := vy) (by unfold ysP; rw [List.getElem?_map, hv]; rfl)
                have e1 : bx = b1 ∧ ox = o1 := by simpa using he1
                have e2 : by_ = b2 ∧ oy = o2 := by simpa using he2
                obtain ⟨rfl, rfl⟩ := e1
                obtain ⟨rfl, rfl⟩ := e2
                have hs := oldR_succ hv (np, nq)
                rw [hold] at hs
                have HV := Lib.hid hs
                clear hs hv he1 he2 hold
                by_cases hx : vx = np
                · subst hx
                  by_cases hy : vy = nq
                  · subst hy
                    have kx : ((vx : Int) == (vx : Int)) = true := by simp
                    have ky : ((vy : Int) == (vy : Int)) = true := by simp
                    go_wp2_with fail
                    go_roundw
                    case rel => exact ⟨by first | rfl | trivial, n + 1, by go_num, by omega, congrArg Value.bool (by rw [HV.out]; simp [eqP])⟩
                    case measure => simp [intOf]; omega
                  · have kx : ((vx : Int) == (vx : Int)) = true := by simp
                    have ky : ((vy : Int) == (nq : Int)) = false := by rw [beq_eq_false_iff_ne]; omega
                    go_wp2_with fail
                    go_roundw
                    case rel => exact ⟨by first | rfl | trivial, n + 1, by go_num, by omega, congrArg Value.bool (by rw [HV.out]; simp [eqP, Ne.symm hy])⟩
                    case measure => simp [intOf]; omega
                · have kx : ((vx : Int) == (np : Int)) = false := by rw [beq_eq_false_iff_ne]; omega
                  go_wp2_with fail
                  go_roundw
                  case rel => exact ⟨by first | rfl | trivial, n + 1, by go_num, by omega, congrArg Value.bool (by rw [HV.out]; simp [eqP, Ne.symm hx])⟩
                  case measure => simp [intOf]; omega
              · obtain rfl : o'.length = n := by omega
                have k3 : decide (o'.length < o'.length) = false := decide_eq_false (by omega)
                have hall := oldR_all o' (np, nq)
                rw [hold] at hall
                have HN := Lib.hid (HJ.out.2.1.trans (addR_new (fun hm => by have := hall.2 hm; cases this)))
                obtain ⟨i0, hi0, hz00, hz01, hz02⟩ := info_parts infoInt
                have hx1 := HK.out.x
                rw [HJ.out.2.2.1] at hx1
                have hwz := HK.out.bl.size
                replace hx1 := hx1.alloc (.cells #[.int .i64 (np : Int)] 3)
                clear hall hold
                go_wp2_with (first
                  | (at_builtin; refine wpList_append_lies _ rfl _ _ 23 rfl w2.heap.size 3 i0 (.int .i64 0) 1 8 Tryd.underlying23 hi0 hz00 hz01 hz02 rfl (by decide) _ _ _ rfl hx1 ⟨wr.heap.size, 0, none⟩ 1 1 [.int .i64 (np : Int)] rfl rfl one_at (fun u hu => by simp at hu; subst hu; rfl) (by decide) (by unfold maxLen; omega) (by omega) (by simp; omega) _ rfl ?_; intro g11 cap11 w11 hown11 hgrow11 hat11 hlt11; have hG2 := HK.out.pushX (x := np) (g := g11) (cap := cap11) (by rw [HJ.out.2.2.1]; exact hown11) (show (wr.alloc (.cells #[.int .i64 (np : Int)] 3)).grownBy w11 (Value.slice (some ⟨bx, ox, none⟩) o'.length cx).ownBlock from hgrow11) hat11; rw [HJ.out.2.2.1] at hG2; have hy1 := hG2.y; rw [HJ.out.2.2.2] at hy1; replace hy1 := hy1.alloc (.cells #[.int .i64 (nq : Int)] 3); have hz2 := hG2.bl.size; have HG2 := Lib.hid hG2; clear hG2 hown11 hgrow11 hat11 hlt11)
                  | (at_builtin; refine wpList_append_lies _ rfl _ _ 23 rfl w2.heap.size 3 i0 (.int .i64 0) 1 8 Tryd.underlying23 hi0 hz00 hz01 hz02 rfl (by decide) _ _ _ rfl hy1 ⟨w11.heap.size, 0, none⟩ 1 1 [.int .i64 (nq : Int)] rfl rfl one_at (fun u hu => by simp at hu; subst hu; rfl) (by decide) (by unfold maxLen; omega) (by omega) (by simp; omega) _ rfl ?_; intro g12 cap12 w12 hown12 hgrow12 hat12 hlt12; have HG3 := Lib.hid (HG2.out.pushY (x := nq) (g := g12) (cap := cap12) (by rw [HJ.out.2.2.2]; exact hown12) (show (w11.alloc (.cells #[.int .i64 (nq : Int)] 3)).grownBy w12 (Value.slice (some ⟨by_, oy, none⟩) o'.length cy).ownBlock from hgrow12) hat12); clear hown12 hgrow12 hat12 hlt12))
                go_roundw
                case rel =>
                  refine ⟨c + 1, o' ++ [(np, nq)], by go_num, by omega, Lib.hid ⟨HN.out.symm, ?_⟩⟩
                  have h := HG3.out
                  rw [HJ.out.2.2.2] at h
                  have e1 : xsP (o' ++ [(np, nq)]) = xsP o' ++ [np] := by simp [xsP]
                  have e2 : ysP (o' ++ [(np, nq)]) = ysP o' ++ [nq] := by simp [ysP]
                  rw [e1, e2]
                  exact h
                case measure => simp [intOf]; omega
          · obtain rfl : c = 256 := by omega
            have hfull : prO A B (List.range 256) (p, q) o 256 = (nextP A B (List.range 256) (p, q)).foldl (addR eqP) o := by
              have := @prO_full A B (List.range 256) (p, q) o
              rwa [List.length_range] at this
            have hnx := HU.out.2.2.1.next (meet_range A B) HP.out.2.2.2.2.1 HP.out.1 HP.out.2.1 HU.out.1
            rw [← hfull, ← HT.out.1] at hnx
            have HN := Lib.hid (And.intro hnx HT.out.2)
            have hle := hnx.le
            have hlim := hnx.lim
            clear hnx hfull hxl hyl hoi
            go_wp2_with fail
            go_roundw
            case rel => exact ⟨i + 1, o', by go_num, hle, hlim, HN⟩
            case measure => simp [intOf]; omega
      · obtain rfl : i = o.length := by omega
        have hdone := HS.out.1.done
        have hrn : refN A B = o.length := by rw [HP.out.2.2.1, ← hdone]
        have HB := Lib.hid (And.intro hrn (H2.out.2.2.2.2.trans (HS.out.2.bl.mono H2.out.2.2.2.2.size)))
        clear hxl hyl hdone hrn
        go_wp2_with fail
        refine bodyPost_ret (v := .tuple #[.slice ax' o.length cx', .slice ay' o.length cy']) (by simp [results, Tryd.results8, go_sem]) rfl ⟨ax', ay', cx', cy', by rw [HB.out.1], HP.out.2.2.2.1, HB.out.2⟩
end Go.Proofs.YtpcoijjcjamgiaaDoor
