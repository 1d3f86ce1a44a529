/-
  The walk of lang.Finite. Conditions: the automaton lies in memory; the table of powers lies as laid.
-/
import Derived.Test.YtmmlakheimfijaaGreatDoorJLgUseful
import Derived.Test.YtmmlakheimfijaaGreatDoorJLgRes
import Derived.Test.YtmmlakheimfijaaGreatDoorJAuOf
import Derived.Test.YtmmlakheimfijaaGreatDoorJAuTwo
import Derived.WalkSmall
namespace Go.Proofs.YtmmlakheimfijaaGreatDoor
set_option linter.unusedVariables false
set_option linter.unusedSimpArgs false
open Go.RowKit Go.Maps Go.Sort Go.ChangeShapes Go.WideShapes

/-- all states of the least automaton are reached -/
theorem least_all {D : DfaI} (hR : RightD D) {p : Nat} (hp : p < (ofD D).aut.many) : ∃ u, Bytes u ∧ (ofD D).aut.at_ (ofD D).blk u = p := by
  have hE := ofD_right hR
  have h1 := ofD_reach hR
  have h2 : reachD (ofD D) = reachL (ofD D).aut := by unfold reachD; rw [if_pos (rightD_iff.2 hE)]
  rw [h2] at h1
  refine reach_to hE.blk.1.blk ?_
  refine Classical.byContradiction fun hn => ?_
  have hnm : p ∉ reachL (ofD D).aut := fun hm => hn ((reachL_mem hE.ok).1 hm)
  have hnd : (reachL (ofD D).aut).Nodup := (reachL_sorted _).imp fun h => Nat.ne_of_lt h
  have := nodup_sub (p :: reachL (ofD D).aut) (List.range (ofD D).aut.many) (List.nodup_cons.2 ⟨hnm, hnd⟩) fun x hx => by
    rcases List.mem_cons.1 hx with rfl | hx
    · exact List.mem_range.2 hp
    · exact List.mem_range.2 (((reachL_mem hE.ok).1 hx).lt hE.ok)
  have h3 : (ofD D).aut.many = (ofD D).next.length := (ofD D).nx_len
  simp at this
  omega
/-! how many lead into a state, counted edge by edge -/
theorem degK_snoc (d : Aut) (U : Nat → Bool) (m n : Nat) : ∀ l : List Nat, degK d U [] m (l ++ [n]) = degK d U [] m l + (if U n = true then (rowKa d n).count m else 0)
  | [] => by simp [degK]
  | a :: l => by
    rw [List.cons_append, degK, degK, degK_snoc d U m n l]
    omega
def intoP (d : Aut) (U : Nat → Bool) (n j m : Nat) : Nat := degK d U [] m (List.range n) + (if U n = true then ((List.range j).map (d.nx n)).count m else 0)
theorem intoP_zero (d : Aut) (U : Nat → Bool) (m : Nat) : intoP d U 0 0 m = 0 := by simp [intoP, degK]
theorem intoP_step {d : Aut} {U : Nat → Bool} {n : Nat} (h : U n = true) (j m : Nat) : intoP d U n (j + 1) m = if m = d.nx n j then intoP d U n j m + 1 else intoP d U n j m := by
  unfold intoP
  rw [if_pos h, if_pos h, List.range_succ, List.map_append, List.count_append]
  by_cases e : m = d.nx n j
  · rw [if_pos e, e]; simp; omega
  · rw [if_neg e]
    have : List.count m ([j].map (d.nx n)) = 0 := by
      rw [List.map_cons, List.map_nil, List.count_cons_of_ne (Ne.symm e)]; rfl
    omega
theorem intoP_no {d : Aut} {U : Nat → Bool} {n : Nat} (h : U n = false) (j m : Nat) : intoP d U n (j + 1) m = intoP d U n j m := by
  unfold intoP
  rw [if_neg (by rw [h]; decide), if_neg (by rw [h]; decide)]
theorem intoP_row (d : Aut) (U : Nat → Bool) (n m : Nat) : intoP d U n d.wide m = intoP d U (n + 1) 0 m := by
  unfold intoP
  rw [List.range_succ, degK_snoc]
  simp [rowKa]
theorem intoP_end (d : Aut) (U : Nat → Bool) (m : Nat) : intoP d U d.many 0 m = degK d U [] m (List.range d.many) := by
  unfold intoP
  simp
theorem intoP_le (d : Aut) (U : Nat → Bool) (n j m : Nat) : intoP d U n j m ≤ n * d.wide + j := by
  have h1 := degK_le (d := d) (U := U) (R := []) (m := m) (l := List.range n)
  have h2 : ((List.range j).map (d.nx n)).count m ≤ j := Nat.le_trans List.count_le_length (by simp)
  rw [List.length_range] at h1
  unfold intoP
  split <;> omega
def cntB (U : Nat → Bool) (n : Nat) : Nat := ((List.range n).filter U).length
theorem cntB_succ (U : Nat → Bool) (n : Nat) : cntB U (n + 1) = if U n = true then cntB U n + 1 else cntB U n := by
  unfold cntB
  rw [List.range_succ, List.filter_append, List.length_append]
  by_cases h : U n = true
  · simp [h]
  · simp [h]
theorem cntB_le (U : Nat → Bool) (n : Nat) : cntB U n ≤ n := by
  have := List.length_filter_le U (List.range n)
  rw [List.length_range] at this
  exact this
def freeL (U : Nat → Bool) (I : Nat → Nat) (n : Nat) : List Nat := (List.range n).filter fun n => U n && decide (I n = 0)
theorem freeL_succ (U : Nat → Bool) (I : Nat → Nat) (n : Nat) : freeL U I (n + 1) = if (U n && decide (I n = 0)) = true then freeL U I n ++ [n] else freeL U I n := by
  unfold freeL
  rw [List.range_succ, List.filter_append]
  by_cases h : (U n && decide (I n = 0)) = true
  · rw [if_pos h]; simp only [List.filter_cons, h, if_true, List.filter_nil]
  · rw [if_neg h]; simp only [List.filter_cons, h, List.filter_nil]; simp
theorem freeL_le (U : Nat → Bool) (I : Nat → Nat) (n : Nat) : (freeL U I n).length ≤ n := by
  have := List.length_filter_le (fun n => U n && decide (I n = 0)) (List.range n)
  rw [List.length_range] at this
  exact this
/-- both rows in memory -/
structure KAt (w5 w : World) (B gi M : Nat) (I : Nat → Nat) (v : Value) (F : List Nat) : Prop where
  i : w.ownsRow w5.heap.size 3 1 (.slice (some ⟨gi, 0, none⟩) M M) M (intC (fun m => (I m : Int)) M)
  f : w.ownsRow B 3 1 v F.length (natCells F)
  b : RowKit.Below w5.heap.size w5 w
  lt : gi < B
  le : B ≤ w.heap.size
section
variable {w5 w w' : World} {B gi M : Nat} {I I' : Nat → Nat} {v : Value} {F : List Nat}
theorem KAt.put (h : KAt w5 w B gi M I v F) {m : Nat} {y : Nat} (hm : m < M) (hI : ∀ z, z < M → I' z = if z = m then y else I z) : KAt w5 (w.setCell ⟨gi, m, none⟩ (.int .i64 (y : Int))) B gi M I' v F where
  i := own_int h.i hm fun z hz => by
    show ((I' z : Nat) : Int) = _
    rw [hI z hz]
    split <;> rfl
  f := own_far h.f (a := ⟨gi, m, none⟩) h.lt _
  b := h.b.setCell (p := ⟨gi, m, none⟩) (h.i.lt gi rfl).1 _
  lt := h.lt
  le := by simp; exact h.le
theorem KAt.below (h : KAt w5 w B gi M I v F) (hb : RowKit.Below w.heap.size w w') : KAt w5 w' B gi M I v F :=
  ⟨own_only h.i (Only.of_below (S := []) hb) (by simp), own_only h.f (Only.of_below (S := []) hb) (by simp), h.b.trans (hb.mono h.b.size), h.lt, by have := h.le; have := hb.size; omega⟩
theorem KAt.app {v' : Value} {n : Nat} {row : Option Nat} (h : KAt w5 w B gi M I v F) (hown : w'.ownsRow B 3 1 v' (F.length + 1) (natCells F ++ [.int .i64 (n : Int)])) (hg : w.grownBy w' row) (hr : ∀ k, row = some k → B ≤ k) : KAt w5 w' B gi M I v' (F ++ [n]) where
  i := own_only h.i (only_grown hg) fun g hg2 hm => by
    obtain ⟨k, hk, e⟩ : ∃ k, row = some k ∧ k = g := by
      cases row with
      | none => simp at hm
      | some k => simp at hm; exact ⟨k, rfl, hm.symm⟩
    have := hr k hk
    have h2 : gi = g := by simpa [Value.ownBlock] using hg2
    have := h.lt
    omega
  f := by
    rw [natCells_snoc, List.length_append]
    exact hown
  b := h.b.grown hg h.b.size fun k hk => by
    have := hr k hk
    have := h.lt
    have := (h.i.lt gi rfl).1
    omega
  lt := h.lt
  le := by have := h.le; have := hg.size; omega
theorem KAt.pop {g c : Nat} {f : List Nat} {n : Nat} (h : KAt w5 w B gi M I (.slice (some ⟨g, 0, none⟩) (f.length + 1) c) (f ++ [n])) : KAt w5 w B gi M I (.slice (some ⟨g, 0, none⟩) f.length c) f where
  i := h.i
  f := by
    refine ownsRow_pop (last := [.int .i64 (n : Int)]) (by rw [natCells_len]; omega) ?_
    have := h.f
    rw [natCells_snoc, List.length_append] at this
    exact this
  b := h.b
  lt := h.lt
  le := h.le
theorem KAt.same (h : KAt w5 w B gi M I v F) (hI : ∀ z, z < M → I' z = I z) : KAt w5 w B gi M I' v F := ⟨by
  rw [intC_congr (g := fun m => (I m : Int)) fun z hz => by show ((I' z : Nat) : Int) = _; rw [hI z hz]]
  exact h.i, h.f, h.b, h.lt, h.le⟩
end
theorem heap_set4 (w : World) (g : Nat) (v0 v1 v2 v3 : Value) (k : Nat) (hk : k ≠ g) : ((((w.setCell ⟨g, 0, none⟩ v0).setCell ⟨g, 1, none⟩ v1).setCell ⟨g, 2, none⟩ v2).setCell ⟨g, 3, none⟩ v3).heap[k]? = w.heap[k]? :=
  (Below.heap_setCell _ ⟨g, 3, none⟩ v3 k hk).trans ((Below.heap_setCell _ ⟨g, 2, none⟩ v2 k hk).trans ((Below.heap_setCell _ ⟨g, 1, none⟩ v1 k hk).trans (Below.heap_setCell _ ⟨g, 0, none⟩ v0 k hk)))
/-- the least automaton in the function's own cell, and its useful states -/
theorem refD_of {w : World} {g : Nat} {E : DfaI} {S M : Nat} {ef eb en : Option Addr} {c1 c2 c3 : Nat} (hb : Blk w g 26 #[.int .i64 (S : Int), .slice ef M c1, .slice eb 256 c2, .slice en M c3]) (h : DfaAt w (.agg #[.int .i64 (S : Int), .slice ef M c1, .slice eb 256 c2, .slice en M c3]) E) :
    RefD w g E S M ef eb en c1 c2 c3 := ⟨hb, h.rcut.1, h.rcut.2.1, h.rcut.2.2⟩
theorem finiteD_iff {D : DfaI} (hR : RightD D) : finiteD D = true ↔ FinL (langD (ofD D)) := by
  unfold finiteD
  rw [rightD_iff.2 hR, Bool.not_true, Bool.false_or, refFin_iff hR.ok hR.blk.1.blk]
  constructor
  · rintro ⟨n, h⟩
    exact ⟨n, fun u hu hL => h u hu (by rw [ofD_lang hR hu] at hL; exact hL)⟩
  · rintro ⟨n, h⟩
    exact ⟨n, fun u hu hL => h u hu (by rw [ofD_lang hR hu]; exact hL)⟩
set_option maxHeartbeats 8000000 in
set_option maxRecDepth 1000000 in
theorem finite_any (v : Value) (D : DfaI) (w : World) (h : DfaAt w v D) (hD : D.In) (hT : Pow10 w) : Calls Tryz.prog 11 #[v] w fun e w' => e = .returned (.bool (finiteD D)) ∧ Below w.heap.size w w' := by
  cases hr : rightD D with
  | false =>
    obtain ⟨S, af, ab, an, F, B, M, cf, cb, cn, hS, hF, hB, hM, rfl⟩ := h.form
    have hal := (Below.refl w.heap.size w).alloc (Nat.le_refl _) (.cells #[.int .i64 S, .slice af F cf, .slice ab B cb, .slice an M cn] 26)
    have hq := Blk.new w 26 #[.int .i64 S, .slice af F cf, .slice ab B cb, .slice an M cn]
    obtain ⟨⟨y0, y1, y2, y3⟩, -⟩ := hq.c4
    have hcall := dright_any _ D _ (h.below hal) hD
    have H := Lib.hid hal
    have hre : finiteD D = true := by unfold finiteD; rw [hr]; rfl
    rw [hr] at hcall
    rw [hre]
    clear h hal hq hr hre hS hF hB hM
    go_enter Tryz.func11, Tryz.ntmps11
    go_wp2_with fail
    refine hcall.mono ?_
    rintro e w1 ⟨rfl, b1⟩
    clear y0 y1 y2 y3
    go_wp2_with fail
    go_ret
    exact ⟨rfl, H.out.trans (b1.mono (by simp))⟩
  | true =>
    have hR := rightD_iff.1 hr
    obtain ⟨S, af, ab, an, F, B, M, cf, cb, cn, hS, hF, hB, hM, rfl⟩ := h.form
    have hal := (Below.refl w.heap.size w).alloc (Nat.le_refl _) (.cells #[.int .i64 S, .slice af F cf, .slice ab B cb, .slice an M cn] 26)
    have hq := Blk.new w 26 #[.int .i64 S, .slice af F cf, .slice ab B cb, .slice an M cn]
    obtain ⟨⟨y0, y1, y2, y3⟩, -⟩ := hq.c4
    have hcall := dright_any _ D _ (h.below hal) hD
    have hz1 : (w.alloc (.cells #[.int .i64 S, .slice af F cf, .slice ab B cb, .slice an M cn] 26)).heap.size = w.heap.size + 1 := by simp
    have H := Lib.hid (And.intro hal (And.intro (h.below hal) (And.intro hq (And.intro (hT.below hal (Nat.le_refl _)) (And.intro hR hD)))))
    rw [hr] at hcall
    clear h hal hq hr hR hS hF hB hM hT
    go_enter Tryz.func11, Tryz.ntmps11
    go_wp2_with fail
    generalize w.alloc (.cells #[.int .i64 S, .slice af F cf, .slice ab B cb, .slice an M cn] 26) = W at *
    refine hcall.mono ?_
    rintro e w1 ⟨rfl, b1⟩
    have hzz := b1.size
    have hq1 := H.out.2.2.1.below b1 (by omega)
    have hT1 := H.out.2.2.2.1.below b1 (Nat.le_refl _)
    have hof := of_any2 _ D w1 (H.out.2.1.below b1) hD hT1
    have hbw := H.out.1.trans (b1.mono H.out.1.size)
    clear y0 y1 y2 y3
    obtain ⟨⟨y0, y1, y2, y3⟩, -⟩ := hq1.c4
    have H1 := Lib.hid (And.intro hbw hq1)
    clear b1 hT1 hbw hcall hq1
    go_wp2_with fail
    refine hof.mono ?_
    rintro e w2 ⟨rv, rfl, -, b2, hkeep⟩
    have hE := ofD_right H.out.2.2.2.2.1
    obtain ⟨S', M', ef, eb, en, ce, ce2, ce3, hS', hM', rfl, -⟩ := RefD.mk_ (hkeep w2 fun _ _ => rfl) hE
    clear y0 y1 y2 y3
    have hq2 := H1.out.2.below b2 (by omega)
    obtain ⟨⟨y0, y1, y2, y3⟩, f0, f1, f2, f3⟩ := hq2.c4
    have hb4 := blk_set4 hq2 (.int .i64 (S' : Int)) (.slice ef M' ce) (.slice eb 256 ce2) (.slice en M' ce3)
    have ho4 := only_set4 w2 w.heap.size (.int .i64 (S' : Int)) (.slice ef M' ce) (.slice eb 256 ce2) (.slice en M' ce3)
    obtain ⟨⟨z0, z1, z2, z3⟩, -⟩ := hb4.c4
    have hh4 := heap_set4 w2 w.heap.size (.int .i64 (S' : Int)) (.slice ef M' ce) (.slice eb 256 ce2) (.slice en M' ce3)
    have hfin := finiteD_iff H.out.2.2.2.2.1
    have hall := fun p (hp : p < (ofD D).aut.many) => least_all H.out.2.2.2.2.1 hp
    go_wp2_with fail
    generalize (((w2.setCell ⟨w.heap.size, 0, none⟩ (.int .i64 (S' : Int))).setCell ⟨w.heap.size, 1, none⟩ (.slice ef M' ce)).setCell ⟨w.heap.size, 2, none⟩ (.slice eb 256 ce2)).setCell ⟨w.heap.size, 3, none⟩ (.slice en M' ce3) = w3 at *
    have hE3 := hkeep w3 fun k hk => hh4 k (by omega)
    have hbw3 := H1.out.1.trans ((b2.mono H1.out.1.size).trans (ho4.below (by have := H1.out.1.size; have := b2.size; omega) (by simp)))
    generalize ofD D = E at *
    have hus := useful_any _ E w3 hE3 hE
    have hd3 := refD_of hb4 hE3
    have hM4 : M' ≤ 4096 := by have := hE.m2; omega
    have hmany : E.aut.many = M' := by show E.nx.length = M'; rw [E.nx_len]; exact hM'
    have hw256 := hE.wide_le
    obtain ⟨X, hX⟩ : ∃ X, E.aut.wide = X := ⟨_, rfl⟩
    rw [hX] at hw256
    rw [hM'] at hus
    have HP := Lib.hid (And.intro hE (And.intro hM' (And.intro hmany (And.intro hX (And.intro hfin hall)))))
    have H3 := Lib.hid (And.intro hbw3 hd3)
    clear hh4 hfin hall hE3 hbw3 hd3 hE hM' hmany hX hb4 ho4 hq2 y0 y1 y2 y3 f0 f1 f2 f3 hkeep b2 hof hS'
    refine hus.mono ?_
    rintro e w4 ⟨gu, cu, rfl, hu, b4⟩
    have hd4 := H3.out.2.below b4
    have hbw4 := H3.out.1.trans (b4.mono H3.out.1.size)
    clear z0 z1 z2 z3 hus
    obtain ⟨⟨z0, z1, z2, z3⟩, -⟩ := hd4.q.c4
    have H4 := Lib.hid (And.intro hbw4 (And.intro hd4 hu))
    have hgu := (hu.lt gu rfl).2
    clear hd4 hbw4 hu b4
    obtain ⟨i0, hi0, hz00, hz01, hz02⟩ := info_parts infoInt
    go_wp2_with (at_make; refine wpList_make_full _ rfl _ _ 23 rfl w4.heap.size 3 i0 (.int .i64 0) 1 Tryz.underlying23 hi0 hz00 hz01 .i64 .i64 M' M' M' rfl rfl rfl rfl (by rw [hz02]; omega) (by unfold maxLen; omega) (by omega) ?_; intro w5 hown5 hgrow5; rw [intC_zero] at hown5; have b5 : RowKit.Below w4.heap.size w4 w5 := (Below.refl _ _).grown hgrow5 (Nat.le_refl _) (fun k e => by cases e); obtain ⟨⟨r0, r1, r2, r3⟩, -⟩ := (H4.out.2.1.below b5).q.c4; clear z0 z1 z2 z3)
    obtain ⟨gi, hgi⟩ : ∃ gi, w4.heap.size = gi := ⟨_, rfl⟩
    have hI0 : intC (fun _ => 0) M' = intC (fun m => ((intoP E.aut (useB E.aut) 0 0 m : Nat) : Int)) M' := intC_congr fun z _ => by rw [intoP_zero]; rfl
    rw [hI0] at hown5
    have hk0 : KAt w4 w5 w5.heap.size gi M' (intoP E.aut (useB E.aut) 0 0) (.slice none 0 0) [] :=
      ⟨by rw [← hgi]; exact hown5, World.ownsRow_nil _ _ _ _, b5, by have := (hown5.lt w4.heap.size rfl).2; omega, Nat.le_refl _⟩
    rw [hgi]
    have HK := Lib.hid hk0
    have HG := Lib.hid hgi
    clear hk0 hI0 hown5 hgrow5 b5 r0 r1 r2 r3 hgi
    go_loopw [29] (fun c wr => ∃ n : Nat, c = .int .i64 n ∧ n ≤ M' ∧ KAt w4 wr w5.heap.size gi M' (intoP E.aut (useB E.aut) n 0) (.slice none 0 0) []) (fun c _ => M' - (intOf c).toNat)
    case atStart => exact ⟨0, rfl, by omega, HK.out⟩
    case round =>
      obtain ⟨n, rfl, hn, hk⟩ := hrel
      by_cases hln : n < M'
      · have k1 : decide (n < M') = true := decide_eq_true hln
        have hd := H4.out.2.1.below hk.b
        obtain ⟨⟨y0, y1, y2, y3⟩, -⟩ := hd.q.c4
        obtain ⟨bn, on, bk, ok, c, he, m0, m1⟩ := H4.out.2.1.row HP.out.1 HP.out.2.1 hln
        subst he
        rw [HP.out.2.2.2.1] at m0 m1
        have m0w := (hk.b.cell (World.block_lt_of_cell? w4 _ m0)).trans m0
        have u0 := H4.out.2.2.cellAt n (by omega)
        rw [boolC_at hln] at u0
        obtain ⟨U, hU⟩ : ∃ U, useB E.aut n = U := ⟨_, rfl⟩
        rw [hU] at u0
        have HM := Lib.hid (And.intro m1 (And.intro u0 hU))
        have HK1 := Lib.hid hk
        clear hd m0 m1 hk u0 hU
        go_wp2_with fail
        clear y0 y1 y2 y3 m0w
        go_loopw [36] (fun c wr => ∃ j : Nat, c = .int .i64 j ∧ j ≤ X ∧ KAt w4 wr w5.heap.size gi M' (intoP E.aut (useB E.aut) n j) (.slice none 0 0) []) (fun c _ => X - (intOf c).toNat)
        case atStart => exact ⟨0, rfl, by omega, HK1.out⟩
        case round =>
          obtain ⟨j, rfl, hj, hk⟩ := hrel
          by_cases hlj : j < X
          · have k2 : decide (j < X) = true := decide_eq_true hlj
            obtain ⟨m2, hx⟩ := HM.out.1 j hlj
            have m2w := (hk.b.cell (World.block_lt_of_cell? w4 _ m2)).trans m2
            have u0w := (hk.b.cell (World.block_lt_of_cell? w4 _ HM.out.2.1)).trans HM.out.2.1
            obtain ⟨x, hxe⟩ : ∃ x, E.aut.nx n j = x := ⟨_, rfl⟩
            rw [hxe] at m2w hx
            have c5 := hk.i.cellAt x (by omega)
            have d5 := hk.i.frozenAt x
            rw [intC_at hx] at c5
            obtain ⟨Y, hY⟩ : ∃ Y, intoP E.aut (useB E.aut) n j x = Y := ⟨_, rfl⟩
            rw [hY] at c5
            have hYl : Y ≤ 1100000 := by
              have h1 := intoP_le E.aut (useB E.aut) n j x
              rw [hY, HP.out.2.2.2.1] at h1
              have h2 : n * X ≤ 4096 * 256 := Nat.mul_le_mul (by omega) hw256
              omega
            cases U with
            | true =>
              have hput := hk.put (I' := intoP E.aut (useB E.aut) n (j + 1)) (y := Y + 1) hx fun z _ => by
                rw [intoP_step HM.out.2.2, hxe]
                by_cases e : z = x
                · rw [if_pos e, if_pos e, e, hY]
                · rw [if_neg e, if_neg e]
              have HZ := Lib.hid hput
              clear hk hput m2 hxe hY
              go_wp2_with fail
              go_roundw
              case rel => exact ⟨j + 1, by go_num, by omega, HZ.out⟩
              case measure => simp [intOf]; omega
            | false =>
              have HZ := Lib.hid (hk.same (I' := intoP E.aut (useB E.aut) n (j + 1)) fun z _ => intoP_no HM.out.2.2 j z)
              clear hk m2 hxe hY c5 d5
              go_wp2_with fail
              go_roundw
              case rel => exact ⟨j + 1, by go_num, by omega, HZ.out⟩
              case measure => simp [intOf]; omega
          · obtain rfl : X = j := by omega
            have k2 : decide (X < X) = false := decide_eq_false (by omega)
            have HZ := Lib.hid (hk.same (I' := intoP E.aut (useB E.aut) (n + 1) 0) fun z _ => by
              have := intoP_row E.aut (useB E.aut) n z
              rw [HP.out.2.2.2.1] at this
              exact this.symm)
            clear hk
            go_wp2_with fail
            go_roundw
            case rel => exact ⟨n + 1, by go_num, by omega, HZ.out⟩
            case measure => simp [intOf]; omega
      · obtain rfl : M' = n := by omega
        have k1 : decide (M' < M') = false := decide_eq_false (by omega)
        obtain ⟨I0, hI0⟩ : ∃ I0, intoP E.aut (useB E.aut) M' 0 = I0 := ⟨_, rfl⟩
        have hdeg : ∀ m, m < E.aut.many → I0 m = degK E.aut (useB E.aut) [] m (List.range E.aut.many) := fun m _ => by
          rw [← hI0, HP.out.2.2.1.symm, intoP_end]
        have hI0l : ∀ m, I0 m ≤ 1100000 := fun m => by
          have h1 := intoP_le E.aut (useB E.aut) M' 0 m
          rw [hI0, HP.out.2.2.2.1] at h1
          have h2 : M' * X ≤ 4096 * 256 := Nat.mul_le_mul hM4 hw256
          omega
        rw [hI0] at hk
        have hd := H4.out.2.1.below hk.b
        obtain ⟨⟨y0, y1, y2, y3⟩, -⟩ := hd.q.c4
        have HK2 := Lib.hid hk
        have HI := Lib.hid (And.intro hdeg hI0l)
        clear hk hI0 hd hdeg hI0l
        go_wp2_with fail
        clear y0 y1 y2 y3
        go_loopw [9, 10, 55] (fun v9 v10 c wr => ∃ n : Nat, c = .int .i64 n ∧ n ≤ M' ∧ v9 = .int .i64 (cntB (useB E.aut) n : Nat) ∧ KAt w4 wr w5.heap.size gi M' I0 v10 (freeL (useB E.aut) I0 n)) (fun _ _ c _ => M' - (intOf c).toNat)
        case atStart => exact ⟨0, rfl, by omega, rfl, HK2.out⟩
        case round =>
          obtain ⟨n, rfl, hn, rfl, hk⟩ := hrel
          obtain ⟨af9, cf9, rfl⟩ := own_shape hk.f
          by_cases hln : n < M'
          · have k2 : decide (n < M') = true := decide_eq_true hln
            have u0 := H4.out.2.2.cellAt n (by omega)
            rw [boolC_at hln] at u0
            have u0w := (hk.b.cell (World.block_lt_of_cell? w4 _ u0)).trans u0
            obtain ⟨U, hU⟩ : ∃ U, useB E.aut n = U := ⟨_, rfl⟩
            rw [hU] at u0w
            have c5 := hk.i.cellAt n (by omega)
            rw [intC_at hln] at c5
            have hfs := freeL_succ (useB E.aut) I0 n
            have hcs := cntB_succ (useB E.aut) n
            have hcl := cntB_le (useB E.aut) n
            have hfl := freeL_le (useB E.aut) I0 n
            rw [hU] at hfs hcs
            obtain ⟨Y, hY⟩ : ∃ Y, I0 n = Y := ⟨_, rfl⟩
            rw [hY] at c5 hfs
            obtain ⟨fl, hfl2⟩ : ∃ fl, freeL (useB E.aut) I0 n = fl := ⟨_, rfl⟩
            rw [hfl2] at hfs hfl hk ⊢
            obtain ⟨q, hq⟩ : ∃ q, cntB (useB E.aut) n = q := ⟨_, rfl⟩
            rw [hq] at hcs hcl ⊢
            cases U with
            | false =>
              have HC := Lib.hid (And.intro (show cntB (useB E.aut) (n + 1) = q by rw [hcs, if_neg (by decide)]) (And.intro (show freeL (useB E.aut) I0 (n + 1) = fl by rw [hfs]; rfl) hk))
              clear u0 c5 hfs hcs hk hU hY hfl2 hq
              go_wp2_with fail
              go_roundw
              case rel => exact ⟨n + 1, by go_num, by omega, by rw [HC.out.1], by rw [HC.out.2.1]; exact HC.out.2.2⟩
              case measure => simp [intOf]; omega
            | true =>
              have hc1 : cntB (useB E.aut) (n + 1) = q + 1 := by rw [hcs, if_pos rfl]
              by_cases hY0 : Y = 0
              · have k3 : decide ((Y : Int) = 0) = true := decide_eq_true (by omega)
                have hf1 : freeL (useB E.aut) I0 (n + 1) = fl ++ [n] := by rw [hfs, if_pos (by simp [hY0])]
                have hown1 := hk.f.alloc (.cells #[.int .i64 (n : Int)] 3)
                have hone := one_at (w := wr) (u := .int .i64 (n : Int)) (t := 3)
                have hal := (Below.refl wr.heap.size wr).alloc (Nat.le_refl _) (.cells #[.int .i64 (n : Int)] 3)
                have hka := hk.below hal
                have hzB := hka.le
                have HC := Lib.hid (And.intro hc1 (And.intro hf1 hka))
                subst hY0
                have hzl : w5.heap.size ≤ wr.heap.size := hk.le
                clear u0 hfs hcs hk hU hY hfl2 hq hc1 hf1 hal hka
                go_wp2_with (at_builtin; refine wpList_append_own _ rfl _ _ 23 rfl w5.heap.size 3 i0 (.int .i64 0) 1 8 Tryz.underlying23 hi0 hz00 hz01 hz02 rfl (by decide) _ _ _ rfl hown1 ⟨wr.heap.size, 0, none⟩ 1 1 [.int .i64 (n : Int)] rfl rfl hone (fun u hu => by simp at hu; subst hu; rfl) (by unfold maxLen; omega) (by omega) (by simp; omega) ?_; intro v8 w8 hown8 hgrow8 _)
                have happ := HC.out.2.2.app hown8 hgrow8 (fun k hk => (hown1.lt k hk).1)
                have HZ := Lib.hid happ
                clear happ hown8 hgrow8 hown1
                go_roundw
                case rel => exact ⟨n + 1, by go_num, by omega, by rw [HC.out.1]; go_num, by rw [HC.out.2.1]; exact HZ.out⟩
                case measure => simp [intOf]; omega
              · have k3 : decide ((Y : Int) = 0) = false := decide_eq_false (by omega)
                have hf1 : freeL (useB E.aut) I0 (n + 1) = fl := by rw [hfs, if_neg (by simp [hY0])]
                have HC := Lib.hid (And.intro hc1 (And.intro hf1 hk))
                clear u0 hfs hcs hk hU hY hfl2 hq hc1 hf1
                go_wp2_with fail
                go_roundw
                case rel => exact ⟨n + 1, by go_num, by omega, by rw [HC.out.1]; go_num, by rw [HC.out.2.1]; exact HC.out.2.2⟩
                case measure => simp [intOf]; omega
          · obtain rfl : M' = n := by omega
            have k2 : decide (M' < M') = false := decide_eq_false (by omega)
            obtain ⟨F0, hF0⟩ : ∃ F0, freeL (useB E.aut) I0 M' = F0 := ⟨_, rfl⟩
            obtain ⟨Q, hQ⟩ : ∃ Q, cntB (useB E.aut) M' = Q := ⟨_, rfl⟩
            have hki : KI E.aut (useB E.aut) I0 F0 [] [] := by
              have := KI.start (d := E.aut) (U := useB E.aut) HI.out.1
              rw [HP.out.2.2.1] at this
              rw [← hF0]
              exact this
            have hQl := cntB_le (useB E.aut) M'
            have hFl := freeL_le (useB E.aut) I0 M'
            rw [hQ] at hQl ⊢
            rw [hF0] at hk hFl ⊢
            have HQ := Lib.hid hQ
            have HK3 := Lib.hid (And.intro hki hk)
            clear hki hk hQ hF0
            go_wp2_with fail
            go_loopg [9, 10] M' (fun gk v9 v10 wr => ∃ (F R : List Nat) (I : Nat → Nat), gk + R.length = M' ∧ Hid (KI E.aut (useB E.aut) I F R []) ∧ v9 = .int .i64 ((Q : Int) - R.length) ∧ F.length ≤ M' ∧ KAt w4 wr w5.heap.size gi M' I v10 F)
            case atStart => exact ⟨F0, [], I0, by simp, Lib.hid HK3.out.1, by simp, hFl, HK3.out.2⟩
            case round =>
              obtain ⟨F, R, I, hgk, hKI, rfl, hFl2, hk⟩ := hrel
              obtain ⟨aF, cF, rfl⟩ := own_shape hk.f
              rcases List.eq_nil_or_concat F with rfl | ⟨f, n, hFe⟩
              · have hiff := kahn_iff HP.out.1.ok HP.out.1.blk.1.blk (U := useB E.aut) (fun p hp => useB_iff) HP.out.2.2.2.2.2 hKI.out
                have hQR : Q = R.length ↔ finiteD D = true := by
                  rw [HP.out.2.2.2.2.1, ← HQ.out, cntB, ← HP.out.2.2.1]
                  exact hiff
                have hbb := H4.out.1.trans (hk.b.mono H4.out.1.size)
                have HZ := Lib.hid (And.intro hQR hbb)
                simp only [List.length_nil]
                clear hk hiff hQR hbb hKI
                go_wp2_with fail
                go_ret
                refine ⟨ret_bool ?_, HZ.out.2⟩
                apply Bool.eq_iff_iff.2
                rw [← HZ.out.1]
                simp
                omega
              · rw [List.concat_eq_append] at hFe
                subst hFe
                have e : (f ++ [n]).length = f.length + 1 := by simp
                rw [e] at hk hFl2 ⊢
                have hkf := hk.f
                rw [e] at hkf
                obtain ⟨gF, cF', hce, hgB, hgl⟩ := hkf.form (by omega)
                obtain ⟨rfl, rfl⟩ : aF = some ⟨gF, 0, none⟩ ∧ cF = cF' := by simpa using hce
                have c0 := hkf.cellAt f.length (by omega)
                rw [natCells_at (l := f ++ [n]) (j := f.length) (x := n) (by simp)] at c0
                have hcap := own_cap hkf
                have hcap2 := hcap.2
                have hcap3 := hcap.1
                have hkp := hKI.out.pop
                have hnM : n < M' := by rw [← HP.out.2.2.1]; exact (hkp.use n (by simp)).1
                have hlen := hkp.len
                rw [HP.out.2.2.1, List.length_cons] at hlen
                have hpop := hk.pop
                have hd := H4.out.2.1.below hk.b
                obtain ⟨⟨y0, y1, y2, y3⟩, -⟩ := hd.q.c4
                obtain ⟨bn, on, bk, ok, c, he, m0, m1⟩ := H4.out.2.1.row HP.out.1 HP.out.2.1 hnM
                subst he
                rw [HP.out.2.2.2.1] at m0 m1
                have m0w := (hk.b.cell (World.block_lt_of_cell? w4 _ m0)).trans m0
                have q1 : decide (0 < f.length + 1) = true := decide_eq_true (by omega)
                have HM := Lib.hid (And.intro m1 (And.intro hkp hpop))
                clear hd m0 m1 hkp hpop hk hkf hce e hcap hKI
                go_wp2_with fail
                clear y0 y1 y2 y3 m0w c0
                go_loopw [10, 96] (fun v10 c wr => ∃ (j : Nat) (G : List Nat) (J : Nat → Nat), c = .int .i64 j ∧ j ≤ X ∧ G.length ≤ M' ∧ Hid (KI E.aut (useB E.aut) J G (n :: R) ((rowKa E.aut n).drop j)) ∧ KAt w4 wr w5.heap.size gi M' J v10 G) (fun _ c _ => X - (intOf c).toNat)
                case atStart => exact ⟨0, f, I, rfl, by omega, by omega, Lib.hid HM.out.2.1, HM.out.2.2⟩
                case round =>
                  obtain ⟨j, G, J, rfl, hj, hGl, hKI, hk⟩ := hrel
                  obtain ⟨aG, cG, rfl⟩ := own_shape hk.f
                  by_cases hlj : j < X
                  · have k2 : decide (j < X) = true := decide_eq_true hlj
                    obtain ⟨m2, hx⟩ := HM.out.1 j hlj
                    have m2w := (hk.b.cell (World.block_lt_of_cell? w4 _ m2)).trans m2
                    have hdrop : (rowKa E.aut n).drop j = E.aut.nx n j :: (rowKa E.aut n).drop (j + 1) := by
                      have hl : j < (rowKa E.aut n).length := by simp [rowKa, HP.out.2.2.2.1]; exact hlj
                      rw [List.drop_eq_getElem_cons hl]
                      simp [rowKa]
                    obtain ⟨x, hxe⟩ : ∃ x, E.aut.nx n j = x := ⟨_, rfl⟩
                    rw [hxe] at m2w hx hdrop
                    have hki := hKI.out
                    rw [hdrop] at hki
                    obtain ⟨hpos, hst⟩ := hki.step (into' := fun z => if z = x then J x - 1 else J z) (by rw [HP.out.2.2.1]; exact hx) (fun z => rfl)
                    have hJ := hki.cnt x (by rw [HP.out.2.2.1]; exact hx)
                    have hdl := degK_le (d := E.aut) (U := useB E.aut) (R := n :: R) (m := x) (l := List.range E.aut.many)
                    have hcl : (x :: (rowKa E.aut n).drop (j + 1)).count x ≤ X := by
                      refine Nat.le_trans List.count_le_length ?_
                      rw [← hdrop, List.length_drop]
                      simp [rowKa, HP.out.2.2.2.1]
                    rw [List.length_range, HP.out.2.2.1, HP.out.2.2.2.1] at hdl
                    rw [HP.out.2.2.1] at hJ
                    have h2 : M' * X ≤ 4096 * 256 := Nat.mul_le_mul hM4 hw256
                    obtain ⟨Z, hZ⟩ : ∃ Z, J x = Z + 1 := ⟨J x - 1, by omega⟩
                    have hZl : Z ≤ 1100000 := by omega
                    simp only [hZ, Nat.add_sub_cancel, if_true] at hst
                    have c5 := hk.i.cellAt x (by omega)
                    have d5 := hk.i.frozenAt x
                    rw [intC_at hx, hZ] at c5
                    have hput := hk.put (I' := fun z => if z = x then Z else J z) (y := Z) hx fun z _ => rfl
                    have s5 := hput.i.cellAt x (by omega)
                    rw [intC_at hx, if_pos rfl] at s5
                    have u0 := H4.out.2.2.cellAt x (by omega)
                    rw [boolC_at hx] at u0
                    have u0w := (hk.b.cell (World.block_lt_of_cell? w4 _ u0)).trans u0
                    obtain ⟨U, hU⟩ : ∃ U, useB E.aut x = U := ⟨_, rfl⟩
                    rw [hU] at u0w hst
                    have ne1 : ¬ gi = gu := by have := HG.out; omega
                    have ne2 : ¬ gu = gi := by have := HG.out; omega
                    have hGl2 := hst.len
                    clear m2 hki hdrop hpos hJ hdl hcl h2 hZ u0 hU hxe hk
                    by_cases hZ0 : Z = 0
                    · subst hZ0
                      cases U with
                      | true =>
                        have hif : (true && decide (0 = 0)) = true := by simp
                        rw [if_pos hif] at hst hGl2
                        simp only [List.length_append, List.length_singleton, HP.out.2.2.1] at hGl2
                        have hown1 := hput.f.alloc (.cells #[.int .i64 (x : Int)] 3)
                        have hsz9 : (wr.setCell ⟨gi, x, none⟩ (.int .i64 0)).heap.size = wr.heap.size := by simp
                        have hone := one_at (w := wr.setCell ⟨gi, x, none⟩ (.int .i64 0)) (u := .int .i64 (x : Int)) (t := 3)
                        rw [hsz9] at hone
                        clear hsz9
                        have hal := (Below.refl (wr.setCell ⟨gi, x, none⟩ (.int .i64 0)).heap.size (wr.setCell ⟨gi, x, none⟩ (.int .i64 0))).alloc (Nat.le_refl _) (.cells #[.int .i64 (x : Int)] 3)
                        have hka := hput.below hal
                        have hzB := hka.le
                        have hzl : w5.heap.size ≤ wr.heap.size := by have := hput.le; simpa using this
                        have HC := Lib.hid (And.intro hst hka)
                        clear hst hka hput hal hif
                        go_wp2_with (at_builtin; refine wpList_append_own _ rfl _ _ 23 rfl w5.heap.size 3 i0 (.int .i64 0) 1 8 Tryz.underlying23 hi0 hz00 hz01 hz02 rfl (by decide) _ _ _ rfl hown1 ⟨wr.heap.size, 0, none⟩ 1 1 [.int .i64 (x : Int)] rfl rfl hone (fun u hu => by simp at hu; subst hu; rfl) (by unfold maxLen; omega) (by omega) (by simp; omega) ?_; intro v8 w8 hown8 hgrow8 _)
                        have happ := HC.out.2.app hown8 hgrow8 (fun k hk => (hown1.lt k hk).1)
                        have HZ := Lib.hid happ
                        clear happ hown8 hgrow8 hown1
                        go_roundw
                        case rel => exact ⟨j + 1, G ++ [x], _, by go_num, by omega, by simp; omega, Lib.hid HC.out.1, HZ.out⟩
                        case measure => simp [intOf]; omega
                      | false =>
                        have hif : ¬ (false && decide (0 = 0)) = true := by simp
                        rw [if_neg hif] at hst
                        have HC := Lib.hid (And.intro hst hput)
                        clear hst hput hif
                        go_wp2_with fail
                        go_roundw
                        case rel => exact ⟨j + 1, G, _, by go_num, by omega, by omega, Lib.hid HC.out.1, HC.out.2⟩
                        case measure => simp [intOf]; omega
                    · have k3 : decide ((Z : Int) = 0) = false := decide_eq_false (by omega)
                      have hif : ¬ (U && decide (Z = 0)) = true := by simp [hZ0]
                      rw [if_neg hif] at hst
                      have HC := Lib.hid (And.intro hst hput)
                      clear hst hput hif
                      go_wp2_with fail
                      go_roundw
                      case rel => exact ⟨j + 1, G, _, by go_num, by omega, by omega, Lib.hid HC.out.1, HC.out.2⟩
                      case measure => simp [intOf]; omega
                  · obtain rfl : X = j := by omega
                    have k2 : decide (X < X) = false := decide_eq_false (by omega)
                    have hnil : (rowKa E.aut n).drop X = [] := List.drop_eq_nil_of_le (by simp [rowKa, HP.out.2.2.2.1])
                    have hki := hKI.out
                    rw [hnil] at hki
                    have HC := Lib.hid (And.intro hki hk)
                    clear hki hk hnil
                    go_wp2_with fail
                    go_roundg (gk - 1)
                    case rel => exact ⟨G, n :: R, J, by simp; omega, Lib.hid HC.out.1, by simp; omega, hGl, HC.out.2⟩
                    case measure => omega
end Go.Proofs.YtmmlakheimfijaaGreatDoor
