/-
  The walk of least.Reached. Conditions: the automaton lies in memory.
-/
import Derived.Test.YtgkpgjbgcimijaaDoorAuRight
import Derived.Test.YtgkpgjbgcimijaaDoorAuMet
import Derived.Test.YtgkpgjbgcimijaaDoorAuSame
import Derived.Test.YtgkpgjbgcimijaaDoorTail
import Derived.Lib.OwnBridge
namespace Go.Proofs.YtgkpgjbgcimijaaDoor
set_option linter.unusedVariables false
set_option linter.unusedSimpArgs false
open Go.RowKit Go.Maps Go.Sort Go.ChangeShapes Go.WideShapes

/-! plain words -/
open Classical in
/-- the reached states, sorted -/
noncomputable def reachL (d : Aut) : List Nat := (List.range d.many).filter fun p => decide (Reach d p)
theorem reachL_mem {d : Aut} (hd : d.Ok) {p : Nat} : p ∈ reachL d ↔ Reach d p := by
  unfold reachL
  simp only [List.mem_filter, List.mem_range, decide_eq_true_eq]
  exact ⟨fun h => h.2, fun h => ⟨h.lt hd, h⟩⟩
theorem reachL_len (d : Aut) : (reachL d).length ≤ d.many := Nat.le_trans (List.length_filter_le _ _) (by simp)
theorem reachL_sorted (d : Aut) : (reachL d).Pairwise (· < ·) := List.Pairwise.filter _ List.pairwise_lt_range
theorem reachL_nodup (d : Aut) : (reachL d).Nodup := (reachL_sorted d).imp fun h => Nat.ne_of_lt h
noncomputable def metD (d : Aut) : List Nat := metF d.nx d.wide fuelL 0 [d.start]
theorem metF_addR (f : Nat → Nat → Nat) (wide n i : Nat) (o : List Nat) : metF f wide n i o = bfs (addR fun a b => decide (a = b)) (fun n => (List.range wide).map (f n)) n i o := by
  unfold metF; rw [addN_eq]
theorem metD_in {d : Aut} : ∀ p ∈ metD d, Reach d p := by
  unfold metD
  rw [metF_addR]
  refine bfs_in (S := Reach d) (fun x hx y hy => ?_) _ _ _ fun y hy => ?_
  · obtain ⟨k, hk, rfl⟩ := List.mem_map.1 hy
    exact hx.nx (by simpa using hk)
  · obtain rfl := List.mem_singleton.1 hy
    exact .start d
theorem metD_nodup (d : Aut) : (metD d).Nodup := by
  unfold metD
  rw [metF_addR, List.nodup_iff_pairwise_ne]
  refine (bfs_apart _ _ _ _ (List.pairwise_singleton _ _)).imp fun {a b} h e => ?_
  simp [e] at h
theorem metD_len {d : Aut} (hd : d.Ok) : (metD d).length ≤ d.many := by
  have := nodup_sub (metD d) (List.range d.many) (metD_nodup d) fun p hp => by simpa using (metD_in p hp).lt hd
  simpa using this
theorem metD_all {d : Aut} (hd : d.Ok) (hm : d.many ≤ 4096) : ∀ ws, d.Word ws → d.run d.start ws ∈ metD d := by
  have hl := metD_len hd
  have hf := fuelL_eq
  have hh := bfs_handled (E := fun a b : Nat => decide (a = b)) (by simp) (fun n => (List.range d.wide).map (d.nx n)) fuelL 0 [d.start] (fun j x hj => by omega) (by omega) (by
    rw [← metF_addR]
    show (metD d).length < _
    omega)
  rw [← metF_addR] at hh
  change Handled _ _ (metD d).length (metD d) at hh
  have hstart : d.start ∈ metD d := by
    unfold metD
    rw [metF_addR]
    obtain ⟨t, ht⟩ := bfs_pre (fun a b : Nat => decide (a = b)) (fun n => (List.range d.wide).map (d.nx n)) fuelL 0 [d.start]
    rw [ht]; simp
  have key : ∀ (ws : List Nat) (p : Nat), p ∈ metD d → d.Word ws → d.run p ws ∈ metD d := by
    intro ws
    induction ws with
    | nil => intro p hp _; exact hp
    | cons k ws ih =>
      intro p hp hw
      obtain ⟨j, hj⟩ := List.getElem?_of_mem hp
      have h1 := hh j p (List.getElem?_eq_some_iff.1 hj).1 hj (d.nx p k) (List.mem_map.2 ⟨k, by simpa using hw k (by simp), rfl⟩)
      obtain ⟨y, hy, e⟩ := List.any_eq_true.1 h1
      obtain rfl := of_decide_eq_true e
      exact ih _ hy fun j hj => hw j (by simp [hj])
  exact fun ws hw => key ws _ hstart hw
theorem metD_mem {d : Aut} (hd : d.Ok) (hm : d.many ≤ 4096) {p : Nat} : p ∈ metD d ↔ Reach d p :=
  ⟨metD_in p, fun ⟨ws, hw, e⟩ => e ▸ metD_all hd hm ws hw⟩
theorem sorted_unique : ∀ {a b : List Nat}, a.Pairwise (· < ·) → b.Pairwise (· < ·) → (∀ x, x ∈ a ↔ x ∈ b) → a = b
  | [], [], _, _, _ => rfl
  | [], y :: b, _, _, h => by have := (h y).2 (by simp); cases this
  | x :: a, [], _, _, h => by have := (h x).1 (by simp); cases this
  | x :: a, y :: b, ha, hb, h => by
    obtain ⟨ha1, ha2⟩ := List.pairwise_cons.1 ha
    obtain ⟨hb1, hb2⟩ := List.pairwise_cons.1 hb
    have e : x = y := by
      rcases List.mem_cons.1 ((h x).1 (by simp)) with e | e
      · exact e
      · rcases List.mem_cons.1 ((h y).2 (by simp)) with e2 | e2
        · exact e2.symm
        · have := hb1 x e; have := ha1 y e2; omega
    subst e
    have : a = b := sorted_unique ha2 hb2 fun z => by
      constructor
      · intro hz
        rcases List.mem_cons.1 ((h z).1 (by simp [hz])) with e2 | e2
        · have := ha1 z hz; omega
        · exact e2
      · intro hz
        rcases List.mem_cons.1 ((h z).2 (by simp [hz])) with e2 | e2
        · have := hb1 z hz; omega
        · exact e2
    rw [this]
theorem sort_nats {l m : List Nat} (hl : l.Nodup) (hm : m.Pairwise (· < ·)) (h : ∀ x, x ∈ l ↔ x ∈ m) : (intsOf l).mergeSort (fun x y => decide (x ≤ y)) = intsOf m := by
  have hp := List.mergeSort_perm (intsOf l) (fun x y => decide (x ≤ y))
  have hpw : ((intsOf l).mergeSort (fun x y : Int => decide (x ≤ y))).Pairwise (fun a b => decide (a ≤ b) = true) := List.pairwise_mergeSort (fun a b c h1 h2 => by simp only [decide_eq_true_eq] at *; omega) (fun a b => by simp only [Bool.or_eq_true, decide_eq_true_eq]; omega) _
  have hnn : ∀ x ∈ (intsOf l).mergeSort (fun x y : Int => decide (x ≤ y)), 0 ≤ x := fun x hx => by
    obtain ⟨n, hn, rfl⟩ := List.mem_map.1 (hp.mem_iff.1 hx)
    omega
  have hnd : ((intsOf l).mergeSort (fun x y : Int => decide (x ≤ y))).Nodup := (hp.nodup_iff).2 (by
    unfold intsOf
    rw [List.nodup_iff_pairwise_ne, List.pairwise_map]
    exact (List.nodup_iff_pairwise_ne.1 hl).imp fun h e => h (by omega))
  have e : ((intsOf l).mergeSort (fun x y : Int => decide (x ≤ y))).map Int.toNat = m := by
    refine sorted_unique ?_ hm fun x => ?_
    · rw [List.pairwise_map]
      have h2 := List.pairwise_and_iff.2 ⟨hpw, List.nodup_iff_pairwise_ne.1 hnd⟩
      refine (List.Pairwise.imp_of_mem (fun {a b} ha hb hab => ?_) h2)
      have h3 := hnn a ha
      have h4 := hnn b hb
      have h5 := of_decide_eq_true hab.1
      have h6 := hab.2
      omega
    · rw [← h x, List.mem_map]
      constructor
      · rintro ⟨y, hy, rfl⟩
        obtain ⟨n, hn, rfl⟩ := List.mem_map.1 (hp.mem_iff.1 hy)
        simpa using hn
      · intro hx
        exact ⟨x, hp.mem_iff.2 (List.mem_map.2 ⟨x, hx, rfl⟩), by simp⟩
  rw [← e]
  exact (intsOf_toNat hnn).symm

set_option maxHeartbeats 4000000 in
set_option maxRecDepth 100000 in
/-- the closure Reached$1 -/
theorem rnext_any (w : World) (g : Nat) (st fv bv nv : Value) (nxt : List (List Nat)) (wide n k : Nat) (hn : RowsAt w nv nxt fun _ => True) (hq : Blk w g 26 #[st, fv, bv, nv]) (ho : NxtOk nxt wide) (h1 : n < nxt.length) (h2 : k < wide) (h3 : nxt.length ≤ 1000000) (h4 : wide ≤ 1000000) :
    Calls Tryd.prog 29 #[.int .i64 n, .int .i64 k, .pointer (some ⟨g, 0, none⟩)] w fun e w' => e = .returned (.int .i64 (nxtF nxt n k)) ∧ Below w.heap.size w w' := by
  obtain ⟨l, hl⟩ : ∃ l, nxt[n]? = some l := ⟨_, List.getElem?_eq_getElem h1⟩
  obtain ⟨b, off, cap, a, c, rfl, m0, hla⟩ := hn.get hl
  have hlw := (ho.row n l hl).1
  obtain ⟨x, hx⟩ : ∃ x, l[k]? = some x := ⟨_, List.getElem?_eq_getElem (by omega)⟩
  obtain ⟨b2, o2, rfl, m1⟩ := hla.get hx
  have he : nxtF nxt n k = x := by
    have e1 : nxt.getD n [] = l := by rw [List.getD_eq_getElem?_getD, hl]; rfl
    unfold nxtF
    rw [e1, List.getD_eq_getElem?_getD, hx]; rfl
  rw [he]
  obtain ⟨⟨y0, y1, y2, y3⟩, -⟩ := hq.c4
  rw [hlw] at m0
  clear hl hx he hn hla hq ho
  go_enter Tryd.func29, Tryd.ntmps29
  go_wp2_with fail
  go_ret
  exact ⟨rfl, Below.refl _ _⟩

theorem perm_len {l m : List Nat} (hl : l.Nodup) (hm : m.Nodup) (h : ∀ x, x ∈ l ↔ x ∈ m) : l.length = m.length :=
  Nat.le_antisymm (nodup_sub l m hl fun x hx => (h x).1 hx) (nodup_sub m l hm fun x hx => (h x).2 hx)
theorem sort_own {w : World} {B : Nat} {v : Value} {l m : List Nat} (h : w.ownsRow B 3 1 v l.length (natCells l)) (hpos : 0 < l.length) (hn : l.Nodup) (hm : m.Pairwise (· < ·)) (hlm : ∀ x, x ∈ l ↔ x ∈ m) (hsz : l.length < 4611686018427387904) :
    Calls Tryd.prog 30 #[v] w fun e w' => e = .returned (.tuple #[]) ∧ w'.ownsRow B 3 1 v m.length (natCells m) ∧ ∀ (B0 : Nat) (w0 : World), B0 ≤ B → Below B0 w0 w → Below B0 w0 w' := by
  have hlen := perm_len hn (hm.imp fun h => Nat.ne_of_lt h) hlm
  have hv : v ≠ .slice none 0 0 := fun e => by
    obtain ⟨a, c, e2⟩ := own_shape h
    rw [e] at e2
    have := (Value.slice.inj e2).2.1
    omega
  rw [← intsOf_cells] at h
  obtain ⟨g, cap, rfl, hB, hg, h1, h2, h3, h4⟩ := Lib.holds_of_ownsRow h hv
  have hc := slices_Sort_int g 0 cap (intsOf l) w h4 hg (by rw [intsOf_len]; exact hsz)
  rw [intsOf_len] at hc
  refine hc.mono ?_
  rintro e w' ⟨rfl, n, os, rfl⟩
  rw [sort_nats hn hm hlm]
  have hp := Lib.ownsRow_putRow (q := n) (k := l.length) (ys := intsOf m) h (by rw [intsOf_len]; omega) (Nat.le_refl _)
  rw [List.take_of_length_le (by rw [intsOf_len]; omega), intsOf_cells] at hp
  have hgr : ∀ W : World, W.grownBy (Sort.grow W os) none := fun W => ⟨rfl, rfl, rfl, by simp, fun k hk _ => heap_grow_old _ _ hk⟩
  refine ⟨rfl, ?_, fun B0 w0 h0 hb => ?_⟩
  · rw [← hlen]
    exact hp.kept (hgr _) (.inr (by simp [Value.ownBlock]))
  · have hb2 := Lib.below_putRow (enc := Value.int .i64) (q := n) (d := (intsOf m).toArray) hb (g := g) (by omega)
    have hs0 : B0 ≤ (putRow (Value.int .i64) (Sort.ahead w n) g 0 (intsOf m).toArray).heap.size ∨ w.heap.size < B0 := by
      have e : (putRow (Value.int .i64) (Sort.ahead w n) g 0 (intsOf m).toArray).heap.size = w.heap.size := by simp [putRow, mapBlock, Sort.ahead]
      omega
    rcases hs0 with hs0 | hs0
    · exact hb2.grown (hgr _) hs0 fun k e => by cases e
    · omega
theorem RightD.rowsOk {D : DfaI} (h : RightD D) : ∀ l ∈ D.next, l ≠ [] ∧ ∀ x ∈ l, 0 ≤ x := fun l hl => by
  obtain ⟨h1, h2⟩ := h.rows l hl
  have h0 := h.w0
  refine ⟨fun e => ?_, fun x hx => (h2 x hx).1⟩
  rw [e] at h1
  simp at h1
  omega
noncomputable def reachD (D : DfaI) : List Nat := if rightD D = true then reachL D.aut else []
set_option maxHeartbeats 8000000 in
set_option maxRecDepth 100000 in
theorem reached_any (v : Value) (D : DfaI) (w : World) (h : DfaAt w v D) (hD : D.In) : Calls Tryd.prog 12 #[v] w fun e w' => ∃ rv, e = .returned rv ∧ w'.ownsRow w.heap.size 3 1 rv (reachD D).length (natCells (reachD D)) ∧ Below w.heap.size w w' := by
  have hdr := fun W => dright_any v D W
  obtain ⟨fv, bv, nv, rfl, hf, hb, hn⟩ := id h
  obtain ⟨an, cn, rfl, -⟩ := id hn
  have hbw := (Below.refl w.heap.size w).alloc (Nat.le_refl _) (.cells #[.int .i64 D.start, fv, bv, .slice an D.next.length cn] 26)
  have hq := Blk.new w 26 #[.int .i64 D.start, fv, bv, .slice an D.next.length cn]
  obtain ⟨⟨y0, y1, y2, y3⟩, -⟩ := hq.c4
  have hz0 : (w.alloc (.cells #[.int .i64 D.start, fv, bv, .slice an D.next.length cn] 26)).heap.size = w.heap.size + 1 := by simp
  have hM := hD.many
  have H := Lib.hid (And.intro h (And.intro hD (And.intro hbw hq)))
  clear hf hb hn hq hD h
  go_enter Tryd.func12, Tryd.ntmps12
  go_wp2_with fail
  refine (hdr _ (H.out.1.below hbw) H.out.2.1).mono ?_
  rintro e w1 ⟨rfl, b1⟩
  rw [hz0] at b1
  have hz1 := b1.size
  rw [hz0] at hz1
  have HW := Lib.hid (And.intro (hbw.trans (b1.mono (by omega))) (H.out.2.2.2.below b1 (by omega)))
  clear hdr hbw b1 y0 y1 y2 y3
  obtain ⟨⟨y0, y1, y2, y3⟩, -⟩ := HW.out.2.c4
  cases hr : rightD D with
  | false =>
    have hrd : reachD D = [] := by unfold reachD; rw [if_neg (by rw [hr]; decide)]
    have HR := Lib.hid (And.intro hr hrd)
    clear hr hrd
    go_wp2_with fail
    go_ret
    refine ⟨_, rfl, ?_, HW.out.1⟩
    rw [HR.out.2]
    exact World.ownsRow_nil _ _ _ _
  | true =>
    have hR := rightD_iff.1 hr
    have hrd : reachD D = reachL D.aut := by unfold reachD; rw [if_pos hr]
    obtain ⟨fv', bv', nv', he, -, -, hn1⟩ := H.out.1.below HW.out.1
    have hpos := hR.m1
    have hm2 := hR.m2
    have hs0 := hR.s0
    have hw256 := hR.wide_le
    obtain ⟨l0, hl0⟩ : ∃ l0, D.next[0]? = some l0 := ⟨_, List.getElem?_eq_getElem hpos⟩
    have hnv : nv' = .slice an D.next.length cn := by have e := he.symm; simp at e; exact e.2.2
    subst hnv
    obtain ⟨b0, o0, a0, c0, rfl, m0, -⟩ := hn1.get hl0
    obtain ⟨hlw, hl3⟩ := hR.rows l0 (List.mem_of_getElem? hl0)
    rw [Nat.add_zero] at m0
    have hlw2 : l0.length = D.aut.wide := by show l0.length = (wideI D).toNat; omega
    rw [hlw2] at m0
    obtain ⟨p0, hp0⟩ : ∃ p0 : Nat, D.start = (p0 : Int) := ⟨D.start.toNat, by omega⟩
    have hst : D.aut.start = p0 := by show D.start.toNat = p0; omega
    have hrows := hn1.rowsAt hR.rowsOk
    have hok := hR.ok
    have hnx := hR.nxt
    have hml : D.nx.length ≤ 4096 := by rw [D.nx_len]; exact hm2
    have lb0 : b0 < w1.heap.size := World.block_lt_of_cell? w1 _ m0
    rw [hp0] at y0
    have HR := Lib.hid (And.intro hR (And.intro hrd (And.intro hrows hst)))
    have hfl := fuelL_eq
    have hnext : ∀ W, Below w1.heap.size w1 W → Calls Tryd.prog 24 #[.int .i64 p0, .int .i64 D.aut.wide, .func (.func 29) #[] #[.pointer (some ⟨w.heap.size, 0, none⟩)]] W fun e w' => ∃ v, e = .returned v ∧ w'.ownsRow (W.heap.size + 1) 3 1 v (metD D.aut).length (natCells (metD D.aut)) ∧ Below W.heap.size W w' := fun W hW => by
      have := met_any 29 #[.pointer (some ⟨w.heap.size, 0, none⟩)] (.inl ⟨rfl, _, rfl⟩) D.aut.nx p0 D.aut.wide D.nx.length fuelL W (by omega) (by omega) (fun n k h1 h2 => hok.nxt n k h1 h2) (by rw [← hst]; exact hok.st) (by omega) (fun n k W' h1 h2 hW' => by
        refine (rnext_any W' w.heap.size _ _ _ _ D.nx D.aut.wide n k (HR.out.2.2.1.below (hW.trans (hW'.mono hW.size))) (HW.out.2.below (hW.trans (hW'.mono hW.size)) (by omega)) hnx h1 h2 (by omega) (by omega)).mono ?_
        intro e w' h
        exact h)
      have e2 : metD D.aut = metF D.aut.nx D.aut.wide fuelL 0 [p0] := by unfold metD; rw [hst]
      rw [e2]
      exact this
    have HN := Lib.hid hnext
    have HM := Lib.hid (And.intro (metD_len hok) (And.intro (metD_nodup D.aut) fun (x : Nat) => metD_mem (p := x) hok hml))
    clear hr hR hrd he hn1 hs0 hl0 hlw hl3 hlw2 hp0 hst hrows hok hnx hnext hfl
    have q0 : ∀ d os, (Sort.grow (redrawn w1 d) os).cell? ⟨b0, o0, none⟩ = some (.slice a0 D.aut.wide c0) := fun d os => ((below_regrown w1 d os).cell (p := ⟨b0, o0, none⟩) lb0).trans m0
    have q1 : ∀ d os, (Sort.grow (redrawn w1 d) os).cell? ⟨w.heap.size, 0, none⟩ = some (.int .i64 p0) := fun d os => ((below_regrown w1 d os).cell (p := ⟨w.heap.size, 0, none⟩) (by show w.heap.size < w1.heap.size; omega)).trans y0
    have q3 : ∀ d os, (Sort.grow (redrawn w1 d) os).cell? ⟨w.heap.size, 3, none⟩ = some (.slice (some ⟨b0, o0, none⟩) D.next.length cn) := fun d os => ((below_regrown w1 d os).cell (p := ⟨w.heap.size, 3, none⟩) (by show w.heap.size < w1.heap.size; omega)).trans y3
    have hlt0 : decide (0 < D.next.length) = true := decide_eq_true hpos
    go_wp2_with fail
    refine wp_region_below_tail 8 (by kernel_rfl) (by kernel_rfl) ?_
    simp only [List.take_succ_cons, List.take_zero, List.drop_succ_cons, List.drop_zero]
    repeat (go_big_quiet_step (fail))
    refine wpQuiet_nil ?_
    intro _ hw'
    obtain ⟨⟨dq, osq⟩, hw''⟩ := hw'
    subst hw''
    have bb : Below w1.heap.size w1 (Sort.grow (redrawn w1 dq) osq) := below_regrown w1 dq osq
    generalize Sort.grow (redrawn w1 dq) osq = w2 at *
    clear q0 q1 q3 m0 y0 y1 y2 y3
    show wpList _ _ _ (_ :: _) _ _
    go_wp2_with fail
    refine (HN.out w2 bb).mono ?_
    rintro e w3 ⟨v3, rfl, hown3, b3⟩
    obtain ⟨a3, cap3, rfl⟩ := own_shape hown3
    have HB := Lib.hid (bb.trans (b3.mono bb.size))
    have hz3 := bb.size
    have hlen3 := HM.out.1
    have hlen4 : (metD D.aut).length ≤ 4096 := Nat.le_trans hlen3 hml
    have hdp : 0 < (metD D.aut).length := List.length_pos_of_mem ((HM.out.2.2 _).2 (Reach.start D.aut))
    have hsort := sort_own hown3 hdp HM.out.2.1 (reachL_sorted D.aut) (fun x => by rw [HM.out.2.2 x, reachL_mem HR.out.1.ok]) (by omega)
    clear HN b3 hown3 hlen3
    go_wp2_with fail
    refine hsort.mono ?_
    rintro e w4 ⟨rfl, hown4, b4⟩
    have HB4 := Lib.hid (b4 w1.heap.size w1 (by omega) HB.out)
    clear hsort b4
    go_wp2_with fail
    go_ret
    refine ⟨_, rfl, ?_, HW.out.1.trans (HB4.out.mono (by omega))⟩
    rw [HR.out.2.1]
    exact own_base hown4 (by omega)
end Go.Proofs.YtgkpgjbgcimijaaDoor
