/-
  The walk of lang.all: the states with their least texts, sent into a channel that holds them all. Conditions: the automaton is right and lies in memory.
-/
import Derived.Test.YtmmlakheimfijaaGreatDoorJLgFirsts
import Derived.Test.YtmmlakheimfijaaGreatDoorJLgInts
import Derived.Test.YtmmlakheimfijaaGreatDoorJChan
import Derived.Test.YtmmlakheimfijaaGreatDoorJKit
import Derived.Deep.Cut
namespace Go.Proofs.YtmmlakheimfijaaGreatDoor
set_option linter.unusedVariables false
set_option linter.unusedSimpArgs false
open Go.RowKit Go.Maps Go.Sort Go.ChangeShapes Go.WideShapes

/-! states with words, as cells and as values -/
def swT (z : Nat → Int) (x : SW) : ByteArray := bsT (x.2.map (fbyte z))
def swCells (z : Nat → Int) (o : List SW) : List Value := o.flatMap fun x => [.int .i64 (x.1 : Int), .string (swT z x)]
def swV (z : Nat → Int) (x : SW) : Value := .agg #[.int .i64 (x.1 : Int), .string (swT z x)]
theorem swCells_snoc (z : Nat → Int) (o : List SW) (x : SW) : swCells z (o ++ [x]) = swCells z o ++ [.int .i64 (x.1 : Int), .string (swT z x)] := by
  simp [swCells, List.flatMap_append]
theorem swCells_len (z : Nat → Int) (o : List SW) : (swCells z o).length = o.length * 2 := by
  induction o with
  | nil => rfl
  | cons x o ih => simp [swCells] at ih ⊢; omega
theorem swCells_get {z : Nat → Int} {o : List SW} {k : Nat} {x : SW} (h : o[k]? = some x) : (swCells z o)[k * 2]? = some (.int .i64 (x.1 : Int)) ∧ (swCells z o)[k * 2 + 1]? = some (.string (swT z x)) := by
  induction o generalizing k with
  | nil => cases h
  | cons y o ih =>
    cases k with
    | zero =>
      cases h
      exact ⟨rfl, rfl⟩
    | succ k =>
      have h1 := ih (k := k) (by simpa using h)
      have e : swCells z (y :: o) = [.int .i64 (y.1 : Int), .string (swT z y)] ++ swCells z o := rfl
      rw [e, show (k + 1) * 2 = k * 2 + 2 by omega]
      exact h1
/-- rows of states: one by one, below many -/
structure SwOk (o : List SW) (M X : Nat) : Prop where
  nodup : (o.map (·.1)).Nodup
  lt : ∀ y ∈ o, y.1 < M
  word : ∀ y ∈ o, ∀ k ∈ y.2, k < X
  len : ∀ y ∈ o, y.2.length ≤ o.length
theorem SwOk.few {o : List SW} {M X : Nat} (h : SwOk o M X) : o.length ≤ M := by
  have := nodup_sub (o.map (·.1)) (List.range M) h.nodup fun x hx => by
    obtain ⟨y, hy, rfl⟩ := List.mem_map.1 hx
    exact List.mem_range.2 (h.lt y hy)
  simpa using this
theorem SwOk.snoc {o : List SW} {M X q k : Nat} {x : SW} (h : SwOk o M X) (hx : x ∈ o) (hq : q < M) (hk : k < X) (hn : q ∉ o.map (·.1)) : SwOk (o ++ [(q, x.2 ++ [k])]) M X where
  nodup := by
    rw [List.map_append, List.nodup_append]
    refine ⟨h.nodup, by simp, fun a ha b hb e => ?_⟩
    simp at hb
    subst hb
    exact hn (e ▸ ha)
  lt := fun y hy => by
    rcases List.mem_append.1 hy with hy | hy
    · exact h.lt y hy
    · rw [List.mem_singleton.1 hy]; exact hq
  word := fun y hy j hj => by
    rcases List.mem_append.1 hy with hy | hy
    · exact h.word y hy j hj
    · rw [List.mem_singleton.1 hy] at hj
      rcases List.mem_append.1 hj with hj | hj
      · exact h.word x hx j hj
      · rw [List.mem_singleton.1 hj]; exact hk
  len := fun y hy => by
    rw [List.length_append, List.length_singleton]
    rcases List.mem_append.1 hy with hy | hy
    · have := h.len y hy; omega
    · rw [List.mem_singleton.1 hy]
      have := h.len x hx
      simp
      omega
def SeenSW (T : Nat → Bool) (o : List SW) (M : Nat) : Prop := ∀ q, q < M → (T q = true ↔ q ∈ o.map (·.1))
def rowSW (f : Nat → Nat → Nat) (x : SW) (k : Nat) (o : List SW) : List SW := (stepSW f k x).foldl (addR eqS) o
theorem rowSW_zero (f : Nat → Nat → Nat) (x : SW) (o : List SW) : rowSW f x 0 o = o := rfl
theorem rowSW_succ (f : Nat → Nat → Nat) (x : SW) (k : Nat) (o : List SW) : rowSW f x (k + 1) o = addR eqS (rowSW f x k o) (f x.1 k, x.2 ++ [k]) := by
  unfold rowSW
  have e : stepSW f (k + 1) x = stepSW f k x ++ [(f x.1 k, x.2 ++ [k])] := by simp [stepSW, List.range_succ]
  rw [e, List.foldl_append]
  rfl
theorem addR_seenS {o : List SW} {y : SW} (h : y.1 ∈ o.map (·.1)) : addR eqS o y = o := by
  unfold addR
  rw [if_pos]
  obtain ⟨z, hz, e⟩ := List.mem_map.1 h
  exact List.any_eq_true.2 ⟨z, hz, by simp [eqS, e]⟩
theorem addR_newS {o : List SW} {y : SW} (h : y.1 ∉ o.map (·.1)) : addR eqS o y = o ++ [y] := by
  unfold addR
  rw [if_neg]
  intro h2
  obtain ⟨z, hz, e⟩ := List.any_eq_true.1 h2
  exact h (List.mem_map.2 ⟨z, hz, (of_decide_eq_true e).symm⟩)
theorem rowSW_pre (f : Nat → Nat → Nat) (x : SW) (k : Nat) (o : List SW) : ∃ t, rowSW f x k o = o ++ t := foldR_pre eqS _ o
theorem SeenSW.put {T : Nat → Bool} {o : List SW} {M q : Nat} {ws : List Nat} (h : SeenSW T o M) : SeenSW (setS T q) (o ++ [(q, ws)]) M := fun p hp => by
  unfold setS
  by_cases e : p = q
  · subst e; simp
  · rw [if_neg e, h p hp]
    simp [e]
/-- the steps that are left -/
def SwEq (d : Aut) (fu i : Nat) (o : List SW) : Prop := swD d = bfs (addR eqS) (stepSW d.nx d.wide) fu i o
theorem SwEq.next {d : Aut} {fu i : Nat} {o : List SW} {x : SW} (h : SwEq d (fu + 1) i o) (hx : o[i]? = some x) : SwEq d fu (i + 1) (rowSW d.nx x d.wide o) := by
  unfold SwEq at *
  rw [h, bfs, hx]
  rfl
theorem SwEq.done {d : Aut} {fu : Nat} {o : List SW} (h : SwEq d fu o.length o) : swD d = o := by
  unfold SwEq at h
  rw [h]
  cases fu with
  | zero => rfl
  | succ fu => rw [bfs, List.getElem?_eq_none (Nat.le_refl _)]
/-- what the function has made so far -/
structure AllAt (w0 w : World) (B0 B1 gs M X : Nat) (vF vL : Value) (fl : List UInt8) (buf : List Value) (T : Nat → Bool) (z : Nat → Int) (o : List SW) : Prop where
  c : ∃ s, w.heap[w0.heap.size]? = some (.chan M buf.toArray false s 0 false)
  f : w.ownsRow B0 5 1 vF X (byteCells fl)
  t : w.ownsRow B0 4 1 (.slice (some ⟨gs, 0, none⟩) M M) M (boolC T M)
  l : w.ownsRow B1 46 2 vL o.length (swCells z o)
  b : RowKit.Below w0.heap.size w0 w
  l0 : w0.heap.size < B0
  l1 : gs < B1 ∧ B0 ≤ B1 ∧ B1 ≤ w.heap.size
  l2 : ∀ g, vF.ownBlock = some g → g < B1
theorem only_chan (w : World) (c cap : Nat) (buf : Array Value) (cl : Bool) (s r : Nat) (tm : Bool) : Only [c] w (w.setChan c cap buf cl s r tm) :=
  ⟨rfl, rfl, rfl, by simp [World.setChan], fun k _ hk => by
    have : c ≠ k := fun e => hk (by simp [e])
    simp only [World.setChan]
    rw [Array.getElem?_setIfInBounds_ne this]⟩
section
variable {w0 w w' : World} {B0 B1 gs M X : Nat} {vF vL : Value} {fl : List UInt8} {buf : List Value} {T : Nat → Bool} {z : Nat → Int} {o : List SW}
theorem AllAt.below (h : AllAt w0 w B0 B1 gs M X vF vL fl buf T z o) (hb : RowKit.Below w.heap.size w w') : AllAt w0 w' B0 B1 gs M X vF vL fl buf T z o where
  c := by
    obtain ⟨s, hs⟩ := h.c
    have hlt : w0.heap.size < w.heap.size := by have := h.l0; have := h.l1; omega
    exact ⟨s, (hb.block _ hlt).trans hs⟩
  f := own_only h.f (Only.of_below (S := []) hb) (by simp)
  t := own_only h.t (Only.of_below (S := []) hb) (by simp)
  l := own_only h.l (Only.of_below (S := []) hb) (by simp)
  b := h.b.trans (hb.mono h.b.size)
  l0 := h.l0
  l1 := ⟨h.l1.1, h.l1.2.1, by have := h.l1; have := hb.size; omega⟩
  l2 := h.l2
theorem AllAt.send (h : AllAt w0 w B0 B1 gs M X vF vL fl buf T z o) (v : Value) (s : Nat) : AllAt w0 (w.setChan w0.heap.size M (buf.toArray.push v) false s 0 false) B0 B1 gs M X vF vL fl (buf ++ [v]) T z o where
  c := ⟨s, by
    have hlt : w0.heap.size < w.heap.size := by have := h.l0; have := h.l1; omega
    rw [Conc.heap_setChan _ _ _ _ _ _ _ _ hlt]
    simp⟩
  f := own_only h.f (only_chan _ _ _ _ _ _ _ _) fun g hg hm => by
    have := (h.f.lt g hg).1
    have := h.l0
    obtain rfl := List.mem_singleton.1 hm
    omega
  t := own_only h.t (only_chan _ _ _ _ _ _ _ _) fun g hg hm => by
    have := (h.t.lt g hg).1
    have := h.l0
    obtain rfl := List.mem_singleton.1 hm
    omega
  l := own_only h.l (only_chan _ _ _ _ _ _ _ _) fun g hg hm => by
    have := (h.l.lt g hg).1
    have := h.l0
    have := h.l1
    obtain rfl := List.mem_singleton.1 hm
    omega
  b := Conc.below_setChan h.b (Nat.le_refl _) _ _ _ _ _ _
  l0 := h.l0
  l1 := ⟨h.l1.1, h.l1.2.1, by rw [Conc.size_setChan]; exact h.l1.2.2⟩
  l2 := h.l2
theorem AllAt.mark (h : AllAt w0 w B0 B1 gs M X vF vL fl buf T z o) {q : Nat} (hq : q < M) : AllAt w0 (w.setCell ⟨gs, q, none⟩ (.bool true)) B0 B1 gs M X vF vL fl buf (setS T q) z o where
  c := by
    obtain ⟨s, hs⟩ := h.c
    have h1 := (h.t.lt gs rfl).1
    have h2 := h.l0
    exact ⟨s, (Below.heap_setCell w ⟨gs, q, none⟩ (.bool true) w0.heap.size (by show w0.heap.size ≠ gs; omega)).trans hs⟩
  f := own_set h.f (a := ⟨gs, q, none⟩) _ fun e => own_ne h.f h.t (by decide) gs e rfl
  t := own_mark h.t hq fun p _ => rfl
  l := own_far h.l (a := ⟨gs, q, none⟩) h.l1.1 _
  b := h.b.setCell (p := ⟨gs, q, none⟩) (by have := (h.t.lt gs rfl).1; have := h.l0; show w0.heap.size ≤ gs; omega) _
  l0 := h.l0
  l1 := ⟨h.l1.1, h.l1.2.1, by simp; exact h.l1.2.2⟩
  l2 := h.l2
theorem AllAt.app {v' : Value} {x : SW} {row : Option Nat} (h : AllAt w0 w B0 B1 gs M X vF vL fl buf T z o) (hown : w'.ownsRow B1 46 2 v' (o.length + 1) (swCells z o ++ [.int .i64 (x.1 : Int), .string (swT z x)])) (hg : w.grownBy w' row) (hr : ∀ k, row = some k → B1 ≤ k) :
    AllAt w0 w' B0 B1 gs M X vF v' fl buf T z (o ++ [x]) := by
  have hS : ∀ g, g < B1 → g ∉ row.toList := fun g hgl hm => by
    cases row with
    | none => simp at hm
    | some k =>
      have := hr k rfl
      have e : g = k := by simpa using hm
      omega
  exact {
    c := by
      obtain ⟨s, hs⟩ := h.c
      have hlt : w0.heap.size < w.heap.size := by have := h.l0; have := h.l1; omega
      exact ⟨s, ((only_grown hg).block _ hlt (hS _ (by have := h.l0; have := h.l1; omega))).trans hs⟩
    f := own_only h.f (only_grown hg) fun g hg2 => hS g (h.l2 g hg2)
    t := own_only h.t (only_grown hg) fun g hg2 => hS g (by
      have : gs = g := by simpa [Value.ownBlock] using hg2
      have := h.l1.1
      omega)
    l := by
      rw [swCells_snoc, List.length_append]
      exact hown
    b := h.b.grown hg h.b.size fun k hk => by
      have := hr k hk
      have := h.l0
      have := h.l1
      omega
    l0 := h.l0
    l1 := ⟨h.l1.1, h.l1.2.1, by have := hg.size; have := h.l1.2.2; omega⟩
    l2 := h.l2 }
end
theorem pair_new {w : World} {u v : Value} {t : TypeId} : ∀ j x, [u, v][j]? = some x → (w.alloc (.cells #[u, v] t)).cell? ((⟨w.heap.size, 0, none⟩ : Addr).add j) = some x := by
  intro j x hj
  rw [Addr.add_lit, (Blk.new w t #[u, v]).cell]
  simpa using hj
theorem infoFound : (Tryz.prog.info? 46).map (fun i => (i.zero, i.size, i.bytes)) = some (some (.agg #[.int .i64 0, .string ⟨#[]⟩]), 2, 24) := by kernel_rfl
theorem make_chan (M : Nat) (hM : M ≤ 4096) (W : World) : (Instr.makeChan 65 (.int .i64 (M : Int))).run Tryz.prog W = .ok (.chan (some W.heap.size)) (W.alloc (.chan M #[] false 0 0 false)) := by
  obtain ⟨i0, hi0, h0, h1, h2⟩ := info_parts infoFound
  have hu := Tryz.underlying65
  unfold Instr.makeChan
  have k1 : ¬ ((M : Int) < 0) := by omega
  have k2 : ¬ ((M : Int) > 9223372036854775807) := by omega
  have k3 : ¬ ((24 : Int) * (M : Int) > 281474976710544) := by omega
  go_simp
  have e : (Tryz.t46).bytes = 24 := rfl
  rw [e]
  omega
set_option maxHeartbeats 8000000 in
set_option maxRecDepth 1000000 in
theorem all_any (v : Value) (D : DfaI) (w : World) (h : DfaAt w v D) (hR : RightD D) : Calls Tryz.prog 25 #[v] w fun e w' => ∃ ch s, e = .returned (.chan (some ch)) ∧ w.heap.size ≤ ch ∧ w'.heap[ch]? = some (.chan D.next.length ((swD D.aut).map (swV D.z)).toArray true s 0 false) ∧ Below w.heap.size w w' := by
  obtain ⟨S, M, af, ab, an, cf, cb, cn, hS, hM, rfl, hd⟩ := RefD.mk_ h hR
  have hal := (Below.refl w.heap.size w).alloc (Nat.le_refl _) (.cells #[.int .i64 (S : Int), .slice af M cf, .slice ab 256 cb, .slice an M cn] 26)
  have hSM : S < M := by have := hR.s1; omega
  have hM4 : M ≤ 4096 := by have := hR.m2; omega
  have hSs : D.aut.start = S := by show D.start.toNat = S; omega
  have hmany : D.aut.many = M := by show D.nx.length = M; rw [D.nx_len]; exact hM
  have hw256 := hR.wide_le
  have hz1 : (w.alloc (.cells #[.int .i64 (S : Int), .slice af M cf, .slice ab 256 cb, .slice an M cn] 26)).heap.size = w.heap.size + 1 := by simp
  rw [hM]
  obtain ⟨X, hX⟩ : ∃ X, D.aut.wide = X := ⟨_, rfl⟩
  rw [hX] at hw256
  obtain ⟨⟨y0, y1, y2, y3⟩, -⟩ := hd.q.c4
  have H := Lib.hid (And.intro hal hd)
  have HP := Lib.hid (And.intro hR (And.intro hM (And.intro hSs (And.intro hmany hX))))
  clear h hal hd hR hS hM hSs hmany hX
  have hmk := make_chan M hM4
  obtain ⟨s0, hs0, hs00, hs01, hs02⟩ := info_parts infoBool
  go_enter Tryz.func25, Tryz.ntmps25
  go_wp2_with fail
  generalize w.alloc (.cells #[.int .i64 (S : Int), .slice af M cf, .slice ab 256 cb, .slice an M cn] 26) = W at *
  rw [← hz1]
  have hal2 := (Below.refl W.heap.size W).alloc (Nat.le_refl _) (.chan M #[] false 0 0 false)
  have hzc : (W.alloc (.chan M #[] false 0 0 false)).heap.size = W.heap.size + 1 := by simp
  have hc0 : (W.alloc (.chan M #[] false 0 0 false)).heap[W.heap.size]? = some (.chan M #[] false 0 0 false) := heap_alloc_new W _
  have hdc := H.out.2.below hal2
  have hfi := firsts_any (.slice ab 256 cb) D.block D.aut.wide (W.alloc (.chan M #[] false 0 0 false)) hdc.b HP.out.1.blk.2 HP.out.1.blk.1
  generalize W.alloc (.chan M #[] false 0 0 false) = Wc at *
  refine hfi.mono ?_
  rintro e w2 ⟨vF, rfl, hF, b2⟩
  rw [HP.out.2.2.2.2] at hF
  have hd2 := hdc.below b2
  have hb2 := hal2.trans (b2.mono (by omega))
  have hc2 := (b2.block W.heap.size (by omega)).trans hc0
  have hz2 := b2.size
  clear y0 y1 y2 y3 hfi hmk hdc hal2 hc0 b2
  obtain ⟨⟨y0, y1, y2, y3⟩, -⟩ := hd2.q.c4
  have H2 := Lib.hid (And.intro hd2 (And.intro hb2 (And.intro hc2 hF)))
  clear hd2 hb2 hc2 hF
  go_wp2_with (at_make; refine wpList_make_full _ rfl _ _ 22 rfl Wc.heap.size 4 s0 (.bool false) 1 Tryz.underlying22 hs0 hs00 hs01 .i64 .i64 M M M rfl rfl rfl rfl (by rw [hs02]; omega) (by unfold maxLen; omega) (by omega) ?_; intro w3 hown3 hgrow3; rw [boolC_zero] at hown3; have k0 := hown3.cellAt S (by omega); have k2 := hown3.frozenAt S; rw [boolC_at hSM] at k0; have b3 : RowKit.Below w2.heap.size w2 w3 := (Below.refl _ _).grown hgrow3 (Nat.le_refl _) (fun k e => by cases e); obtain ⟨⟨r0, r1, r2, r3⟩, -⟩ := (H2.out.1.below b3).q.c4; clear y0 y1 y2 y3)
  have hzg3 := hgrow3.size
  have hlgs := (hown3.lt w2.heap.size rfl).2
  have h3 : AllAt W w3 Wc.heap.size w3.heap.size w2.heap.size M X vF (.slice none 0 0) (u8L (firstsL D.z X)) [] (fun _ => false) D.z [] :=
    { c := ⟨0, (b3.block W.heap.size (by omega)).trans H2.out.2.2.1⟩
      f := own_only H2.out.2.2.2 (Only.of_below (S := []) b3) (by simp)
      t := hown3
      l := World.ownsRow_nil _ _ _ _
      b := H2.out.2.1.trans (b3.mono (by omega))
      l0 := by omega
      l1 := ⟨hlgs, by omega, Nat.le_refl _⟩
      l2 := fun g hg => by have := (H2.out.2.2.2.lt g hg).2; omega }
  have h4 := h3.mark hSM
  have hsz9 : (w3.setCell ⟨w2.heap.size, S, none⟩ (.bool true)).heap.size = w3.heap.size := by simp
  have hlit := World.ownsRow_lit (base := w3.heap.size) (e := 46) (size := 2) (w3.setCell ⟨w2.heap.size, S, none⟩ (.bool true)) #[.int .i64 (S : Int), .string ⟨#[]⟩] 1 (by simp) (by decide) (by simp)
  rw [hsz9] at hlit
  have h5 := h4.below ((Below.refl (w3.setCell ⟨w2.heap.size, S, none⟩ (.bool true)).heap.size (w3.setCell ⟨w2.heap.size, S, none⟩ (.bool true))).alloc (Nat.le_refl _) (.cells #[.int .i64 (S : Int), .string ⟨#[]⟩] 46))
  generalize (w3.setCell ⟨w2.heap.size, S, none⟩ (.bool true)).alloc (.cells #[.int .i64 (S : Int), .string ⟨#[]⟩] 46) = w5 at *
  have h6 : AllAt W w5 Wc.heap.size w3.heap.size w2.heap.size M X vF (.slice (some ⟨w3.heap.size, 0, none⟩) 1 1) (u8L (firstsL D.z X)) [] (setS (fun _ => false) S) D.z [(S, [])] :=
    { c := h5.c, f := h5.f, t := h5.t, l := hlit, b := h5.b, l0 := h5.l0, l1 := h5.l1, l2 := h5.l2 }
  have hok0 : SwOk [(S, [])] M X := ⟨by simp, fun y hy => (by rw [List.mem_singleton.1 hy]; exact hSM), fun y hy k hk => (by rw [List.mem_singleton.1 hy] at hk; cases hk), fun y hy => (by rw [List.mem_singleton.1 hy]; simp)⟩
  have hse0 : SeenSW (setS (fun _ => false) S) [(S, [])] M := fun q _ => by
    unfold setS
    by_cases e : q = S
    · simp [e]
    · simp [e]
  have heq0 : SwEq D.aut fuelL 0 [(S, [])] := by
    unfold SwEq swD
    rw [HP.out.2.2.1]
  have hfu := fuelL_eq
  obtain ⟨gs, hgs⟩ : ∃ gs, w2.heap.size = gs := ⟨_, rfl⟩
  obtain ⟨B0, hB0⟩ : ∃ B0, Wc.heap.size = B0 := ⟨_, rfl⟩
  obtain ⟨B1, hB1⟩ : ∃ B1, w3.heap.size = B1 := ⟨_, rfl⟩
  rw [hgs, hB0, hB1] at h6
  rw [hgs, hB1]
  have HF := Lib.hid (And.intro h6 (And.intro hok0 (And.intro hse0 (And.intro heq0 hfu))))
  clear hown3 hgrow3 k0 k2 b3 r0 r1 r2 r3 h3 h4 h5 h6 hlit hsz9 hok0 hse0 heq0 hfu hgs hB0 hB1 hlgs hzg3
  go_loopw [6, 7] (fun v6 c7 wr => ∃ (i fu : Nat) (o : List SW) (T : Nat → Bool), c7 = .int .i64 i ∧ i ≤ o.length ∧ i + fu = fuelL ∧ Hid (SwEq D.aut fu i o ∧ SwOk o M X ∧ SeenSW T o M) ∧ AllAt W wr B0 B1 gs M X vF v6 (u8L (firstsL D.z X)) ((o.take i).map (swV D.z)) T D.z o) (fun _ c _ => fuelL - (intOf c).toNat)
  case atStart => exact ⟨0, fuelL, _, _, rfl, by simp, by simp, Lib.hid ⟨HF.out.2.2.2.1, HF.out.2.1, HF.out.2.2.1⟩, HF.out.1⟩
  case round =>
    obtain ⟨i, fu, o, T, rfl, hi, hfu, hI, hA⟩ := hrel
    have hfew := hI.out.2.1.few
    have HFU := Lib.hid hfu
    clear hfu
    by_cases hli : i < o.length
    · have k1 : decide (i < o.length) = true := decide_eq_true hli
      obtain ⟨x, hx⟩ : ∃ x, o[i]? = some x := ⟨_, List.getElem?_eq_getElem hli⟩
      obtain ⟨gl, cl, rfl, hglB, hgl⟩ := hA.l.form (by omega)
      obtain ⟨sn, hch⟩ := hA.c
      have hl1 := hA.l.cellAt (i * 2) (by omega)
      have hl2 := hA.l.cellAt (i * 2 + 1) (by omega)
      rw [(swCells_get hx).1] at hl1
      rw [(swCells_get hx).2] at hl2
      have HA := Lib.hid hA
      have HX := Lib.hid hx
      clear hA hx
      go_upto_region 9 with (fail)
      refine wp_region_sem ?_
      show SemOps _ _ _ [0, 1, 2, 3, 4, 5] _ _
      iterate 5
        refine sem_still rfl rfl rfl ?_
        intro K hK
        go_simp
        refine hK _ _ ?_
        clear hK K
      have hch2 : wr.heap[w.heap.size + 1]? = some (.chan M (((o.take i).map (swV D.z)).toArray) false sn 0 false) := by rw [← hz1]; exact hch
      refine sem_send (c := w.heap.size + 1) (v := swV D.z x) (z := .tuple #[]) rfl rfl rfl hch2 (by simp; omega) ?_
      refine sem_list (r := []) 6 rfl ?_
      have hS := HA.out.send (swV D.z x) (sn + 1)
      rw [hz1] at hS
      have htk : (o.take i).map (swV D.z) ++ [swV D.z x] = (o.take (i + 1)).map (swV D.z) := by
        have : o.take (i + 1) = o.take i ++ [x] := by rw [List.take_add_one, HX.out]; rfl
        rw [this, List.map_append]
        rfl
      rw [htk] at hS
      generalize wr.setChan (w.heap.size + 1) M (((o.take i).map (swV D.z)).toArray.push (swV D.z x)) false (sn + 1) 0 false = wS at *
      have hxM := hI.out.2.1.lt x (List.mem_of_getElem? HX.out)
      obtain ⟨bn, on, bk, ok, c, he, m0, m1⟩ := H.out.2.row HP.out.1 HP.out.2.1 hxM
      subst he
      rw [HP.out.2.2.2.2] at m0 m1
      have hd := H.out.2.below hS.b
      obtain ⟨⟨y0, y1, y2, y3⟩, -⟩ := hd.q.c4
      have m0w := (hS.b.cell (World.block_lt_of_cell? W _ m0)).trans m0
      have hl1 := hS.l.cellAt (i * 2) (by omega)
      rw [(swCells_get HX.out).1] at hl1
      have HM := Lib.hid (And.intro m1 hS)
      clear hd m0 m1 hS htk hch hch2 hl2
      go_wp2_with fail
      go_quiet (fail)
      have hT := HM.out.2.below (below_regrownN wS nq)
      generalize wS.drewN nq = wT at *
      have HT := Lib.hid hT
      clear hT y0 y1 y2 y3 m0w hl1
      go_wp2_with fail
      go_loopw [6, 50] (fun v6 c50 wr => ∃ (k : Nat) (T' : Nat → Bool), c50 = .int .i64 k ∧ k ≤ X ∧ Hid (SwOk (rowSW D.aut.nx x k o) M X ∧ SeenSW T' (rowSW D.aut.nx x k o) M) ∧ AllAt W wr B0 B1 gs M X vF v6 (u8L (firstsL D.z X)) ((o.take (i + 1)).map (swV D.z)) T' D.z (rowSW D.aut.nx x k o)) (fun _ c _ => X - (intOf c).toNat)
      case atStart => exact ⟨0, T, rfl, by omega, Lib.hid ⟨hI.out.2.1, hI.out.2.2⟩, HT.out⟩
      case round =>
        obtain ⟨k, T', rfl, hk, hI2, hA⟩ := hrel
        obtain ⟨tl, htl⟩ := rowSW_pre D.aut.nx x k o
        by_cases hlk : k < X
        · have k2 : decide (k < X) = true := decide_eq_true hlk
          obtain ⟨m2, hq⟩ := HM.out.1 k hlk
          have m2w := (hA.b.cell (World.block_lt_of_cell? W _ m2)).trans m2
          obtain ⟨q, hqe⟩ : ∃ q, D.aut.nx x.1 k = q := ⟨_, rfl⟩
          rw [hqe] at m2w hq
          have hsucc := rowSW_succ D.aut.nx x k o
          rw [hqe] at hsucc
          have hok := hI2.out.1
          have hseen := hI2.out.2
          have hxo : (rowSW D.aut.nx x k o)[i]? = some x := by rw [htl, List.getElem?_append_left (List.getElem?_eq_some_iff.1 HX.out).1]; exact HX.out
          obtain ⟨o', ho'⟩ : ∃ o', rowSW D.aut.nx x k o = o' := ⟨_, rfl⟩
          rw [ho'] at hsucc hok hseen hxo hA
          obtain ⟨gl2, cl2, rfl, hgB2, hgl2⟩ := hA.l.form (by have := (List.getElem?_eq_some_iff.1 hxo).1; omega)
          have hfew' := hok.few
          have hli' : i < o'.length := (List.getElem?_eq_some_iff.1 hxo).1
          have c5 := hA.t.cellAt q (by omega)
          have d5 := hA.t.frozenAt q
          rw [boolC_at hq] at c5
          obtain ⟨t, ht⟩ : ∃ t, T' q = t := ⟨_, rfl⟩
          rw [ht] at c5
          cases t with
          | true =>
            have hmem : q ∈ o'.map (·.1) := (hseen q hq).1 ht
            have hsame : rowSW D.aut.nx x (k + 1) o = o' := by rw [hsucc]; exact addR_seenS hmem
            have HC := Lib.hid (And.intro hsame (And.intro hok (And.intro hseen hA)))
            clear hsucc hok hseen hxo hA ho' htl m2 hqe ht hmem hsame
            go_wp2_with fail
            go_roundw
            case rel => exact ⟨k + 1, T', by go_num, by omega, Lib.hid (by rw [HC.out.1]; exact ⟨HC.out.2.1, HC.out.2.2.1⟩), by rw [HC.out.1]; exact HC.out.2.2.2⟩
            case measure => simp [intOf]; omega
          | false =>
            have hmem : q ∉ o'.map (·.1) := fun h => by
              have := (hseen q hq).2 h
              rw [ht] at this
              cases this
            have hnew : rowSW D.aut.nx x (k + 1) o = o' ++ [(q, x.2 ++ [k])] := by rw [hsucc]; exact addR_newS hmem
            have hok2 := hok.snoc (List.mem_of_getElem? hxo) hq hlk hmem
            have hse2 := hseen.put (q := q) (ws := x.2 ++ [k])
            have hAm := hA.mark hq
            have hxl := hok.len x (List.mem_of_getElem? hxo)
            have hwx := hok.word x (List.mem_of_getElem? hxo)
            have HC := Lib.hid (And.intro hnew (And.intro hok2 (And.intro hse2 (And.intro hAm (And.intro hxo hwx)))))
            clear hsucc hok hseen hA ho' htl m2 hqe ht hmem hnew hok2 hse2 hAm hxo hwx
            go_wp2_with fail
            generalize wr.setCell ⟨gs, q, none⟩ (.bool true) = wM at *
            obtain ⟨gf, cF, rfl, hgfB, hgfl⟩ := HC.out.2.2.2.1.f.form (by omega)
            have hl2 := HC.out.2.2.2.1.l.cellAt (i * 2 + 1) (by omega)
            rw [(swCells_get HC.out.2.2.2.2.1).2] at hl2
            have hf1 := HC.out.2.2.2.1.f.cellAt k (by omega)
            have hfb : (byteCells (u8L (firstsL D.z X)))[k]? = some (.int .u8 ((fbyte D.z k : Nat) : Int)) := by
              have hX := HP.out.1.blk.1
              rw [HP.out.2.2.2.2] at hX
              have hlt := (fbyte_lt hX hlk).1
              simp only [byteCells, u8L, firstsL, List.map_map, List.getElem?_map, List.getElem?_range hlk, Option.map_some, Function.comp]
              rw [u8_nat hlt]
            rw [hfb] at hf1
            have hfl : fbyte D.z k < 256 := by
              have hX := HP.out.1.blk.1
              rw [HP.out.2.2.2.2] at hX
              exact (fbyte_lt hX hlk).1
            have hnt : swT D.z (q, x.2 ++ [k]) = swT D.z x ++ bsT [fbyte D.z k] := by
              unfold swT
              rw [bsT_app, List.map_append]
              rfl
            have hxs : (swT D.z x).size ≤ 4096 := by unfold swT; rw [bsT_size, List.length_map]; omega
            obtain ⟨fb, hfb2⟩ : ∃ fb, fbyte D.z k = fb := ⟨_, rfl⟩
            rw [hfb2] at hf1 hfl hnt
            obtain ⟨tx, htx⟩ : ∃ tx, swT D.z x = tx := ⟨_, rfl⟩
            rw [htx] at hl2 hnt hxs
            obtain ⟨i2, hi2, hz20, hz21, hz22⟩ := info_parts infoFound
            clear hfb hfb2 htx c5 d5 m2w
            refine wp_region_T [16, 17] (by kernel_rfl) ?_
            intro V bb
            have lc : ∀ {p : Addr} {v : Value}, wM.cell? p = some v → ∀ d os, (Sort.grow (redrawn V d) os).cell? p = some v := fun {p v} hp d os => ((bb.trans ((below_regrown V d os).mono bb.size)).cell (World.block_lt_of_cell? wM p hp)).trans hp
            have q0 := lc hl2
            have q1 := lc hf1
            clear lc hl2 hf1
            refine stepsQ [0, 1, 2, 3, 4, 5, 6, 7, 8, 9, 10] (by kernel_rfl) (by kernel_rfl) (by kernel_rfl) (Grown.of_below (Below.refl _ _)) ?_
            simp only [atIdx, List.filterMap_cons, List.filterMap_nil, List.getElem?_toArray, List.getElem_toArray, List.getElem?_cons_zero, List.getElem?_cons_succ, List.getElem_cons_zero, List.getElem_cons_succ]
            iterate 11 (show wpQuiet _ _ _ _ (_ :: _) _; go_big_quiet_step (fail))
            refine wpQuiet_nil ?_
            show stepT _ _ _ _ _ _ _ _ _
            clear q0 q1
            have hV := HC.out.2.2.2.1.below bb
            have b1 := (Below.refl V.heap.size V).alloc (Nat.le_refl _) (.cells #[.int .u8 (fb : Int)] 5)
            have hone := one_new (w := V) (v := .int .u8 (fb : Int)) (t := 5) 0 _ rfl
            rw [Addr.add_lit] at hone
            have hzV1 : (V.alloc (.cells #[.int .u8 (fb : Int)] 5)).heap.size = V.heap.size + 1 := by simp
            refine stepS (i := 11) rfl (by kernel_rfl) ?_
            intro K hK
            go_simp
            refine hK _ _ ⟨fun _ => Grown.of_below b1, ?_⟩
            clear hK K
            have hV1 := hV.below b1
            generalize V.alloc (.cells #[.int .u8 (fb : Int)] 5) = V1 at *
            have hcv : (convert 48 9 (.slice (some ⟨V.heap.size, 0, none⟩) 1 1)).run Tryz.prog V1 = .ok (.string (bsT [fb])) V1 :=
              run_convert_bytes_back V1 _ _ 5 _ 1 (u8L [fb]) Tryz.underlying48 Tryz.underlying5 Tryz.underlying9 fun j hj => by
                have : j = 0 := by simpa [u8L] using hj
                subst this
                rw [Addr.add_lit]
                refine hone.trans ?_
                show _ = some (Value.int .u8 (((UInt8.ofNat fb).toNat : Nat) : Int))
                rw [u8_nat hfl]
            refine stepS (i := 12) rfl (by kernel_rfl) ?_
            intro K hK
            go_simp
            refine hK _ _ ⟨fun _ => Grown.of_below b1, ?_⟩
            clear hK K hcv hone
            have hbs : (bsT [fb]).size = 1 := bsT_size _
            obtain ⟨tb, htb⟩ : ∃ tb, bsT [fb] = tb := ⟨_, rfl⟩
            rw [htb] at hbs hnt ⊢
            refine stepsQ [13] (by kernel_rfl) (by kernel_rfl) (by kernel_rfl) (Grown.of_below b1) ?_
            simp only [atIdx, List.filterMap_cons, List.filterMap_nil, List.getElem?_toArray, List.getElem_toArray, List.getElem?_cons_zero, List.getElem?_cons_succ, List.getElem_cons_zero, List.getElem_cons_succ]
            iterate 1 (show wpQuiet _ _ _ _ (_ :: _) _; go_big_quiet_step (fail))
            refine wpQuiet_nil ?_
            show stepT _ _ _ _ _ _ _ _ _
            obtain ⟨t2, ht2⟩ : ∃ t, tx ++ tb = t := ⟨_, rfl⟩
            rw [ht2] at hnt ⊢
            refine stepS (i := 14) rfl (by kernel_rfl) ?_
            intro K hK
            go_simp
            refine hK _ _ ⟨fun _ => Grown.of_below b1, ?_⟩
            clear hK K
            have b2 := (Below.refl V1.heap.size V1).alloc (Nat.le_refl _) (.cells #[.int .i64 (q : Int), .string t2] 46)
            have htwo : ∀ j v, [Value.int .i64 (q : Int), .string t2][j]? = some v → (V1.alloc (.cells #[.int .i64 (q : Int), .string t2] 46)).cell? ((⟨V1.heap.size, 0, none⟩ : Addr).add j) = some v := pair_new
            have hV2 := hV1.below b2
            have b12 := b1.trans (b2.mono b1.size)
            refine stepS (i := 15) rfl (by kernel_rfl) ?_
            intro K hK
            go_simp
            refine hK _ _ ⟨fun _ => Grown.of_below b12, ?_⟩
            clear hK K
            have hzV2 : (V1.alloc (.cells #[.int .i64 (q : Int), .string t2] 46)).heap.size = V1.heap.size + 1 := by simp
            have hown2 := hV2.l
            have hB1V := hV2.l1.2.2
            generalize V1.alloc (.cells #[.int .i64 (q : Int), .string t2] 46) = V2 at *
            refine stepS (i := 16) rfl (by kernel_rfl) ?_
            intro K hK
            refine step_append_lies _ rfl (.tmp 63) (.tmp 78) 67 rfl B1 46 i2 (.agg #[.int .i64 0, .string ⟨#[]⟩]) 2 24 Tryz.underlying67 hi2 hz20 hz21 hz22 rfl (by decide) _ _ _ (by simp [Act.eval, Act.put]) hown2 ⟨V1.heap.size, 0, none⟩ 1 1 [.int .i64 (q : Int), .string t2] (by simp [Act.eval, Act.put]) rfl htwo (fun u hu => by simp at hu; rcases hu with rfl | rfl <;> rfl) (by decide) (by unfold maxLen; omega) (by omega) (by omega) _ rfl ?_
            intro g14 cap14 w14 hown14 hgrow14 hat14 hlt14
            go_simp
            refine hK _ _ ⟨fun h => absurd (by decide) h, ?_⟩
            clear hK K
            refine stepS (i := 17) rfl (by kernel_rfl) ?_
            intro K hK
            go_simp
            refine hK _ _ ⟨fun h => absurd (by decide) h, ?_⟩
            clear hK K
            refine stepT_end (by kernel_rfl) ?_
            have happ := hV2.app (x := (q, x.2 ++ [k])) (by show w14.ownsRow _ _ _ _ _ (_ ++ [Value.int .i64 (q : Int), .string (swT D.z (q, x.2 ++ [k]))]); rw [hnt]; exact hown14) hgrow14 (fun j e => (hown2.lt j e).1)
            have HZ := Lib.hid happ
            clear happ hV2 hV1 hV hown14 hgrow14 hat14 hlt14 b1 b2 b12 htwo hown2 bb
            go_wp2_with fail
            go_roundw
            case rel => exact ⟨k + 1, _, by go_num, by omega, Lib.hid (by rw [HC.out.1]; exact ⟨HC.out.2.1, HC.out.2.2.1⟩), by rw [HC.out.1]; exact HZ.out⟩
            case measure => simp [intOf]; omega
        · obtain rfl : X = k := by omega
          have k2 : decide (X < X) = false := decide_eq_false (by omega)
          have hfull : rowSW D.aut.nx x X o = rowSW D.aut.nx x D.aut.wide o := by rw [HP.out.2.2.2.2]
          have hfu1 : ∃ fu', fu = fu' + 1 := ⟨fu - 1, by have := HFU.out; have := HF.out.2.2.2.2; omega⟩
          obtain ⟨fu', rfl⟩ := hfu1
          have heq := hI.out.1.next HX.out
          rw [← hfull] at heq
          obtain ⟨tl', htl'⟩ := rowSW_pre D.aut.nx x X o
          have htake : (rowSW D.aut.nx x X o).take (i + 1) = o.take (i + 1) := by
            rw [htl', List.take_append_of_le_length (by omega)]
          have hlen : i + 1 ≤ (rowSW D.aut.nx x X o).length := by rw [htl', List.length_append]; omega
          obtain ⟨o2, ho2⟩ : ∃ o2, rowSW D.aut.nx x X o = o2 := ⟨_, rfl⟩
          rw [ho2] at heq htake hlen hA
          have hI3 := hI2.out
          rw [ho2] at hI3
          rw [← htake] at hA
          have HC := Lib.hid (And.intro heq (And.intro hI3 hA))
          clear hfull heq htl htl' htake hI3 hA ho2
          go_wp2_with fail
          go_roundw
          case rel => exact ⟨i + 1, fu', o2, T', by go_num, hlen, by have := HFU.out; omega, Lib.hid ⟨HC.out.1, HC.out.2.1.1, HC.out.2.1.2⟩, HC.out.2.2⟩
          case measure =>
            have := HFU.out
            have := HF.out.2.2.2.2
            simp [intOf]; omega
    · obtain rfl : i = o.length := by omega
      have k1 : decide (o.length < o.length) = false := decide_eq_false (by omega)
      have hdone := hI.out.1.done
      rw [List.take_length] at hA
      obtain ⟨a6, c6, rfl⟩ := own_shape hA.l
      obtain ⟨sn, hch⟩ := hA.c
      rw [hz1] at hch
      have hlw : w.heap.size + 1 < wr.heap.size := by have := hA.l0; have := hA.l1; omega
      have hcl := Conc.below_setChan hA.b (Nat.le_refl _) M ((o.map (swV D.z)).toArray) true sn 0 false
      rw [hz1] at hcl
      have hnew := Conc.heap_setChan wr (w.heap.size + 1) M ((o.map (swV D.z)).toArray) true sn 0 false hlw
      have hbw : Below w.heap.size w W := H.out.1
      have hcls := run_close_open (P := Tryz.prog) #[65] 0 hch
      have HZ := Lib.hid (And.intro hdone (And.intro hcl (And.intro hnew hbw)))
      clear hA hdone hcl hnew hbw
      go_wp2_with fail
      go_ret
      refine ⟨w.heap.size + 1, rfl, by omega, ⟨sn, ?_⟩, ?_⟩
      · rw [HZ.out.1]
        exact HZ.out.2.2.1
      · exact HZ.out.2.2.2.trans (HZ.out.2.1.mono (by omega))
end Go.Proofs.YtmmlakheimfijaaGreatDoor
