/-
  The walk of the reference's Of: the canonical automaton. Conditions: the automaton lies in memory.
-/
import Derived.Test.YtpcoijjcjamgiaaGreatDoorJAuRefFam
import Derived.Deep.DeepCutAuto
namespace Go.Proofs.YtpcoijjcjamgiaaGreatDoor
set_option linter.unusedVariables false
set_option linter.unusedSimpArgs false
open Go.RowKit Go.Maps Go.Sort Go.ChangeShapes Go.WideShapes

theorem sameF_eqB {D : DfaI} (hR : RightD D) {U : Nat → Nat → Bool} (hU : ∀ p q, p < D.next.length → q < D.next.length → (U p q = true ↔ ¬ D.aut.Eqv p q)) {a b : Nat} (ha : a < 256) (hb : b < 256) : sameF D U (reachL D.aut) a b = eqB (langD D) b a := by
  have hb1 := hR.blk.1.blk
  apply Bool.eq_iff_iff.2
  rw [eqB_comm]
  show _ ↔ eqB (D.aut.lang (blkF D.z)) a b = true
  rw [eqB_reach hb1 ha hb]
  unfold sameF
  rw [List.all_eq_true]
  have hm : D.aut.many = D.next.length := D.nx_len
  have hlt : ∀ {n : Nat} {c : Nat}, Reach D.aut n → c < 256 → D.aut.nx n (D.blk c) < D.next.length := fun {n c} hn hc => by
    rw [← hm]
    exact hR.ok.nxt n _ (hn.lt hR.ok) (hb1.lt c hc)
  constructor
  · intro h n hn
    have := h n ((reachL_mem hR.ok).2 hn)
    refine Classical.byContradiction fun hne => ?_
    rw [(hU _ _ (hlt hn ha) (hlt hn hb)).2 hne] at this
    cases this
  · intro h n hn
    have hr := (reachL_mem hR.ok).1 hn
    cases hu : U (D.aut.nx n (D.blk a)) (D.aut.nx n (D.blk b)) with
    | false => rfl
    | true => exact absurd (h n hr) ((hU _ _ (hlt hr ha) (hlt hr hb)).1 hu)
/-- what the reference's Of puts out -/
structure OutR (w : World) (B oB : Nat) (fv bv nv : Value) (ms : List Value) (fins : List Bool) : Prop where
  q : Blk w oB 26 #[.int .i64 0, fv, bv, nv]
  fin : w.ownsRow B 4 1 fv fins.length (fins.map .bool)
  nxt : w.ownsRow B 23 1 nv ms.length ms
section
variable {w w' : World} {B oB : Nat} {fv bv nv : Value} {ms : List Value} {fins : List Bool}
theorem OutR.below (h : OutR w B oB fv bv nv ms fins) (hb : Below w.heap.size w w') : OutR w' B oB fv bv nv ms fins :=
  ⟨h.q.below hb h.q.lt, own_only h.fin (Only.of_below (S := []) hb) (by simp), own_only h.nxt (Only.of_below (S := []) hb) (by simp)⟩
theorem OutR.grown {row : Option Nat} {e : TypeId} {v : Value} {n : Nat} {xs : List Value} (h : OutR w B oB fv bv nv ms fins) (hg : w.grownBy w' row) (hv : w.ownsRow B e 1 v n xs) (hrow : row = v.ownBlock) (h1 : e ≠ 26) (h2 : e ≠ 4) (h3 : e ≠ 23) : OutR w' B oB fv bv nv ms fins := by
  subst hrow
  refine ⟨h.q.grown hg (fun e2 => own_blk_ne hv h.q h1 e2.symm), ?_, ?_⟩
  · refine h.fin.kept hg ?_
    cases hf : fv.ownBlock with
    | none => exact .inl rfl
    | some q => exact .inr fun e2 => own_ne h.fin hv (fun e3 => h2 e3.symm) q hf e2.symm
  · refine h.nxt.kept hg ?_
    cases hf : nv.ownBlock with
    | none => exact .inl rfl
    | some q => exact .inr fun e2 => own_ne h.nxt hv (fun e3 => h3 e3.symm) q hf e2.symm
theorem OutR.set {i : Nat} {u fv' bv' nv' : Value} (h : OutR w B oB fv bv nv ms fins) (hq : (#[Value.int .i64 0, fv, bv, nv] : Array Value).setIfInBounds i u = #[.int .i64 0, fv', bv', nv']) (hf : w.ownsRow B 4 1 fv' fins.length (fins.map .bool)) (hn : w.ownsRow B 23 1 nv' ms.length ms) : OutR (w.setCell ⟨oB, i, none⟩ u) B oB fv' bv' nv' ms fins :=
  ⟨by have := h.q.set_ i u; rwa [hq] at this, own_set hf _ (own_blk_ne hf h.q (by decide)), own_set hn _ (own_blk_ne hn h.q (by decide))⟩
theorem Fam.out {l : List (Value × List Nat)} {i : Nat} {u : Value} (h : Fam w B l) (ho : Blk w oB 26 #[.int .i64 0, fv, bv, nv]) : Fam (w.setCell ⟨oB, i, none⟩ u) B l :=
  h.set fun x hx => own_blk_ne (h.own x hx) ho (by decide)
theorem OutR.pushB {w3 : World} {l : List (Value × List Nat)} {bs : List Nat} {x g cap : Nat} (h : OutR w B oB fv bv nv ms fins) (hF : Fam w B ((bv, bs) :: l)) (hown : w3.ownsRow B 3 1 (.slice (some ⟨g, 0, none⟩) (bs.length + 1) cap) (bs.length + 1) (natCells bs ++ [.int .i64 (x : Int)])) (hgrow : (w.alloc (.cells #[.int .i64 (x : Int)] 3)).grownBy w3 bv.ownBlock)
    (hat : bv.ownBlock = some g ∨ g = (w.alloc (.cells #[.int .i64 (x : Int)] 3)).heap.size) :
    OutR (w3.setCell ⟨oB, 2, none⟩ (.slice (some ⟨g, 0, none⟩) (bs.length + 1) cap)) B oB fv (.slice (some ⟨g, 0, none⟩) (bs.length + 1) cap) nv ms fins ∧ Fam (w3.setCell ⟨oB, 2, none⟩ (.slice (some ⟨g, 0, none⟩) (bs.length + 1) cap)) B ((.slice (some ⟨g, 0, none⟩) (bs.length + 1) cap, bs ++ [x]) :: l) := by
  have hal := (Below.refl w.heap.size w).alloc (Nat.le_refl _) (.cells #[.int .i64 (x : Int)] 3)
  have h1 := (h.below hal).grown hgrow (hF.below hal).head rfl (by decide) (by decide) (by decide)
  have h2 := hF.push hown hgrow hat
  exact ⟨h1.set (by simp) h1.fin h1.nxt, h2.out h1.q⟩
theorem OutR.pushI {w3 : World} {l : List (Value × List Nat)} {v : Value} {xs : List Nat} {x g cap : Nat} (h : OutR w B oB fv bv nv ms fins) (hF : Fam w B ((v, xs) :: l)) (hown : w3.ownsRow B 3 1 (.slice (some ⟨g, 0, none⟩) (xs.length + 1) cap) (xs.length + 1) (natCells xs ++ [.int .i64 (x : Int)])) (hgrow : (w.alloc (.cells #[.int .i64 (x : Int)] 3)).grownBy w3 v.ownBlock)
    (hat : v.ownBlock = some g ∨ g = (w.alloc (.cells #[.int .i64 (x : Int)] 3)).heap.size) :
    OutR w3 B oB fv bv nv ms fins ∧ Fam w3 B ((.slice (some ⟨g, 0, none⟩) (xs.length + 1) cap, xs ++ [x]) :: l) := by
  have hal := (Below.refl w.heap.size w).alloc (Nat.le_refl _) (.cells #[.int .i64 (x : Int)] 3)
  exact ⟨(h.below hal).grown hgrow (hF.below hal).head rfl (by decide) (by decide) (by decide), hF.push hown hgrow hat⟩
theorem below_push {B0 : Nat} {w0 w3 : World} {v u : Value} {e : TypeId} {n : Nat} {xs : List Value} {t : TypeId} (hb : Below B0 w0 w) (hB : B0 ≤ B) (h : w.ownsRow B e 1 v n xs) (hgrow : (w.alloc (.cells #[u] t)).grownBy w3 v.ownBlock) (hsz : B0 ≤ w.heap.size) : Below B0 w0 w3 :=
  (hb.alloc hsz _).grown hgrow (by simp; omega) fun j e => Nat.le_trans hB (h.lt j e).1
theorem OutR.pushN {w3 : World} {l : List (Value × List Nat)} {u : Value} {g cap : Nat} (h : OutR w B oB fv bv nv ms fins) (hF : Fam w B l) (hown : w3.ownsRow B 23 1 (.slice (some ⟨g, 0, none⟩) (ms.length + 1) cap) (ms.length + 1) (ms ++ [u])) (hgrow : (w.alloc (.cells #[u] 23)).grownBy w3 nv.ownBlock) :
    OutR (w3.setCell ⟨oB, 3, none⟩ (.slice (some ⟨g, 0, none⟩) (ms.length + 1) cap)) B oB fv bv (.slice (some ⟨g, 0, none⟩) (ms.length + 1) cap) (ms ++ [u]) fins ∧ Fam (w3.setCell ⟨oB, 3, none⟩ (.slice (some ⟨g, 0, none⟩) (ms.length + 1) cap)) B l ∧ Blk w3 oB 26 #[.int .i64 0, fv, bv, nv] := by
  have hal := (Below.refl w.heap.size w).alloc (Nat.le_refl _) (.cells #[u] 23)
  have h1 := h.below hal
  have hF1 := hF.below hal
  have hq : Blk w3 oB 26 #[.int .i64 0, fv, bv, nv] := h1.q.grown hgrow fun e => own_blk_ne h1.nxt h1.q (by decide) e.symm
  have hf : w3.ownsRow B 4 1 fv fins.length (fins.map .bool) := by
    refine h1.fin.kept hgrow ?_
    cases hv : fv.ownBlock with
    | none => exact .inl rfl
    | some q => exact .inr fun e => own_ne h1.fin h1.nxt (by decide) q hv e.symm
  have hF3 : Fam w3 B l := hF1.grown hgrow fun x hx g' hg' e => own_ne (hF1.own x hx) h1.nxt (by decide) g' hg' e
  have h3 : OutR w3 B oB fv bv nv ms fins → True := fun _ => trivial
  refine ⟨⟨?_, own_set hf _ (own_blk_ne hf hq (by decide)), ?_⟩, hF3.out hq, hq⟩
  · have := hq.set_ 3 (.slice (some ⟨g, 0, none⟩) (ms.length + 1) cap)
    simpa using this
  · rw [List.length_append]
    exact own_set hown _ (own_blk_ne hown hq (by decide))
theorem OutR.pushF {w3 : World} {l : List (Value × List Nat)} {b : Bool} {g cap : Nat} (h : OutR w B oB fv bv nv ms fins) (hF : Fam w B l) (hown : w3.ownsRow B 4 1 (.slice (some ⟨g, 0, none⟩) (fins.length + 1) cap) (fins.length + 1) (fins.map .bool ++ [.bool b])) (hgrow : (w.alloc (.cells #[.bool b] 4)).grownBy w3 fv.ownBlock) :
    OutR (w3.setCell ⟨oB, 1, none⟩ (.slice (some ⟨g, 0, none⟩) (fins.length + 1) cap)) B oB (.slice (some ⟨g, 0, none⟩) (fins.length + 1) cap) bv nv ms (fins ++ [b]) ∧ Fam (w3.setCell ⟨oB, 1, none⟩ (.slice (some ⟨g, 0, none⟩) (fins.length + 1) cap)) B l ∧ Blk w3 oB 26 #[.int .i64 0, fv, bv, nv] := by
  have hal := (Below.refl w.heap.size w).alloc (Nat.le_refl _) (.cells #[.bool b] 4)
  have h1 := h.below hal
  have hF1 := hF.below hal
  have hq : Blk w3 oB 26 #[.int .i64 0, fv, bv, nv] := h1.q.grown hgrow fun e => own_blk_ne h1.fin h1.q (by decide) e.symm
  have hn : w3.ownsRow B 23 1 nv ms.length ms := by
    refine h1.nxt.kept hgrow ?_
    cases hv : nv.ownBlock with
    | none => exact .inl rfl
    | some q => exact .inr fun e => own_ne h1.nxt h1.fin (by decide) q hv e.symm
  have hF3 : Fam w3 B l := hF1.grown hgrow fun x hx g' hg' e => own_ne (hF1.own x hx) h1.fin (by decide) g' hg' e
  refine ⟨⟨?_, ?_, own_set hn _ (own_blk_ne hn hq (by decide))⟩, hF3.out hq, hq⟩
  · have := hq.set_ 1 (.slice (some ⟨g, 0, none⟩) (fins.length + 1) cap)
    simpa using this
  · rw [List.length_append, List.map_append]
    exact own_set hown _ (own_blk_ne hown hq (by decide))
theorem OutR.far (h : OutR w B oB fv bv nv ms fins) {a : Addr} (ha : a.block < B) (hoB : B ≤ oB) (u : Value) : OutR (w.setCell a u) B oB fv bv nv ms fins :=
  ⟨h.q.far (by omega) u, own_far h.fin ha u, own_far h.nxt ha u⟩
theorem Fam.far {l : List (Value × List Nat)} (h : Fam w B l) {a : Addr} (ha : a.block < B) (u : Value) : Fam (w.setCell a u) B l := ⟨fun x hx => own_far (h.own x hx) ha u, h.ap⟩
theorem OutR.dfaAt {rows : List (List Nat)} {blk : List Nat} (h : OutR w B oB fv bv nv ms fins) (hb : w.ownsRow B 3 1 bv blk.length (natCells blk)) (hr : ∀ x ∈ ms.zip rows, w.ownsRow B 3 1 x.1 x.2.length (natCells x.2)) (hl : ms.length = rows.length) : DfaAt w (.agg #[.int .i64 0, fv, bv, nv]) ⟨0, fins, intsOf blk, rows.map intsOf⟩ := by
  refine ⟨fv, bv, nv, rfl, boolsAt_own h.fin, (NatsAt.of_own hb).intsAt, ?_⟩
  rcases h.nxt.2 with ⟨rfl, h0⟩ | ⟨g, cap, cur, rfl, hB, hg, -⟩
  · exact ⟨none, 0, by rw [List.length_map, ← hl, h0], .inl (by rw [List.eq_nil_of_length_eq_zero (by omega : rows.length = 0)]; rfl)⟩
  · refine ⟨_, cap, by rw [List.length_map, ← hl], .inr ⟨g, 0, rfl, ?_, fun j l hj => ?_⟩⟩
    · rcases Nat.lt_or_ge g w.heap.size with hlt | hge
      · exact hlt
      · rw [Array.getElem?_eq_none hge] at hg; cases hg
    · rw [List.getElem?_map] at hj
      obtain ⟨l', hl', rfl⟩ := Option.map_eq_some_iff.1 hj
      have hjr := (List.getElem?_eq_some_iff.1 hl').1
      obtain ⟨u, hu⟩ : ∃ u, ms[j]? = some u := ⟨_, List.getElem?_eq_getElem (by omega)⟩
      have hz : (u, l') ∈ ms.zip rows := by
        refine List.mem_of_getElem? (i := j) ?_
        rw [List.getElem?_zip_eq_some]
        exact ⟨hu, hl'⟩
      refine ⟨u, ?_, (NatsAt.of_own (hr _ hz)).intsAt⟩
      rw [Nat.zero_add, h.nxt.cellAt j (by omega)]
      exact hu
end
/-! the states, met one by one -/
theorem bfs_at {E : Nat → Nat → Bool} {f : Nat → List Nat} {fu n : Nat} {o OL : List Nat} {x : Nat} (h : OL = bfs (addR E) f (fu + 1) n o) (hx : o[n]? = some x) (k : Nat) : ∃ t, OL = ((f x).take k).foldl (addR E) o ++ t := by
  rw [bfs, hx] at h
  simp only at h
  have e : (f x).foldl (addR E) o = ((f x).drop k).foldl (addR E) (((f x).take k).foldl (addR E) o) := by
    rw [← List.foldl_append, List.take_append_drop]
  obtain ⟨t1, ht1⟩ := foldR_pre E ((f x).drop k) (((f x).take k).foldl (addR E) o)
  obtain ⟨t2, ht2⟩ := bfs_pre E f fu (n + 1) ((f x).foldl (addR E) o)
  rw [e, ht1] at ht2
  exact ⟨t1 ++ t2, by rw [h, e, ht1, ht2, List.append_assoc]⟩
theorem bfs_next {E : Nat → Nat → Bool} {f : Nat → List Nat} {fu n : Nat} {o OL : List Nat} {x : Nat} (h : OL = bfs (addR E) f (fu + 1) n o) (hx : o[n]? = some x) : OL = bfs (addR E) f fu (n + 1) ((f x).foldl (addR E) o) := by
  rw [bfs, hx] at h
  exact h
theorem bfs_done {E : Nat → Nat → Bool} {f : Nat → List Nat} {fu : Nat} {o OL : List Nat} (h : OL = bfs (addR E) f fu o.length o) : OL = o := by
  cases fu with
  | zero => exact h
  | succ fu =>
    rw [bfs, List.getElem?_eq_none (Nat.le_refl _)] at h
    exact h
theorem add_in {E : Nat → Nat → Bool} (hE : ∀ x, E x x = true) {F : Nat} {o : List Nat} {x : Nat} (h : o.Nodup ∧ ∀ y ∈ o, y < F) (hx : x < F) : (addR E o x).Nodup ∧ ∀ y ∈ addR E o x, y < F := by
  unfold addR
  split
  · exact h
  · rename_i hn
    refine ⟨?_, fun y hy => ?_⟩
    · rw [List.nodup_append]
      refine ⟨h.1, by simp, fun a ha b hb e => hn (List.any_eq_true.2 ⟨a, ha, ?_⟩)⟩
      obtain rfl := List.mem_singleton.1 hb
      rw [e]
      exact hE _
    · rcases List.mem_append.1 hy with hy | hy
      · exact h.2 y hy
      · obtain rfl := List.mem_singleton.1 hy
        exact hx
theorem nodup_le {F : Nat} {o : List Nat} (h : o.Nodup ∧ ∀ y ∈ o, y < F) : o.length ≤ F := by
  have := nodup_sub o (List.range F) h.1 fun y hy => by simpa using h.2 y hy
  simpa using this
/-- the place in the list as it will be -/
theorem idx_late {E : Nat → Nat → Bool} (hE : ∀ x, E x x = true) {o OL t : List Nat} {x : Nat} (h : OL = addR E o x ++ t) : idxR E OL x = idxR E (addR E o x) x := by
  rw [h, idxR_pre t (addR_any (hE x))]

set_option maxHeartbeats 16000000 in
set_option maxRecDepth 1000000 in
theorem refof_any (v : Value) (D : DfaI) (w : World) (h : DfaAt w v D) (hD : D.In) : Calls Tryz.prog 15 #[v] w fun e w' => ∃ rv, e = .returned rv ∧ DfaAt w' rv (ofD D) ∧ Below w.heap.size w w' := by
  obtain ⟨S, af, ab, an, F, B, M, cf, cb, cn, hS, hF, hB, hM, rfl⟩ := h.form
  have hal := (Below.refl w.heap.size w).alloc (Nat.le_refl _) (.cells #[.int .i64 S, .slice af F cf, .slice ab B cb, .slice an M cn] 26)
  have hz0 : (w.alloc (.cells #[.int .i64 S, .slice af F cf, .slice ab B cb, .slice an M cn] 26)).heap.size = w.heap.size + 1 := by simp
  have hal2 := hal.alloc (by omega) (.cells #[.int .i64 0, .slice none 0 0, .slice none 0 0, .slice none 0 0] 26)
  have hq := (Blk.new w 26 #[.int .i64 S, .slice af F cf, .slice ab B cb, .slice an M cn]).alloc (.cells #[.int .i64 0, .slice none 0 0, .slice none 0 0, .slice none 0 0] 26)
  have hr := Blk.new (w.alloc (.cells #[.int .i64 S, .slice af F cf, .slice ab B cb, .slice an M cn] 26)) 26 #[.int .i64 0, .slice none 0 0, .slice none 0 0, .slice none 0 0]
  rw [hz0] at hr
  obtain ⟨⟨y0, y1, y2, y3⟩, -⟩ := hq.c4
  have H := Lib.hid (And.intro hal2 (And.intro (h.below hal2) (And.intro hq hr)))
  have HP := Lib.hid (And.intro hD (And.intro hS (And.intro hF (And.intro hB hM))))
  clear h hal hal2 hq hr hD hS hF hB hM hz0
  go_enter Tryz.func15, Tryz.ntmps15
  go_wp2_with fail
  generalize (w.alloc (.cells #[.int .i64 S, .slice af F cf, .slice ab B cb, .slice an M cn] 26)).alloc (.cells #[.int .i64 0, .slice none 0 0, .slice none 0 0, .slice none 0 0] 26) = W at *
  refine (refreached_any _ D W H.out.2.1 HP.out.1).mono ?_
  rintro e w1 ⟨rv, rfl, hown1, b1⟩
  obtain ⟨ra, rc, rfl⟩ := own_shape hown1
  clear y0 y1 y2 y3
  have H1 := Lib.hid (And.intro (H.out.1.trans (b1.mono H.out.1.size)) (And.intro (H.out.2.1.below b1) (And.intro (H.out.2.2.1.below b1 H.out.2.2.1.lt) (And.intro (H.out.2.2.2.below b1 H.out.2.2.2.lt) (own_base hown1 H.out.1.size)))))
  clear hown1 b1 H
  cases hr : rightD D with
  | false =>
    have hlen : (reachD D).length = 0 := by unfold reachD; rw [if_neg (by rw [hr]; decide)]; rfl
    have k1 : (((reachD D).length : Int) == 0) = true := by simp [hlen]
    have hof := ofD_neg hr
    obtain ⟨⟨r0, r1, r2, r3⟩, f0, f1, f2, f3⟩ := H1.out.2.2.2.1.c4
    have hb4 := blk_set4 H1.out.2.2.2.1 (.int .i64 0) (.slice none 0 0) (.slice none 0 0) (.slice none 0 0)
    obtain ⟨⟨r0', r1', r2', r3'⟩, -⟩ := hb4.c4
    have ho4 := only_set4 w1 (w.heap.size + 1) (.int .i64 0) (.slice none 0 0) (.slice none 0 0) (.slice none 0 0)
    have hbl := ho4.below (B := w.heap.size) (by have := H1.out.1.size; omega) (by simp)
    have HO := Lib.hid (And.intro hof (H1.out.1.trans hbl))
    clear hr hlen hof hbl
    go_wp2_with fail
    refine bodyPost_ret (v := .agg #[.int .i64 0, .slice none 0 0, .slice none 0 0, .slice none 0 0]) (by simp [results, Tryz.results15, go_sem, r0', r1', r2', r3']) rfl ⟨_, rfl, ?_, HO.out.2⟩
    rw [HO.out.1]
    exact ⟨_, _, _, rfl, ⟨none, 0, rfl, .inl rfl⟩, ⟨none, 0, rfl, .inl rfl⟩, ⟨none, 0, rfl, .inl rfl⟩⟩
  | true =>
    have hR := rightD_iff.1 hr
    have hre : reachD D = reachL D.aut := by unfold reachD; rw [if_pos hr]
    have hstart : D.aut.start ∈ reachL D.aut := (reachL_mem hR.ok).2 (Reach.start _)
    have hpos := List.length_pos_of_mem hstart
    rw [← hre] at hpos
    have k1 : (((reachD D).length : Int) == 0) = false := by rw [beq_eq_false_iff_ne]; omega
    obtain ⟨⟨y0, y1, y2, y3⟩, -⟩ := H1.out.2.2.1.c4
    obtain ⟨RL, hRL⟩ : ∃ n, (reachD D).length = n := ⟨_, rfl⟩
    have H1' := H1.out.2.2.2.2
    rw [hRL] at H1' hpos k1 ⊢
    have HR := Lib.hid (And.intro hR (And.intro hre (And.intro hRL H1')))
    clear hr hR hre hstart hRL H1'
    go_wp2_with fail
    clear y0 y1 y2 y3
    refine (refunlike_any _ D w1 H1.out.2.1 HR.out.1).mono ?_
    rintro e w2 ⟨vo, go, U, rfl, hmat, hU, b2⟩
    have hML : D.next.length = M := HP.out.2.2.2.2
    obtain rfl : F = M := by rw [← HP.out.2.2.1, HR.out.1.fin, hML]
    obtain rfl : B = 256 := by rw [← HP.out.2.2.2.1, HR.out.1.blk.2]
    obtain ⟨S0, rfl⟩ : ∃ S0 : Nat, S = S0 := ⟨S.toNat, by have h1 := HR.out.1.s0; have h2 := HP.out.2.1; omega⟩
    have hM4 : F ≤ 4096 := by have := HR.out.1.m2; omega
    have hM1 : 1 ≤ F := by have := HR.out.1.m1; omega
    have hSF : S0 < F := by have h1 := HR.out.1.s1; have h2 := HP.out.2.1; omega
    have hw256 := HR.out.1.wide_le
    have hst : D.aut.start = S0 := by show D.start.toNat = S0; have h2 := HP.out.2.1; omega
    rw [hML] at hmat hU
    obtain ⟨ob, oc, rfl⟩ := hmat.form (by omega)
    have hcut := (H1.out.2.1.below b2).rcut
    have hd : RefD w2 w.heap.size D S0 F af ab an cf cb cn := ⟨H1.out.2.2.1.below b2 H1.out.2.2.1.lt, hcut.1, hcut.2.1, hcut.2.2⟩
    have hNR : NatsAt w2 (.slice ra RL rc) (reachD D) := by
      have := own_only HR.out.2.2.2 (Only.of_below (S := []) b2) (by simp)
      have e := HR.out.2.2.1
      subst e
      exact NatsAt.of_own this
    have hRM : ∀ n ∈ reachD D, n < F := fun n hn => by
      rw [HR.out.2.1] at hn
      have := ((reachL_mem HR.out.1.ok).1 hn).lt HR.out.1.ok
      have e : D.aut.many = D.next.length := D.nx_len
      omega
    have hRl : (reachD D).length ≤ 1000000 := by
      rw [HR.out.2.1]
      have := reachL_len D.aut
      have e : D.aut.many = D.next.length := D.nx_len
      omega
    have hUb : ∀ a b, a < 256 → b < 256 → sameF D U (reachD D) a b = eqB (langD D) b a := fun a b ha hb => by
      rw [HR.out.2.1]
      exact sameF_eqB HR.out.1 (by rw [hML]; exact hU) ha hb
    have hUe : ∀ p q, p < F → q < F → U p q = !eqvB D.aut q p := fun p q hp hq => by
      have := hU p q hp hq
      rw [eqvB_comm]
      unfold eqvB
      cases hu : U p q with
      | true => simp [this.1 hu]
      | false =>
        have : D.aut.Eqv p q := Classical.byContradiction fun hn => by rw [this.2 hn] at hu; cases hu
        simp [this]
    have hq := Blk.new w2 26 #[.int .i64 0, .slice none 0 0, .slice none 0 0, .slice none 0 0]
    have hal := (Below.refl w2.heap.size w2).alloc (Nat.le_refl _) (.cells #[.int .i64 0, .slice none 0 0, .slice none 0 0, .slice none 0 0] 26)
    have hbw2 := H1.out.1.trans (b2.mono H1.out.1.size)
    have hzo := hbw2.size
    have hR2 := H1.out.2.2.2.1.below b2 H1.out.2.2.2.1.lt
    have HA := Lib.hid (And.intro hd (And.intro hNR (And.intro (hmat.base H1.out.1.size) (And.intro hbw2 (And.intro hR2 (H1.out.2.1.below b2))))))
    have HU := Lib.hid (And.intro hUb (And.intro hUe (And.intro hRM (And.intro hRl (And.intro hML hst)))))
    have HQ := Lib.hid (And.intro hq hal)
    obtain ⟨L, hL⟩ : ∃ L, langD D = L := ⟨_, rfl⟩
    have HL := Lib.hid hL
    obtain ⟨i0, hi0, hz00, hz01, hz02⟩ := info_parts infoInt
    clear hmat hU hcut hd hNR hRM hRl hUb hUe hq hal hbw2 hR2 hML hst H1 b2 hL
    go_wp2_with fail
    generalize w2.alloc (.cells #[.int .i64 0, .slice none 0 0, .slice none 0 0, .slice none 0 0] 26) = W2 at *
    go_loopw [6, 7] (fun v6 c wr => ∃ (b : Nat) (bv : Value), c = .int .i64 b ∧ b ≤ 256 ∧ OutR wr w2.heap.size w2.heap.size (.slice none 0 0) bv (.slice none 0 0) [] [] ∧ Fam wr w2.heap.size [(v6, preB L b), (bv, (List.range b).map (blockL L))] ∧ RowKit.Below w2.heap.size w2 wr) (fun _ c _ => 256 - (intOf c).toNat)
    case atStart => exact ⟨0, .slice none 0 0, rfl, by omega, ⟨HQ.out.1, World.ownsRow_nil _ _ _ _, World.ownsRow_nil _ _ _ _⟩, Fam.nil (Fam.nil ⟨fun x hx => (by cases hx), List.Pairwise.nil⟩), HQ.out.2⟩
    case round =>
      obtain ⟨b, bv, rfl, hb, hout, hfam, hbr⟩ := hrel
      obtain ⟨a6, c6, rfl⟩ := own_shape hfam.head
      by_cases hlb : b < 256
      · have k2 : decide ((b : Int) < 256) = true := decide_eq_true (by omega)
        obtain ⟨V, hV⟩ : ∃ V, V = wr := ⟨_, rfl⟩
        subst hV
        have hzV := hbr.size
        obtain ⟨o, ho⟩ : ∃ o, preB L b = o := ⟨_, rfl⟩
        obtain ⟨N, hN⟩ : ∃ N, o.length = N := ⟨_, rfl⟩
        have hN256 : N ≤ 256 := by
          have h1 := bytesL_len (L := L)
          obtain ⟨t, ht⟩ := bytesL_pre L (show b ≤ 256 by omega)
          rw [ht, List.length_append, ho, hN] at h1
          omega
        have ho256 : ∀ x ∈ o, x < 256 := fun x hx => by
          obtain ⟨t, ht⟩ := bytesL_pre L (show b ≤ 256 by omega)
          rw [ho] at ht
          exact bytesL_in L x (by rw [ht]; simp [hx])
        have hnx := preB_succ L b
        have hbl := blockL_pre L hlb
        rw [hnx, ho] at hbl
        rw [ho] at hnx hfam ⊢
        rw [hN] at hfam ⊢
        have hE : ∀ x ∈ o, sameF D U (reachD D) x b = eqB L b x := fun x hx => by rw [HU.out.1 x b (ho256 x hx) hlb, HL.out]
        have HX := Lib.hid (And.intro hout (And.intro hfam (And.intro hbr (And.intro hnx (And.intro hbl (And.intro ho256 (And.intro hE hN)))))))
        clear hout hfam hbr hnx hbl ho256 hE ho
        go_wp2_with fail
        go_loopw [8, 9] (fun c8 c9 wr => ∃ k : Nat, c9 = .int .i64 k ∧ k ≤ N ∧ c8 = .int .i64 (sr (eqB L b) o k) ∧ RowKit.Below V.heap.size V wr) (fun _ c _ => N - (intOf c).toNat)
        case atStart => exact ⟨0, rfl, by omega, by rw [sr_zero], RowKit.Below.refl _ _⟩
        case round =>
          obtain ⟨k, rfl, hk, rfl, hbV⟩ := hrel
          obtain ⟨ak, hak⟩ : ∃ a, sr (eqB L b) o k = a := ⟨_, rfl⟩
          have hle := sr_le (eqB L b) o k
          rw [hak] at hle ⊢
          rw [HX.out.2.2.2.2.2.2.2] at hle
          by_cases hgo : k < N ∧ ak < 0
          · have k3 : decide (k < N) = true := decide_eq_true hgo.1
            have k4 : decide (ak < 0) = true := decide_eq_true hgo.2
            obtain ⟨hkN, hak0⟩ := hgo
            obtain ⟨x, hx⟩ : ∃ x, o[k]? = some x := ⟨_, List.getElem?_eq_getElem (by rw [HX.out.2.2.2.2.2.2.2]; exact hkN)⟩
            have hxm := List.mem_of_getElem? hx
            have hx256 := HX.out.2.2.2.2.2.1 x hxm
            have hfamw := HX.out.2.1.below hbV
            have hfh := hfamw.head
            rw [HX.out.2.2.2.2.2.2.2] at hfh
            have hnat : NatsAt wr (.slice a6 N c6) o := by
              have h := hfh
              rw [← HX.out.2.2.2.2.2.2.2] at h ⊢
              exact NatsAt.of_own h
            obtain ⟨b6, o6, rfl, m0⟩ := hnat.get hx
            have hbw2V := HX.out.2.2.1.trans (hbV.mono hzV)
            have hd := HA.out.1.below hbw2V
            obtain ⟨⟨y0, y1, y2, y3⟩, -⟩ := hd.q.c4
            have hcall : ∀ V', RowKit.Below wr.heap.size wr V' → Calls Tryz.prog 42 #[.agg #[.int .i64 (S0 : Int), .slice af F cf, .slice ab 256 cb, .slice an F cn], .slice ra RL rc, .slice (some ⟨ob, 0, none⟩) F oc, .int .i64 (x : Int), .int .i64 (b : Int)] V' fun e w' => e = .returned (.bool (eqB L b x)) ∧ RowKit.Below V'.heap.size V' w' := fun V' hV' => by
              have hbb := hbw2V.trans (hV'.mono hbw2V.size)
              have := refsamebytes_any (.agg #[.int .i64 (S0 : Int), .slice af F cf, .slice ab 256 cb, .slice an F cn]) (.slice ra RL rc) (.slice (some ⟨ob, 0, none⟩) F oc) D (reachD D) go U x b w.heap.size V' (HA.out.2.2.2.2.2.below hbb) HR.out.1 (HA.out.2.1.below hbb) HU.out.2.2.2.1 (by rw [HU.out.2.2.2.2.1]; exact HU.out.2.2.1) (by rw [HU.out.2.2.2.2.1]; exact HA.out.2.2.1.below hbb) hx256 hlb
              rw [HX.out.2.2.2.2.2.2.1 x hxm] at this
              exact this
            obtain ⟨t, ht⟩ : ∃ t, eqB L b x = t := ⟨_, rfl⟩
            rw [ht] at hcall
            have HS := Lib.hid (And.intro hx (And.intro ht (And.intro hak hbV)))
            clear hfamw hfh hnat hbw2V hd hx ht hak hbV
            go_wp2_with fail
            refine wp_region_T [] (by kernel_rfl) ?_
            intro V1 bb
            have lc : ∀ {p : Addr} {v : Value}, wr.cell? p = some v → ∀ d os, (Sort.grow (redrawn V1 d) os).cell? p = some v := fun {p v} hp d os => ((bb.trans ((below_regrown V1 d os).mono bb.size)).cell (World.block_lt_of_cell? wr p hp)).trans hp
            have q0 := lc y0
            have q1 := lc y1
            have q2 := lc y2
            have q3 := lc y3
            have q4 := lc m0
            clear lc
            clear y0 y1 y2 y3 m0
            refine stepsQ [0, 1, 2, 3, 4, 5, 6, 7] (by kernel_rfl) (by kernel_rfl) (by kernel_rfl) (Grown.of_below (Below.refl _ _)) ?_
            simp only [atIdx, List.filterMap_cons, List.filterMap_nil, List.getElem?_toArray, List.getElem_toArray, List.getElem?_cons_zero, List.getElem?_cons_succ, List.getElem_cons_zero, List.getElem_cons_succ]
            iterate 8 (show wpQuiet _ _ _ _ (_ :: _) _; go_big_quiet_step (fail))
            refine wpQuiet_nil ?_
            show stepT _ _ _ _ _ _ _ _ _
            refine stepS (i := 8) rfl (by kernel_rfl) ?_
            intro K hK
            go_simp
            refine (hcall V1 bb).mono ?_
            rintro e w5 ⟨rfl, b5⟩
            refine hK _ _ ⟨fun _ => Grown.of_below b5, ?_⟩
            clear hK K
            refine stepT_end (by kernel_rfl) ?_
            have HB5 := Lib.hid (HS.out.2.2.2.trans ((bb.trans (b5.mono bb.size)).mono HS.out.2.2.2.size))
            clear b5 bb hcall q0 q1 q2 q3 q4
            cases t with
            | true =>
              have hhit := sr_hit (p := eqB L b) (l := o) (k := k) (by rw [HS.out.2.2.1]; exact hak0) HS.out.1 HS.out.2.1
              have HT := Lib.hid hhit
              clear hhit
              go_wp2_with fail
              go_roundw
              case rel => exact ⟨k + 1, by go_num, by omega, by rw [HT.out], HB5.out⟩
              case measure => simp [intOf]; omega
            | false =>
              have hmiss := sr_miss (p := eqB L b) (l := o) (k := k) (by rw [HS.out.2.2.1]; exact hak0) HS.out.1 HS.out.2.1
              rw [HS.out.2.2.1] at hmiss
              have HT := Lib.hid hmiss
              clear hmiss
              go_wp2_with fail
              go_roundw
              case rel => exact ⟨k + 1, by go_num, by omega, by rw [HT.out], HB5.out⟩
              case measure => simp [intOf]; omega
          · have hend := sr_end (p := eqB L b) (l := o) (k := k) (by
              rw [HX.out.2.2.2.2.2.2.2, hak]
              rcases Classical.em (k < N) with h1 | h1
              · exact .inr fun h2 => hgo ⟨h1, h2⟩
              · exact .inl (by omega))
            rw [hak] at hend
            have hgo' : k < N → ¬ ak < 0 := fun h1 h2 => hgo ⟨h1, h2⟩
            have hfi := found_idx (eqB_refl L) o b
            have hfamw := HX.out.2.1.below hbV
            have houtw := HX.out.1.below hbV
            have hbsl : ((List.range b).map (blockL L)).length = b := by simp
            obtain ⟨ab_, cb_, rfl⟩ := own_shape (hfamw.tail).head
            rw [hbsl] at hfamw houtw
            by_cases hany : o.any (eqB L b) = true
            · rw [if_pos hany] at hend
              obtain ⟨ix, hix⟩ : ∃ ix, o.findIdx (eqB L b) = ix := ⟨_, rfl⟩
              rw [hix] at hend
              obtain rfl : (ix : Int) = ak := hend.symm
              have hf1 := hfi.1 hany
              rw [hix] at hf1
              have HB3 := Lib.hid hf1
              have hixl : ix ≤ 256 := by
                have := List.findIdx_le_length (p := eqB L b) (xs := o)
                rw [hix, HX.out.2.2.2.2.2.2.2] at this
                omega
              clear hany hix hf1 hfi hend hak hgo hgo'
              obtain ⟨⟨y0, y1, y2, y3⟩, -⟩ := houtw.q.c4
              have hbo := (hfamw.perm (List.Perm.swap _ _ _)).head
              rw [hbsl] at hbo
              have hbo1 := hbo.alloc (.cells #[.int .i64 ((ix : Nat) : Int)] 3)
              have hone := one_at (w := wr) (u := .int .i64 ((ix : Nat) : Int)) (t := 3)
              have hzr := hbV.size
              have hz2 := HX.out.2.2.1.size
              have k4 : decide ((ix : Int) < 0) = false := decide_eq_false (by omega)
              by_cases hkN : k < N
              · have k3 : decide (k < N) = true := decide_eq_true hkN
                go_wp2_with (at_builtin; refine wpList_append_lies _ rfl _ _ 23 rfl w2.heap.size 3 i0 (.int .i64 0) 1 8 Tryz.underlying23 hi0 hz00 hz01 hz02 rfl (by decide) _ _ _ rfl hbo1 ⟨wr.heap.size, 0, none⟩ 1 1 [.int .i64 ((ix : Nat) : Int)] rfl rfl hone (fun u hu => by simp at hu; subst hu; rfl) (by decide) (by unfold maxLen; omega) (by omega) (by simp; omega) _ rfl ?_; intro g11 cap11 w11 hown11 hgrow11 hat11 hlt11; have hpb := houtw.pushB (x := ix) (g := g11) (cap := cap11) (hfamw.perm (List.Perm.swap _ _ _)) (by rw [hbsl]; exact hown11) hgrow11 hat11; rw [hbsl] at hpb; have hqg := (houtw.below ((Below.refl wr.heap.size wr).alloc (Nat.le_refl _) (.cells #[.int .i64 ((ix : Nat) : Int)] 3))).grown hgrow11 hbo1 rfl (by decide) (by decide) (by decide); obtain ⟨⟨p0, p1, p2, p3⟩, f0, f1, f2, f3⟩ := hqg.q.c4)
                have hbel : RowKit.Below w2.heap.size w2 (w11.setCell ⟨w2.heap.size, 2, none⟩ (.slice (some ⟨g11, 0, none⟩) (b + 1) cap11)) := (below_push (HX.out.2.2.1.trans (hbV.mono hz2)) (Nat.le_refl _) hbo hgrow11 (by omega)).setCell (p := ⟨w2.heap.size, 2, none⟩) (Nat.le_refl _) _
                have HR2 := Lib.hid (And.intro hpb.1 (And.intro (hpb.2.perm (List.Perm.swap _ _ _)) hbel))
                clear hown11 hgrow11 hat11 hlt11 hpb hqg hbel hbo hbo1 hone p0 p1 p2 p3 f0 f1 f2 f3
                go_roundw
                case rel =>
                  refine ⟨b + 1, .slice (some ⟨g11, 0, none⟩) (b + 1) cap11, by go_num, by omega, HR2.out.1, ?_, HR2.out.2.2⟩
                  have hm := HR2.out.2.1
                  rw [HX.out.2.2.2.1, HB3.out.2, List.range_succ, List.map_append, List.map_singleton, HX.out.2.2.2.2.1, ← HB3.out.1]
                  exact hm
                case measure => simp [intOf]; omega
              · have k3 : decide (k < N) = false := decide_eq_false hkN
                go_wp2_with (at_builtin; refine wpList_append_lies _ rfl _ _ 23 rfl w2.heap.size 3 i0 (.int .i64 0) 1 8 Tryz.underlying23 hi0 hz00 hz01 hz02 rfl (by decide) _ _ _ rfl hbo1 ⟨wr.heap.size, 0, none⟩ 1 1 [.int .i64 ((ix : Nat) : Int)] rfl rfl hone (fun u hu => by simp at hu; subst hu; rfl) (by decide) (by unfold maxLen; omega) (by omega) (by simp; omega) _ rfl ?_; intro g11 cap11 w11 hown11 hgrow11 hat11 hlt11; have hpb := houtw.pushB (x := ix) (g := g11) (cap := cap11) (hfamw.perm (List.Perm.swap _ _ _)) (by rw [hbsl]; exact hown11) hgrow11 hat11; rw [hbsl] at hpb; have hqg := (houtw.below ((Below.refl wr.heap.size wr).alloc (Nat.le_refl _) (.cells #[.int .i64 ((ix : Nat) : Int)] 3))).grown hgrow11 hbo1 rfl (by decide) (by decide) (by decide); obtain ⟨⟨p0, p1, p2, p3⟩, f0, f1, f2, f3⟩ := hqg.q.c4)
                have hbel : RowKit.Below w2.heap.size w2 (w11.setCell ⟨w2.heap.size, 2, none⟩ (.slice (some ⟨g11, 0, none⟩) (b + 1) cap11)) := (below_push (HX.out.2.2.1.trans (hbV.mono hz2)) (Nat.le_refl _) hbo hgrow11 (by omega)).setCell (p := ⟨w2.heap.size, 2, none⟩) (Nat.le_refl _) _
                have HR2 := Lib.hid (And.intro hpb.1 (And.intro (hpb.2.perm (List.Perm.swap _ _ _)) hbel))
                clear hown11 hgrow11 hat11 hlt11 hpb hqg hbel hbo hbo1 hone p0 p1 p2 p3 f0 f1 f2 f3
                go_roundw
                case rel =>
                  refine ⟨b + 1, .slice (some ⟨g11, 0, none⟩) (b + 1) cap11, by go_num, by omega, HR2.out.1, ?_, HR2.out.2.2⟩
                  have hm := HR2.out.2.1
                  rw [HX.out.2.2.2.1, HB3.out.2, List.range_succ, List.map_append, List.map_singleton, HX.out.2.2.2.2.1, ← HB3.out.1]
                  exact hm
                case measure => simp [intOf]; omega
            · rw [if_neg hany] at hend
              subst hend
              have hkN : ¬ k < N := fun h => hgo' h (by omega)
              have k3 : decide (k < N) = false := decide_eq_false hkN
              have hf1 := hfi.2 hany
              rw [HX.out.2.2.2.2.2.2.2] at hf1
              have HB3 := Lib.hid hf1
              clear hany hf1 hfi hak hgo hgo'
              obtain ⟨⟨y0, y1, y2, y3⟩, -⟩ := houtw.q.c4
              have hfo := hfamw.head
              rw [HX.out.2.2.2.2.2.2.2] at hfo
              have hfo1 := hfo.alloc (.cells #[.int .i64 (b : Int)] 3)
              have hone := one_at (w := wr) (u := .int .i64 (b : Int)) (t := 3)
              have hzr := hbV.size
              have hz2 := HX.out.2.2.1.size
              go_wp2_with (first
                | (at_builtin; refine wpList_append_lies _ rfl _ _ 23 rfl w2.heap.size 3 i0 (.int .i64 0) 1 8 Tryz.underlying23 hi0 hz00 hz01 hz02 rfl (by decide) _ _ _ rfl hfo1 ⟨wr.heap.size, 0, none⟩ 1 1 [.int .i64 (b : Int)] rfl rfl hone (fun u hu => by simp at hu; subst hu; rfl) (by decide) (by unfold maxLen; omega) (by omega) (by simp; omega) _ rfl ?_; intro g11 cap11 w11 hown11 hgrow11 hat11 hlt11; have hpf := houtw.pushI (x := b) (g := g11) (cap := cap11) hfamw (by rw [HX.out.2.2.2.2.2.2.2]; exact hown11) hgrow11 hat11; rw [HX.out.2.2.2.2.2.2.2] at hpf; have hbo := (hpf.2.perm (List.Perm.swap _ _ _)).head; rw [hbsl] at hbo; have hbo1 := hbo.alloc (.cells #[.int .i64 (N : Int)] 3); have hone2 := one_at (w := w11) (u := .int .i64 (N : Int)) (t := 3); have hbel1 : RowKit.Below w2.heap.size w2 w11 := below_push (HX.out.2.2.1.trans (hbV.mono hz2)) (Nat.le_refl _) hfo hgrow11 (by omega); have hz11 := hbel1.size; obtain ⟨⟨z0, z1, z2, z3⟩, -⟩ := hpf.1.q.c4)
                | (at_builtin; refine wpList_append_lies _ rfl _ _ 23 rfl w2.heap.size 3 i0 (.int .i64 0) 1 8 Tryz.underlying23 hi0 hz00 hz01 hz02 rfl (by decide) _ _ _ rfl hbo1 ⟨w11.heap.size, 0, none⟩ 1 1 [.int .i64 (N : Int)] rfl rfl hone2 (fun u hu => by simp at hu; subst hu; rfl) (by decide) (by unfold maxLen; omega) (by omega) (by simp; omega) _ rfl ?_; intro g12 cap12 w12 hown12 hgrow12 hat12 hlt12; have hpb := hpf.1.pushB (x := N) (g := g12) (cap := cap12) (hpf.2.perm (List.Perm.swap _ _ _)) (by rw [hbsl]; exact hown12) hgrow12 hat12; rw [hbsl] at hpb; have hqg := (hpf.1.below ((Below.refl w11.heap.size w11).alloc (Nat.le_refl _) (.cells #[.int .i64 (N : Int)] 3))).grown hgrow12 hbo1 rfl (by decide) (by decide) (by decide); obtain ⟨⟨p0, p1, p2, p3⟩, f0, f1, f2, f3⟩ := hqg.q.c4))
              have hbel : RowKit.Below w2.heap.size w2 (w12.setCell ⟨w2.heap.size, 2, none⟩ (.slice (some ⟨g12, 0, none⟩) (b + 1) cap12)) := (below_push hbel1 (Nat.le_refl _) hbo hgrow12 (by omega)).setCell (p := ⟨w2.heap.size, 2, none⟩) (Nat.le_refl _) _
              have HR2 := Lib.hid (And.intro hpb.1 (And.intro (hpb.2.perm (List.Perm.swap _ _ _)) hbel))
              clear hown11 hgrow11 hat11 hlt11 hown12 hgrow12 hat12 hlt12 hpb hpf hqg hbel hbel1 hbo hbo1 hfo hfo1 hone hone2 p0 p1 p2 p3 f0 f1 f2 f3
              go_roundw
              case rel =>
                refine ⟨b + 1, .slice (some ⟨g12, 0, none⟩) (b + 1) cap12, by go_num, by omega, HR2.out.1, ?_, HR2.out.2.2⟩
                have hm := HR2.out.2.1
                rw [HX.out.2.2.2.1, HB3.out.2, List.range_succ, List.map_append, List.map_singleton, HX.out.2.2.2.2.1, ← HB3.out.1]
                exact hm
              case measure => simp [intOf]; omega
      · have hb256 : b = 256 := by omega
        have k2 : decide ((b : Int) < 256) = false := decide_eq_false (by omega)
        have hbL : preB L b = bytesL L := by rw [hb256]; unfold preB bytesL; rw [byteN_eq]
        have hrb : List.range b = List.range 256 := by rw [hb256]
        rw [hbL] at hfam ⊢
        rw [hrb] at hfam
        clear hb256 hbL hrb hb hlb
        obtain ⟨bl, hbl⟩ : ∃ bl, bytesL L = bl := ⟨_, rfl⟩
        have hbl256 : bl.length ≤ 256 := by rw [← hbl]; exact bytesL_len
        have hblb : ∀ x ∈ bl, x < 256 := fun x hx => bytesL_in L x (by rw [hbl]; exact hx)
        rw [hbl] at hfam ⊢
        obtain ⟨OL, hOL⟩ : ∃ OL, statesR D.aut D.blk = OL := ⟨_, rfl⟩
        have hbfs : OL = bfs (addR (eqvB D.aut)) (nextR D.aut D.blk bl) fuelL 0 [S0] := by
          rw [← hOL, statesR_bfs (d := D.aut) (blk := D.blk) HR.out.1.blk.1.blk]
          have e1 : bytesL (D.aut.lang D.blk) = bl := by rw [← hbl, ← HL.out]; rfl
          rw [e1, HU.out.2.2.2.2.2]
        rw [fuelL_eq] at hbfs
        obtain ⟨V, hV⟩ : ∃ V, V = wr := ⟨_, rfl⟩
        subst hV
        have hzV := hbr.size
        have hst0 := World.ownsRow_lit (base := w2.heap.size) (e := 3) (size := 1) V #[.int .i64 (S0 : Int)] 1 hzV (by decide) (by simp)
        have halV := (Below.refl V.heap.size V).alloc (Nat.le_refl _) (.cells #[.int .i64 (S0 : Int)] 3)
        have hf0 := (hfam.below halV).new (v := .slice (some ⟨V.heap.size, 0, none⟩) 1 1) (xs := [S0]) hst0 (fun x hx g hg hg2 => by
          have h1 := ((hfam.own x hx).lt g hg2).2
          obtain rfl : V.heap.size = g := Option.some.inj hg
          omega)
        have hd := HA.out.1.below hbr
        obtain ⟨⟨y0, y1, y2, y3⟩, -⟩ := hd.q.c4
        have HB := Lib.hid (And.intro hOL (And.intro hbl (And.intro hblb hbfs)))
        have HF := Lib.hid (And.intro hf0 (And.intro (hout.below halV) (hbr.trans (halV.mono hzV))))
        obtain ⟨s0, hs0, hs00, hs01, hs02⟩ := info_parts infoBool
        obtain ⟨r0, hr0, hr00, hr01, hr02⟩ := info_parts infoRow
        obtain ⟨v6, hv6⟩ : ∃ v, (.slice a6 bl.length c6 : Value) = v := ⟨_, rfl⟩
        rw [hv6] at HF
        have HV6 := Lib.hid hv6
        clear hOL hbl hblb hbfs hfam hout hbr hst0 halV hf0 hd hv6
        go_wp2_with fail
        clear y0 y1 y2 y3
        generalize V.alloc (.cells #[.int .i64 (S0 : Int)] 3) = V0 at *
        go_loopw [10, 11] (fun v10 c wr => ∃ (n fu : Nat) (o : List Nat) (ms : List Value) (fins : List Bool) (rows : List (List Nat)) (fv nv : Value), c = .int .i64 n ∧ n ≤ o.length ∧ F < n + fu ∧ Hid ((OL = bfs (addR (eqvB D.aut)) (nextR D.aut D.blk bl) fu n o ∧ (o.Nodup ∧ ∀ x ∈ o, x < F)) ∧ (fins = (o.take n).map D.aut.fin ∧ rows = (o.take n).map (fun p => (nextR D.aut D.blk bl p).map (idxR (eqvB D.aut) OL)) ∧ ms.length = rows.length)) ∧ OutR wr w2.heap.size w2.heap.size fv bv nv ms fins ∧ Fam wr w2.heap.size ((v10, o) :: (v6, bl) :: (bv, (List.range 256).map (blockL L)) :: ms.zip rows) ∧ RowKit.Below w2.heap.size w2 wr) (fun _ c _ => F - (intOf c).toNat)
        case atStart =>
          refine ⟨0, 5000, [S0], [], [], [], .slice none 0 0, .slice none 0 0, rfl, by simp, by omega, Lib.hid ⟨⟨HB.out.2.2.2, by simp, fun x hx => ?_⟩, by simp, by simp, rfl⟩, HF.out.2.1, HF.out.1, HF.out.2.2⟩
          obtain rfl := List.mem_singleton.1 hx
          exact hSF
        case round =>
          obtain ⟨n, fu, o, ms, fins, rows, fv, nv, rfl, hno, hfu, hh, hout, hfam, hbr⟩ := hrel
          obtain ⟨a10, c10, rfl⟩ := own_shape hfam.head
          have hoF := nodup_le hh.out.1.2
          by_cases hlo : n < o.length
          · have k2 : decide (n < o.length) = true := decide_eq_true hlo
            obtain ⟨x, hx⟩ : ∃ x, o[n]? = some x := ⟨_, List.getElem?_eq_getElem hlo⟩
            have hxF := hh.out.1.2.2 x (List.mem_of_getElem? hx)
            obtain ⟨fu', rfl⟩ : ∃ q, fu = q + 1 := ⟨fu - 1, by omega⟩
            have HH := Lib.hid (And.intro hx (And.intro hh.out (And.intro hout (And.intro hfam hbr))))
            clear hx hh hout hfam hbr
            go_wp2_with fail
            go_loopw [10, 12, 13] (fun v10 v12 c wr => ∃ (k : Nat) (o' : List Nat), c = .int .i64 k ∧ k ≤ bl.length ∧ Hid (o' = ((nextR D.aut D.blk bl x).take k).foldl (addR (eqvB D.aut)) o ∧ (o'.Nodup ∧ ∀ x ∈ o', x < F)) ∧ OutR wr w2.heap.size w2.heap.size fv bv nv ms fins ∧ Fam wr w2.heap.size ((v10, o') :: (v12, ((nextR D.aut D.blk bl x).take k).map (idxR (eqvB D.aut) OL)) :: (v6, bl) :: (bv, (List.range 256).map (blockL L)) :: ms.zip rows) ∧ RowKit.Below w2.heap.size w2 wr) (fun _ _ c _ => bl.length - (intOf c).toNat)
            case atStart => exact ⟨0, o, rfl, by omega, Lib.hid ⟨by simp, HH.out.2.1.1.2⟩, HH.out.2.2.1, (HH.out.2.2.2.1.nil).perm (List.Perm.swap _ _ _), HH.out.2.2.2.2⟩
            case round =>
              obtain ⟨k, o', rfl, hk, hh', hout, hfam, hbr⟩ := hrel
              obtain ⟨a10', c10', rfl⟩ := own_shape hfam.head
              obtain ⟨a12, c12, rfl⟩ := own_shape (hfam.tail).head
              have hoF' := nodup_le hh'.out.2
              have hrl : (((nextR D.aut D.blk bl x).take k).map (idxR (eqvB D.aut) OL)).length = k := by simp [nextR]; omega
              obtain ⟨rl, hrle⟩ : ∃ l, ((nextR D.aut D.blk bl x).take k).map (idxR (eqvB D.aut) OL) = l := ⟨_, rfl⟩
              rw [hrle] at hfam hrl ⊢
              rw [hrl] at hfam ⊢
              by_cases hlk : k < bl.length
              · have k3 : decide (k < bl.length) = true := decide_eq_true hlk
                obtain ⟨c, hc⟩ : ∃ c, bl[k]? = some c := ⟨_, List.getElem?_eq_getElem hlk⟩
                have hc256 := HB.out.2.2.1 c (List.mem_of_getElem? hc)
                have hd := HA.out.1.below hbr
                obtain ⟨⟨y0, y1, y2, y3⟩, -⟩ := hd.q.c4
                obtain ⟨bb_, ob_, rfl, m0, hkc⟩ := hd.blk HR.out.1 hc256
                obtain ⟨bn, on, bk, ok, cc, rfl, m1, m2⟩ := hd.row HR.out.1 HU.out.2.2.2.2.1 hxF
                obtain ⟨kc, hkce⟩ : ∃ j, D.blk c = j := ⟨_, rfl⟩
                rw [hkce] at m0 hkc
                obtain ⟨m3, htoF⟩ := m2 kc hkc
                obtain ⟨tq, hto⟩ : ∃ j, D.aut.nx x kc = j := ⟨_, rfl⟩
                rw [hto] at m3 htoF
                have hfk : (nextR D.aut D.blk bl x)[k]? = some tq := by
                  unfold nextR
                  rw [List.getElem?_map, hc]
                  simp only [Option.map_some]
                  rw [hkce, hto]
                obtain ⟨t0, ht0⟩ := foldR_pre (eqvB D.aut) ((nextR D.aut D.blk bl x).take k) o
                rw [← hh'.out.1] at ht0
                have hx' : o'[n]? = some x := by rw [ht0, List.getElem?_append_left hlo]; exact HH.out.1
                have hno' : n < o'.length := (List.getElem?_eq_some_iff.1 hx').1
                obtain ⟨b10, o10, rfl, m4⟩ := (NatsAt.of_own hfam.head).get hx'
                have hf6 := ((hfam.tail).tail).head
                have hn6 : NatsAt wr (.slice a6 bl.length c6) bl := by
                  have := NatsAt.of_own hf6
                  rwa [← HV6.out] at this
                obtain ⟨b6, o6, rfl, m5⟩ := hn6.get hc
                obtain ⟨t1, ht1⟩ := bfs_at HH.out.2.1.1.1 HH.out.1 (k + 1)
                have htk : (nextR D.aut D.blk bl x).take (k + 1) = (nextR D.aut D.blk bl x).take k ++ [tq] := by rw [List.take_add_one, hfk]; rfl
                rw [htk, List.foldl_append] at ht1
                rw [← hh'.out.1] at ht1
                have hidx := idx_late (eqvB_refl D.aut) ht1
                have hfold : addR (eqvB D.aut) o' tq = ((nextR D.aut D.blk bl x).take (k + 1)).foldl (addR (eqvB D.aut)) o := by rw [htk, List.foldl_append, ← hh'.out.1]; rfl
                have hin := add_in (eqvB_refl D.aut) hh'.out.2 htoF
                have hfi := found_idx (eqvB_refl D.aut) o' tq
                have HX := Lib.hid (And.intro hout (And.intro hfam (And.intro hbr (And.intro hidx (And.intro hfold (And.intro hin (And.intro hfi (And.intro htk hh'.out.2))))))))
                clear hout hfam hbr hidx hfold hin hfi htk hd hf6 hn6 m2 hc hkce hto hfk ht0 ht1 hx'
                go_wp2_with fail
                refine wp_region_T [] (by kernel_rfl) ?_
                intro V1 bb
                have lc : ∀ {p : Addr} {v : Value}, wr.cell? p = some v → ∀ d os, (Sort.grow (redrawn V1 d) os).cell? p = some v := fun {p v} hp d os => ((bb.trans ((below_regrown V1 d os).mono bb.size)).cell (World.block_lt_of_cell? wr p hp)).trans hp
                have q0 := lc y2
                have q1 := lc y3
                have q2 := lc m0
                have q3 := lc m1
                have q4 := lc m3
                have q5 := lc m4
                have q6 := lc m5
                clear lc
                clear y0 y1 y2 y3 m0 m1 m3 m4 m5
                refine stepsQ [0, 1, 2, 3, 4, 5, 6, 7, 8, 9, 10, 11, 12, 13, 14, 15, 16, 17, 18] (by kernel_rfl) (by kernel_rfl) (by kernel_rfl) (Grown.of_below (Below.refl _ _)) ?_
                simp only [atIdx, List.filterMap_cons, List.filterMap_nil, List.getElem?_toArray, List.getElem_toArray, List.getElem?_cons_zero, List.getElem?_cons_succ, List.getElem_cons_zero, List.getElem_cons_succ]
                iterate 19 (show wpQuiet _ _ _ _ (_ :: _) _; go_big_quiet_step (fail))
                refine wpQuiet_nil ?_
                show stepT _ _ _ _ _ _ _ _ _
                refine stepT_end (by kernel_rfl) ?_
                have HB1 := Lib.hid bb
                have hzb := bb.size
                clear bb q0 q1 q2 q3 q4 q5 q6
                go_wp2_with fail
                go_loopw [15, 16] (fun c15 c16 wr' => wr' = V1 ∧ ∃ i : Nat, c16 = .int .i64 i ∧ i ≤ o'.length ∧ c15 = .int .i64 (sr (eqvB D.aut tq) o' i)) (fun _ c _ => o'.length - (intOf c).toNat)
                case atStart => exact ⟨rfl, 0, rfl, by omega, by rw [sr_zero]⟩
                case round =>
                  obtain ⟨rfl, i, rfl, hi, rfl⟩ := hrel
                  obtain ⟨ak, hak⟩ : ∃ a, sr (eqvB D.aut tq) o' i = a := ⟨_, rfl⟩
                  have hle := sr_le (eqvB D.aut tq) o' i
                  rw [hak] at hle ⊢
                  by_cases hgo : i < o'.length ∧ ak < 0
                  · have k4 : decide (i < o'.length) = true := decide_eq_true hgo.1
                    have k5 : decide (ak < 0) = true := decide_eq_true hgo.2
                    obtain ⟨hio, hak0⟩ := hgo
                    obtain ⟨y, hy⟩ : ∃ y, o'[i]? = some y := ⟨_, List.getElem?_eq_getElem hio⟩
                    have hyF := HX.out.2.2.2.2.2.2.2.2.2 y (List.mem_of_getElem? hy)
                    obtain ⟨bq, oq, heq, m4⟩ := (NatsAt.of_own (HX.out.2.1.below HB1.out).head).get hy
                    obtain ⟨rfl, rfl⟩ : b10 = bq ∧ o10 = oq := by simpa using heq
                    obtain ⟨g0, g1, -⟩ := (HA.out.2.2.1.below (HX.out.2.2.1.trans (HB1.out.mono HX.out.2.2.1.size))).get hyF htoF
                    rw [HU.out.2.1 y tq hyF htoF] at g1
                    obtain ⟨t, ht⟩ : ∃ t, eqvB D.aut tq y = t := ⟨_, rfl⟩
                    rw [ht] at g1
                    have HS := Lib.hid (And.intro hy (And.intro ht hak))
                    clear hy ht hak heq
                    cases t with
                    | true =>
                      have hhit := sr_hit (p := eqvB D.aut tq) (l := o') (k := i) (by rw [HS.out.2.2]; exact hak0) HS.out.1 HS.out.2.1
                      have HT := Lib.hid hhit
                      clear hhit
                      go_wp2_with fail
                      go_roundw
                      case rel => exact ⟨by first | rfl | trivial, i + 1, by go_num, by omega, by rw [HT.out]⟩
                      case measure => simp [intOf]; omega
                    | false =>
                      have hmiss := sr_miss (p := eqvB D.aut tq) (l := o') (k := i) (by rw [HS.out.2.2]; exact hak0) HS.out.1 HS.out.2.1
                      rw [HS.out.2.2] at hmiss
                      have HT := Lib.hid hmiss
                      clear hmiss
                      go_wp2_with fail
                      go_roundw
                      case rel => exact ⟨by first | rfl | trivial, i + 1, by go_num, by omega, by rw [HT.out]⟩
                      case measure => simp [intOf]; omega
                  · have hend := sr_end (p := eqvB D.aut tq) (l := o') (k := i) (by
                      rw [hak]
                      rcases Classical.em (i < o'.length) with h1 | h1
                      · exact .inr fun h2 => hgo ⟨h1, h2⟩
                      · exact .inl (by omega))
                    rw [hak] at hend
                    have hgo' : i < o'.length → ¬ ak < 0 := fun h1 h2 => hgo ⟨h1, h2⟩
                    have hfi := HX.out.2.2.2.2.2.2.1
                    have hfamw := HX.out.2.1.below HB1.out
                    have houtw := HX.out.1.below HB1.out
                    have hbw := HX.out.2.2.1.trans (HB1.out.mono HX.out.2.2.1.size)
                    have hzw := hbw.size
                    have hbl256' := hbl256
                    by_cases hany : o'.any (eqvB D.aut tq) = true
                    · rw [if_pos hany] at hend
                      obtain ⟨ix, hix⟩ : ∃ ix, o'.findIdx (eqvB D.aut tq) = ix := ⟨_, rfl⟩
                      rw [hix] at hend
                      obtain rfl : (ix : Int) = ak := hend.symm
                      have hf1 := hfi.1 hany
                      rw [hix] at hf1
                      have HB3 := Lib.hid hf1
                      have hixl : ix ≤ 5000 := by
                        have := List.findIdx_le_length (p := eqvB D.aut tq) (xs := o')
                        rw [hix] at this
                        omega
                      have hfs := hfamw.perm (List.Perm.swap _ _ _)
                      have hbo := hfs.head
                      rw [hrl] at hbo
                      have hbo1 := hbo.alloc (.cells #[.int .i64 ((ix : Nat) : Int)] 3)
                      have hone2 := one_at (w := wr) (u := .int .i64 ((ix : Nat) : Int)) (t := 3)
                      clear hany hix hf1 hfi hend hak hgo hgo' hfamw
                      have k5 : decide ((ix : Int) < 0) = false := decide_eq_false (by omega)
                      by_cases hio : i < o'.length
                      · have k4 : decide (i < o'.length) = true := decide_eq_true hio
                        go_wp2_with (at_builtin; refine wpList_append_lies _ rfl _ _ 23 rfl w2.heap.size 3 i0 (.int .i64 0) 1 8 Tryz.underlying23 hi0 hz00 hz01 hz02 rfl (by decide) _ _ _ rfl hbo1 ⟨wr.heap.size, 0, none⟩ 1 1 [.int .i64 ((ix : Nat) : Int)] rfl rfl hone2 (fun u hu => by simp at hu; subst hu; rfl) (by decide) (by unfold maxLen; omega) (by omega) (by simp; omega) _ rfl ?_; intro g12 cap12 w12 hown12 hgrow12 hat12 hlt12; have hpb := houtw.pushI (x := ix) (g := g12) (cap := cap12) hfs (by rw [hrl]; exact hown12) hgrow12 hat12; rw [hrl] at hpb)
                        have hbel : RowKit.Below w2.heap.size w2 w12 := below_push hbw (Nat.le_refl _) hbo hgrow12 (by omega)
                        have hmap : rl ++ [ix] = ((nextR D.aut D.blk bl x).take (k + 1)).map (idxR (eqvB D.aut) OL) := by
                          rw [HX.out.2.2.2.2.2.2.2.1, List.map_append, List.map_singleton, hrle, HX.out.2.2.2.1, ← HB3.out.1]
                        have HR2 := Lib.hid (And.intro hpb.1 (And.intro (hpb.2.perm (List.Perm.swap _ _ _)) (And.intro hbel hmap)))
                        clear hown12 hgrow12 hat12 hlt12 hpb hbel hmap hbo hbo1 hone2 
                        go_roundw
                        case rel =>
                          refine ⟨k + 1, o', by go_num, by omega, Lib.hid ⟨?_, ?_⟩, HR2.out.1, ?_, HR2.out.2.2.1⟩
                          · rw [← HX.out.2.2.2.2.1, HB3.out.2]
                          · have := HX.out.2.2.2.2.2.1
                            rw [HB3.out.2] at this
                            exact this
                          · rw [← HR2.out.2.2.2]
                            exact HR2.out.2.1
                        case measure => simp [intOf]; omega
                      · have k4 : decide (i < o'.length) = false := decide_eq_false hio
                        go_wp2_with (at_builtin; refine wpList_append_lies _ rfl _ _ 23 rfl w2.heap.size 3 i0 (.int .i64 0) 1 8 Tryz.underlying23 hi0 hz00 hz01 hz02 rfl (by decide) _ _ _ rfl hbo1 ⟨wr.heap.size, 0, none⟩ 1 1 [.int .i64 ((ix : Nat) : Int)] rfl rfl hone2 (fun u hu => by simp at hu; subst hu; rfl) (by decide) (by unfold maxLen; omega) (by omega) (by simp; omega) _ rfl ?_; intro g12 cap12 w12 hown12 hgrow12 hat12 hlt12; have hpb := houtw.pushI (x := ix) (g := g12) (cap := cap12) hfs (by rw [hrl]; exact hown12) hgrow12 hat12; rw [hrl] at hpb)
                        have hbel : RowKit.Below w2.heap.size w2 w12 := below_push hbw (Nat.le_refl _) hbo hgrow12 (by omega)
                        have hmap : rl ++ [ix] = ((nextR D.aut D.blk bl x).take (k + 1)).map (idxR (eqvB D.aut) OL) := by
                          rw [HX.out.2.2.2.2.2.2.2.1, List.map_append, List.map_singleton, hrle, HX.out.2.2.2.1, ← HB3.out.1]
                        have HR2 := Lib.hid (And.intro hpb.1 (And.intro (hpb.2.perm (List.Perm.swap _ _ _)) (And.intro hbel hmap)))
                        clear hown12 hgrow12 hat12 hlt12 hpb hbel hmap hbo hbo1 hone2 
                        go_roundw
                        case rel =>
                          refine ⟨k + 1, o', by go_num, by omega, Lib.hid ⟨?_, ?_⟩, HR2.out.1, ?_, HR2.out.2.2.1⟩
                          · rw [← HX.out.2.2.2.2.1, HB3.out.2]
                          · have := HX.out.2.2.2.2.2.1
                            rw [HB3.out.2] at this
                            exact this
                          · rw [← HR2.out.2.2.2]
                            exact HR2.out.2.1
                        case measure => simp [intOf]; omega
                    · rw [if_neg hany] at hend
                      subst hend
                      have hio : ¬ i < o'.length := fun h => hgo' h (by omega)
                      have k4 : decide (i < o'.length) = false := decide_eq_false hio
                      have hf1 := hfi.2 hany
                      have HB3 := Lib.hid hf1
                      have hfo := hfamw.head
                      have hfo1 := hfo.alloc (.cells #[.int .i64 (tq : Int)] 3)
                      have hone := one_at (w := wr) (u := .int .i64 (tq : Int)) (t := 3)
                      clear hany hf1 hfi hak hgo hgo'
                      go_wp2_with (first
                        | (at_builtin; refine wpList_append_lies _ rfl _ _ 23 rfl w2.heap.size 3 i0 (.int .i64 0) 1 8 Tryz.underlying23 hi0 hz00 hz01 hz02 rfl (by decide) _ _ _ rfl hfo1 ⟨wr.heap.size, 0, none⟩ 1 1 [.int .i64 (tq : Int)] rfl rfl hone (fun u hu => by simp at hu; subst hu; rfl) (by decide) (by unfold maxLen; omega) (by omega) (by simp; omega) _ rfl ?_; intro g11 cap11 w11 hown11 hgrow11 hat11 hlt11; have hpf := houtw.pushI (x := tq) (g := g11) (cap := cap11) hfamw hown11 hgrow11 hat11; have hfs := hpf.2.perm (List.Perm.swap _ _ _); have hbo := hfs.head; rw [hrl] at hbo; have hbo1 := hbo.alloc (.cells #[.int .i64 ((o'.length : Nat) : Int)] 3); have hone2 := one_at (w := w11) (u := .int .i64 ((o'.length : Nat) : Int)) (t := 3); have hbel1 : RowKit.Below w2.heap.size w2 w11 := below_push hbw (Nat.le_refl _) hfo hgrow11 (by omega); have hz11 := hbel1.size)
                        | (at_builtin; refine wpList_append_lies _ rfl _ _ 23 rfl w2.heap.size 3 i0 (.int .i64 0) 1 8 Tryz.underlying23 hi0 hz00 hz01 hz02 rfl (by decide) _ _ _ rfl hbo1 ⟨w11.heap.size, 0, none⟩ 1 1 [.int .i64 ((o'.length : Nat) : Int)] rfl rfl hone2 (fun u hu => by simp at hu; subst hu; rfl) (by decide) (by unfold maxLen; omega) (by omega) (by simp; omega) _ rfl ?_; intro g12 cap12 w12 hown12 hgrow12 hat12 hlt12; have hpb := hpf.1.pushI (x := o'.length) (g := g12) (cap := cap12) hfs (by rw [hrl]; exact hown12) hgrow12 hat12; rw [hrl] at hpb))
                      have hbel : RowKit.Below w2.heap.size w2 w12 := below_push hbel1 (Nat.le_refl _) hbo hgrow12 (by omega)
                      have hmap : rl ++ [o'.length] = ((nextR D.aut D.blk bl x).take (k + 1)).map (idxR (eqvB D.aut) OL) := by
                        rw [HX.out.2.2.2.2.2.2.2.1, List.map_append, List.map_singleton, hrle, HX.out.2.2.2.1, ← HB3.out.1]
                      have HR2 := Lib.hid (And.intro hpb.1 (And.intro (hpb.2.perm (List.Perm.swap _ _ _)) (And.intro hbel hmap)))
                      clear hown12 hgrow12 hat12 hlt12 hpb hbel hmap hbo hbo1 hone2 hown11 hgrow11 hat11 hlt11 hpf hfs hbel1 hfo hfo1 hone
                      go_roundw
                      case rel =>
                        refine ⟨k + 1, o' ++ [tq], by go_num, by omega, Lib.hid ⟨?_, ?_⟩, HR2.out.1, ?_, HR2.out.2.2.1⟩
                        · rw [← HX.out.2.2.2.2.1, HB3.out.2]
                        · have := HX.out.2.2.2.2.2.1
                          rw [HB3.out.2] at this
                          exact this
                        · rw [← HR2.out.2.2.2]
                          exact HR2.out.2.1
                      case measure => simp [intOf]; omega
              · obtain rfl : bl.length = k := by omega
                have k3 : decide (bl.length < bl.length) = false := decide_eq_false (by omega)
                have hfl : (nextR D.aut D.blk bl x).length = bl.length := by simp [nextR]
                have hall : (nextR D.aut D.blk bl x).take bl.length = nextR D.aut D.blk bl x := by rw [← hfl, List.take_length]
                rw [hall] at hrle
                have ho' := hh'.out.1
                rw [hall] at ho'
                obtain ⟨t0, ht0⟩ := foldR_pre (eqvB D.aut) (nextR D.aut D.blk bl x) o
                rw [← ho'] at ht0
                have hx' : o'[n]? = some x := by rw [ht0, List.getElem?_append_left hlo]; exact HH.out.1
                have hno' : n < o'.length := (List.getElem?_eq_some_iff.1 hx').1
                have htk : o'.take (n + 1) = o.take n ++ [x] := by rw [ht0, List.take_append_of_le_length (by omega), List.take_add_one, HH.out.1]; rfl
                have hbn := bfs_next HH.out.2.1.1.1 HH.out.1
                rw [← ho'] at hbn
                have hfins := HH.out.2.1.2.1
                have hrows := HH.out.2.1.2.2.1
                have hmsr := HH.out.2.1.2.2.2
                have hfn : fins.length = n := by rw [hfins]; simp; omega
                have hmn : ms.length = n := by rw [hmsr, hrows]; simp; omega
                obtain ⟨anv, cnv, rfl⟩ := own_shape hout.nxt
                obtain ⟨afv, cfv, rfl⟩ := own_shape hout.fin
                rw [hmn] at hout ⊢
                rw [hfn] at hout
                have hd := HA.out.1.below hbr
                obtain ⟨⟨y0, y1, y2, y3⟩, -⟩ := hout.q.c4
                have HK := Lib.hid (And.intro hrle (And.intro htk (And.intro hbn (And.intro hfins (And.intro hrows (And.intro hmsr (And.intro hfn (And.intro hmn hh'.out.2))))))))
                obtain ⟨rv, hrv⟩ : ∃ v, (.slice a12 bl.length c12 : Value) = v := ⟨_, rfl⟩
                rw [hrv] at hfam
                have hzr := hbr.size
                have hown0 := hout.nxt
                rw [HK.out.2.2.2.2.2.2.2.1] at hown0
                have hown1 := hown0.alloc (.cells #[.slice a12 bl.length c12] 23)
                have hone := one_at (w := wr) (u := .slice a12 bl.length c12) (t := 23)
                obtain ⟨bs10, os10, rfl, m4⟩ := (NatsAt.of_own hfam.head).get hx'
                obtain ⟨bf, of_, cf', hef, m5⟩ := hd.f.get hxF
                obtain ⟨rfl, -, -⟩ := Value.slice.inj hef
                obtain ⟨fb, hfb⟩ : ∃ f, D.fin.getD x false = f := ⟨_, rfl⟩
                rw [hfb] at m5
                have HFB := Lib.hid (And.intro hfb hrv)
                have hd1 := hd.q.c4.1.2.1
                clear hx' htk hbn hfins hrows hmsr hfn hmn hrle ho' ht0 hall hfl hef hfb hrv hd
                go_wp2_with (at_builtin; refine wpList_append_lies _ rfl _ _ 24 rfl w2.heap.size 23 r0 (.slice none 0 0) 1 24 Tryz.underlying24 hr0 hr00 hr01 hr02 rfl (by decide) _ _ _ rfl hown1 ⟨wr.heap.size, 0, none⟩ 1 1 [.slice a12 bl.length c12] rfl rfl hone (fun u hu => by simp at hu; subst hu; rfl) (by decide) (by unfold maxLen; omega) (by omega) (by simp; omega) _ rfl ?_; intro g12 cap12 w12 hown12 hgrow12 hat12 hlt12; have hpn := hout.pushN (g := g12) (cap := cap12) (u := .slice a12 bl.length c12) hfam (by rw [HK.out.2.2.2.2.2.2.2.1]; exact hown12) hgrow12; rw [HK.out.2.2.2.2.2.2.2.1] at hpn; obtain ⟨⟨p0, p1, p2, p3⟩, f0, f1, f2, f3⟩ := hpn.2.2.c4)
                have hbel : RowKit.Below w2.heap.size w2 (w12.setCell ⟨w2.heap.size, 3, none⟩ (.slice (some ⟨g12, 0, none⟩) (n + 1) cap12)) := (below_push hbr (Nat.le_refl _) hown0 hgrow12 (by omega)).setCell (p := ⟨w2.heap.size, 3, none⟩) (Nat.le_refl _) _
                have hgb : ∀ {p : Addr} {v : Value}, wr.cell? p = some v → p.block < w2.heap.size → (w12.setCell ⟨w2.heap.size, 3, none⟩ (.slice (some ⟨g12, 0, none⟩) (n + 1) cap12)).cell? p = some v := fun {p v} hp hl => by
                  have h1 := hbr.cell hl
                  have h2 := hbel.cell hl
                  rw [h2, ← h1]
                  exact hp
                have hpo := hpn.1
                have hpf := hpn.2.1
                clear hown12 hgrow12 hat12 hlt12 hown0 hown1 hone p0 p1 p2 p3 f0 f1 f2 f3 hpn y0 y1 y2 y3 hout hfam
                obtain ⟨w13, hw13⟩ : ∃ W, w12.setCell ⟨w2.heap.size, 3, none⟩ (.slice (some ⟨g12, 0, none⟩) (n + 1) cap12) = W := ⟨_, rfl⟩
                rw [hw13] at hpo hpf hbel hgb ⊢
                clear hw13
                have hd := HA.out.1.below hbel
                have hd1 := hd.q.c4.1.2.1
                obtain ⟨bs2, os2, heq2, m4'⟩ := (NatsAt.of_own hpf.head).get (k := n) (x := x) (by
                  have := HK.out.2.1
                  have h2 : (o'.take (n + 1))[n]? = some x := by
                                                       have hl : (o.take n).length = n := by (rw [List.length_take]; omega)
                                                       rw [this, List.getElem?_append_right (by omega), hl, Nat.sub_self]; rfl
                  rwa [List.getElem?_take_of_lt (by omega)] at h2)
                obtain ⟨rfl, rfl⟩ : bs10 = bs2 ∧ os10 = os2 := by simpa using heq2
                obtain ⟨bf2, of2, cf2, hef2, m5'⟩ := hd.f.get hxF
                obtain ⟨rfl, rfl⟩ : bf = bf2 ∧ of_ = of2 := by simpa using (Value.slice.inj hef2).1
                rw [HFB.out.1] at m5'
                have po := hpo.q.c4.1.2.1
                have HW := Lib.hid (And.intro hpo (And.intro hpf hbel))
                clear m4 m5 hgb hpo hpf hbel hd heq2 hef2 hbr
                refine wp_region_T [11, 12, 13] (by kernel_rfl) ?_
                intro V1 bb
                have lc : ∀ {p : Addr} {v : Value}, w13.cell? p = some v → ∀ d os, (Sort.grow (redrawn V1 d) os).cell? p = some v := fun {p v} hp d os => ((bb.trans ((below_regrown V1 d os).mono bb.size)).cell (World.block_lt_of_cell? w13 p hp)).trans hp
                have q0 := lc hd1
                have q1 := lc m4'
                have q2 := lc m5'
                have q3 := lc po
                clear lc
                clear hd1 m4' m5' po
                refine stepsQ [0, 1, 2, 3, 4, 5, 6, 7, 8, 9] (by kernel_rfl) (by kernel_rfl) (by kernel_rfl) (Grown.of_below (Below.refl _ _)) ?_
                simp only [atIdx, List.filterMap_cons, List.filterMap_nil, List.getElem?_toArray, List.getElem_toArray, List.getElem?_cons_zero, List.getElem?_cons_succ, List.getElem_cons_zero, List.getElem_cons_succ]
                iterate 10 (show wpQuiet _ _ _ _ (_ :: _) _; go_big_quiet_step (fail))
                refine wpQuiet_nil ?_
                show stepT _ _ _ _ _ _ _ _ _
                have hpo := HW.out.1.below bb
                have hpf := HW.out.2.1.below bb
                have hbel := HW.out.2.2.trans (bb.mono HW.out.2.2.size)
                have hzV1 := hbel.size
                have hfo := hpo.fin
                rw [HK.out.2.2.2.2.2.2.1] at hfo
                have hfo1 := hfo.alloc (.cells #[.bool fb] 4)
                have hone := one_at (w := V1) (u := .bool fb) (t := 4)
                refine stepS (i := 10) rfl (by kernel_rfl) ?_
                intro K hK
                go_simp
                refine hK _ _ ⟨fun _ => Grown.of_below ((Below.refl _ _).alloc (Nat.le_refl _) _), ?_⟩
                clear hK K
                refine stepS (i := 11) rfl (by kernel_rfl) ?_
                intro K hK
                refine step_append_lies _ rfl (.tmp 137) (.tmp 146) 22 rfl w2.heap.size 4 s0 (.bool false) 1 1 Tryz.underlying22 hs0 hs00 hs01 hs02 rfl (by decide) _ _ _ (by simp [Act.eval, Act.put]) hfo1 ⟨V1.heap.size, 0, none⟩ 1 1 [.bool fb] (by simp [Act.eval, Act.put]) rfl hone (fun u hu => by simp at hu; subst hu; rfl) (by decide) (by unfold maxLen; omega) (by omega) (by simp; omega) _ rfl ?_
                intro g14 cap14 w14 hown14 hgrow14 hat14 hlt14
                have hpF := hpo.pushF (b := fb) (g := g14) (cap := cap14) hpf (by rw [HK.out.2.2.2.2.2.2.1]; exact hown14) hgrow14
                rw [HK.out.2.2.2.2.2.2.1] at hpF
                have c14 := hpF.2.2.c4
                have p1 := c14.1.2.1
                have f1 := c14.2.2.1
                go_simp
                refine hK _ _ ⟨fun h => absurd (by decide) h, ?_⟩
                clear hK K
                refine stepS (i := 12) rfl (by kernel_rfl) ?_
                intro K hK
                go_simp
                refine hK _ _ ⟨fun h => absurd (by decide) h, ?_⟩
                clear hK K
                refine stepS (i := 13) rfl (by kernel_rfl) ?_
                intro K hK
                go_simp
                refine hK _ _ ⟨fun h => absurd (by decide) h, ?_⟩
                clear hK K
                refine stepT_end (by kernel_rfl) ?_
                have hbel2 : RowKit.Below w2.heap.size w2 (w14.setCell ⟨w2.heap.size, 1, none⟩ (.slice (some ⟨g14, 0, none⟩) (n + 1) cap14)) := (below_push hbel (Nat.le_refl _) hfo hgrow14 (by omega)).setCell (p := ⟨w2.heap.size, 1, none⟩) (Nat.le_refl _) _
                have HR3 := Lib.hid (And.intro hpF.1 (And.intro hpF.2.1 hbel2))
                clear hown14 hgrow14 hat14 hlt14 hpF c14 p1 f1 hfo hfo1 hone hbel hbel2 hpo hpf bb q0 q1 q2 q3
                go_wp2_with fail
                go_roundw
                case rel =>
                  refine ⟨n + 1, fu', o', ms ++ [rv], fins ++ [fb], rows ++ [rl], .slice (some ⟨g14, 0, none⟩) (n + 1) cap14, .slice (some ⟨g12, 0, none⟩) (n + 1) cap12, by go_num, by omega, by omega, Lib.hid ⟨⟨HK.out.2.2.1, HK.out.2.2.2.2.2.2.2.2⟩, ?_, ?_, ?_⟩, ?_, ?_, HR3.out.2.2⟩
                  · rw [HK.out.2.1, List.map_append, List.map_singleton, ← HK.out.2.2.2.1, ← HFB.out.1]
                    rfl
                  · rw [HK.out.2.1, List.map_append, List.map_singleton, ← HK.out.2.2.2.2.1, HK.out.1]
                  · rw [List.length_append, List.length_append, HK.out.2.2.2.2.2.1]
                    rfl
                  · rw [← HFB.out.2]
                    exact HR3.out.1
                  · rw [List.zip_append HK.out.2.2.2.2.2.1]
                    exact HR3.out.2.1.perm (List.Perm.cons _ (List.perm_append_comm (l₁ := [(rv, rl)]) (l₂ := (v6, bl) :: (bv, (List.range 256).map (blockL L)) :: ms.zip rows)))
                case measure => simp [intOf]; omega
          · obtain rfl : o.length = n := by omega
            have k2 : decide (o.length < o.length) = false := decide_eq_false (by omega)
            have hOL := bfs_done hh.out.1.1
            have hfo := hh.out.2.1
            have hro := hh.out.2.2.1
            have hmr := hh.out.2.2.2
            rw [List.take_length] at hfo hro
            have hcan := canonI_R (d := D.aut) (blk := D.blk) HR.out.1.blk.1.blk
            have hof : ofD D = ⟨0, fins, intsOf ((List.range 256).map (blockL L)), rows.map intsOf⟩ := by
              have e1 : bytesL (D.aut.lang D.blk) = bl := by rw [← HB.out.2.1, ← HL.out]; rfl
              rw [ofD_pos HR.out.1]
              refine Eq.trans hcan ?_
              rw [HB.out.1, e1, hOL, hfo, hro, hOL, List.map_map]
              have e2 : D.aut.lang D.blk = L := HL.out
              rw [e2]
              rfl
            obtain ⟨anv, cnv, rfl⟩ := own_shape hout.nxt
            obtain ⟨afv, cfv, rfl⟩ := own_shape hout.fin
            obtain ⟨abv, cbv, rfl⟩ := own_shape ((hfam.tail).tail).head
            have hne : (w.heap.size + 1) < w2.heap.size := by have := HA.out.2.2.2.2.1.lt; omega
            obtain ⟨NM, hNM⟩ : ∃ j, ms.length = j := ⟨_, rfl⟩
            obtain ⟨NF, hNF⟩ : ∃ j, fins.length = j := ⟨_, rfl⟩
            have hbl2 : ((List.range 256).map (blockL L)).length = 256 := by simp
            rw [hNM, hNF, hbl2] at hout
            rw [hbl2] at hfam
            have far4 := fun u0 u1 u2 u3 => ((((hout.far (a := ⟨w.heap.size + 1, 0, none⟩) hne (Nat.le_refl _) u0).far (a := ⟨w.heap.size + 1, 1, none⟩) hne (Nat.le_refl _) u1).far (a := ⟨w.heap.size + 1, 2, none⟩) hne (Nat.le_refl _) u2).far (a := ⟨w.heap.size + 1, 3, none⟩) hne (Nat.le_refl _) u3)
            have fam4 := fun u0 u1 u2 u3 => ((((hfam.far (a := ⟨w.heap.size + 1, 0, none⟩) hne u0).far (a := ⟨w.heap.size + 1, 1, none⟩) hne u1).far (a := ⟨w.heap.size + 1, 2, none⟩) hne u2).far (a := ⟨w.heap.size + 1, 3, none⟩) hne u3)
            have hrb := HA.out.2.2.2.2.1.below hbr HA.out.2.2.2.2.1.lt
            obtain ⟨⟨p0, p1, p2, p3⟩, -⟩ := hout.q.c4
            obtain ⟨⟨r0', r1', r2', r3'⟩, f0, f1, f2, f3⟩ := hrb.c4
            have hb4 := blk_set4 hrb (.int .i64 0) (.slice afv NF cfv) (.slice abv 256 cbv) (.slice anv NM cnv)
            obtain ⟨⟨q0, q1, q2, q3⟩, -⟩ := hb4.c4
            have ho4 := only_set4 wr (w.heap.size + 1) (.int .i64 0) (.slice afv NF cfv) (.slice abv 256 cbv) (.slice anv NM cnv)
            have hbel := HA.out.2.2.2.1.trans (hbr.mono HA.out.2.2.2.1.size)
            have hbel2 := hbel.trans (ho4.below hbel.size (by simp))
            have fr := far4 (.int .i64 0) (.slice afv NF cfv) (.slice abv 256 cbv) (.slice anv NM cnv)
            have fm := fam4 (.int .i64 0) (.slice afv NF cfv) (.slice abv 256 cbv) (.slice anv NM cnv)
            have hb6 := ((fm.tail).tail).head
            rw [hbl2] at hb6
            have hdfa := fr.dfaAt (rows := rows) (blk := (List.range 256).map (blockL L)) (by rw [hbl2]; exact hb6) (fun x hx => fm.own x (by simp [hx])) hmr
            have HZ := Lib.hid (And.intro hof (And.intro hdfa hbel2))
            clear hof hdfa hbel hbel2 fr fm hb6 ho4 far4 fam4 hrb hb4 hOL hfo hro hmr hcan hout hfam hbr hh hNM hNF
            go_wp2_with fail
            refine bodyPost_ret (v := .agg #[.int .i64 0, .slice afv NF cfv, .slice abv 256 cbv, .slice anv NM cnv]) (by simp [results, Tryz.results15, go_sem, q0, q1, q2, q3]) rfl ⟨_, rfl, ?_, HZ.out.2.2⟩
            rw [HZ.out.1]
            exact HZ.out.2.1
end Go.Proofs.YtpcoijjcjamgiaaGreatDoor
