/-
  The contracts of blocks.number, Meet and First (the blocks seat's, with these names). Conditions: the numbers' cells.
  Sets of bytes as four words; the contracts of charset.Of, Has and blocks.Of (the charset and blocks seats', with their names). Conditions: each says its own.
  strings.IndexByte, math/bits.Mul and slices.Repeat at this seat. Conditions: each says its own.
-/
import Derived.Test.YtmmlakheimfijaaGreatDoorJMem
import Derived.Test.YtmmlakheimfijaaGreatDoorJKit
import Derived.Maps.Own
import Derived.Maps.OwnOps
import Derived.Maps.OwnSet
import Derived.DeepKeys4
import Derived.Deep.RegionHeld3
import Derived.Deep.DeepCutAuto
import Derived.Deep.CutBlock
import Derived.OwnWalk
import Derived.Laws.OwnMore
import Derived.StillTailTactics
import Derived.Laws.BitsAllLaws
import Derived.Lib.Zigzag
import Derived.Test.YtmmlakheimfijaaGreatDoorJAuShelf
import Derived.Laws.CopyOwn
namespace Go.Proofs.YtmmlakheimfijaaGreatDoor
set_option linter.unusedVariables false
set_option linter.unusedSimpArgs false
open Go.RowKit Go.Maps Go.Sort


theorem laidOutK : laidOutB Tryz.prog = true := by kernel_rfl
theorem rowK : (82 : TypeId) < Tryz.prog.types.size := of_decide_eq_true (by kernel_rfl)
theorem wideK : (match Tryz.prog.underlying 82 with | some (.array _ _) | some (.struct _) => true | _ => false) = true := by rw [Tryz.underlying82]
set_option maxRecDepth 100000 in
theorem lawK : Keyed Tryz.prog 82 := Keyed.of_law (deep_law_laid laidOutK (m := 2) (by omega) rowK (by kernel_rfl) wideK)
theorem zeroK (w : World) : (zeroValue 3).run Tryz.prog w = .ok (.int .i64 0) w := by kernel_rfl

def pairV (x : Int × Int) : Value := .agg #[.int .i64 x.1, .int .i64 x.2]
def PairIn (x : Int × Int) : Prop := (Lit.int .i64 x.1).wf = true ∧ (Lit.int .i64 x.2).wf = true
theorem typesK : ∃ n, Tryz.prog.types.size = n + 1 := ⟨Tryz.prog.types.size - 1, by kernel_rfl⟩
theorem keyTypeK : Tryz.prog.keyType 82 = true := by kernel_rfl
theorem cellsK : Tryz.prog.cellsOf 82 = 2 := by kernel_rfl
theorem cellsI : Tryz.prog.cellsOf 3 = 1 := by kernel_rfl

theorem litsI (d : Nat) (a : Int) (h : (Lit.int .i64 a).wf = true) : Tryz.prog.keyLits (d + 1) 3 [.int .i64 a] = some [.int .i64 a] := by
  simp [Program.keyLits, Tryz.underlying3, h]
theorem litsK (d : Nat) (a b : Int) (h1 : (Lit.int .i64 a).wf = true) (h2 : (Lit.int .i64 b).wf = true) : Tryz.prog.keyLits (d + 1 + 1) 82 [.int .i64 a, .int .i64 b] = some [.int .i64 a, .int .i64 b] := by
  have r2 : List.range 2 = [0, 1] := rfl
  unfold Program.keyLits
  rw [Tryz.underlying82]
  simp [cellsK, cellsI, r2, litsI d a h1, litsI d b h2]
theorem formedK (a b : Int) : (Value.agg #[.int .i64 a, .int .i64 b]).formed Tryz.prog 82 = true := by simp [Value.formed, Tryz.underlying82, cellsK]

theorem keyK (x : Int × Int) (h : PairIn x) : ∃ l, keyOf Tryz.prog 82 (pairV x) = some l := by
  obtain ⟨a, b⟩ := x
  obtain ⟨h1, h2⟩ := h
  obtain ⟨n, hn⟩ := typesK
  unfold keyOf pairV
  rw [Tryz.underlying82, keyTypeK, formedK, hn]
  have e : (Value.agg #[.int .i64 a, .int .i64 b]).cells.toList = [.int .i64 a, .int .i64 b] := rfl
  simp only [e, litsK n a b h1 h2, Bool.true_and, if_true, Option.map_some]
  exact ⟨_, rfl⟩
theorem keyK_inj (x y : Int × Int) (l : Lit) (h1 : keyOf Tryz.prog 82 (pairV x) = some l) (h2 : keyOf Tryz.prog 82 (pairV y) = some l) : x = y := by
  have := lawK.inj h1 h2
  simp [pairV] at this
  exact Prod.ext this.1 this.2

/-- what number's map holds behind n keys -/
structure Holds {H : Type} (f : Nat → Int × Int) (n : Nat) (D : DataW H) : Prop where
  tidy : Tidy D
  count : size D = Bl.many f n
  old : ∀ k x l, k < n → f k = x → keyOf Tryz.prog 82 (pairV x) = some l → has D l = true ∧ ∀ z, D.atKey l z = .lit (.int .i64 (Bl.num f k))
  new : ∀ x l, (∀ k, k < n → f k ≠ x) → keyOf Tryz.prog 82 (pairV x) = some l → has D l = false

theorem holds_none {H : Type} (f : Nat → Int × Int) : Holds (H := H) f 0 (.map []) :=
  ⟨tidy_empty, rfl, fun k _ _ hk => by omega, fun _ _ _ _ => rfl⟩

theorem holds_old {H : Type} (f : Nat → Int × Int) (n : Nat) (D : DataW H) (h : Holds f n D) (k : Nat) (hk : k < n) (he : f k = f n) : Holds f (n + 1) D where
  tidy := h.tidy
  count := by rw [Bl.many_old f n k hk he, h.count]
  old := fun j x l hj hx hl => by
    by_cases hjn : j < n
    · exact h.old j x l hjn hx hl
    · have : j = n := by omega
      subst this
      have := h.old k x l hk (he.trans hx) hl
      rw [Bl.num_key f k j he] at this
      exact this
  new := fun x l hx hl => h.new x l (fun k hk => hx k (by omega)) hl

theorem holds_new {H : Type} (f : Nat → Int × Int) (n : Nat) (D : DataW H) (h : Holds f n D) (hn : ∀ k, k < n → f k ≠ f n) (l : Lit) (hl : keyOf Tryz.prog 82 (pairV (f n)) = some l) :
    Holds f (n + 1) (D.put l (.lit (.int .i64 (Bl.many f n)))) where
  tidy := h.tidy.put (lawK.key hl) _
  count := by rw [Bl.many_new f n hn, size_put h.tidy, h.new _ l hn hl, h.count]; rfl
  old := fun j x l' hj hx hl' => by
    by_cases hxn : x = f n
    · subst hxn
      have e : l' = l := by rw [hl'] at hl; exact Option.some.inj hl
      subst e
      have : j = n := by
        rcases Nat.lt_or_ge j n with h1 | h1
        · exact absurd hx (hn j h1)
        · omega
      subst this
      refine ⟨has_put_same h.tidy.isMap (lawK.key hl) _, fun z => ?_⟩
      rw [atKey_put_same h.tidy.isMap (lawK.key hl), Bl.num_new f j hn]
    · have hne : l' ≠ l := fun e => hxn (keyK_inj _ _ l (e ▸ hl') hl)
      have hjn : j < n := by
        rcases Nat.lt_or_ge j n with h1 | h1
        · exact h1
        · have : j = n := by omega
          subst this
          exact absurd hx.symm hxn
      obtain ⟨o1, o2⟩ := h.old j x l' hjn hx hl'
      exact ⟨(has_put_other hne _).trans o1, fun z => (atKey_put_other hne _ z).trans (o2 z)⟩
  new := fun x l' hx hl' => by
    have hne : l' ≠ l := fun e => hx n (by omega) (keyK_inj _ _ l hl (e ▸ hl'))
    rw [has_put_other hne]
    exact h.new x l' (fun k hk => hx k (by omega)) hl'


theorem grown_of_below {w w' : World} (h : Below w.heap.size w w') : w.grownBy w' none := ⟨h.os, h.tape, h.output, h.size, fun k hk _ => h.block k hk⟩
theorem below_of_grown {w w' : World} {B : Nat} {row : Option Nat} (h : w.grownBy w' row) (hB : B ≤ w.heap.size) (hr : ∀ k, row = some k → B ≤ k) : Below B w w' := (Below.refl B w).grown h hB hr

theorem Tryz.info3 : (Tryz.prog.info? 3).map (fun i => (i.zero, i.size, i.bytes)) = some (some (.int .i64 0), 1, 8) := by kernel_rfl

/-- the numbers as cells -/
def numCells {α : Type} [DecidableEq α] (f : Nat → α) : List Value := (List.range 256).map fun b => Value.int .i64 (Bl.num f b)

theorem wf_num (f : Nat → Int × Int) (k : Nat) (h : k < 256) : (Lit.int .i64 (Bl.num f k)).wf = true := by
  have := Bl.num_lt_256 f k h
  simp [Lit.wf, IntKind.min, IntKind.max, IntKind.signed, IntKind.bits]
  omega

theorem set_num (f : Nat → Int × Int) (xs : List Value) (k : Nat) (N : Int) (h : ∀ i, i < k → xs[i]? = some (.int .i64 (Bl.num f i))) (hN : (Bl.num f k : Int) = N) (hl : xs.length = 256) (hk : k < 256) :
    ∀ i, i < k + 1 → (xs.set k (.int .i64 N))[i]? = some (.int .i64 (Bl.num f i)) := by
  intro i hi
  by_cases e : i = k
  · subst e
    rw [List.getElem?_set_self (by omega), hN]
  · rw [List.getElem?_set_ne (by omega)]
    exact h i (by omega)
theorem all_num (f : Nat → Int × Int) (xs : List Value) (h : ∀ i, i < 256 → xs[i]? = some (.int .i64 (Bl.num f i))) (hl : xs.length = 256) : xs = numCells f := by
  apply List.ext_getElem?
  intro i
  by_cases hi : i < 256
  · rw [h i hi]; simp [numCells, hi]
  · rw [List.getElem?_eq_none (by omega), List.getElem?_eq_none (by simp [numCells]; omega)]

set_option maxHeartbeats 4000000 in
set_option maxRecDepth 100000 in
theorem number_any (g : FuncId) (hg : g = 58 ∨ g = 91) (c0 c1 : Value) (f : Nat → Int × Int) (w : World) (hf : ∀ k, k < 256 → PairIn (f k))
    (hkey : ∀ (k : Nat) (W : World), k < 256 → Below w.heap.size w W → Calls Tryz.prog g #[.int .i64 k, c0, c1] W fun e W' => e = .returned (pairV (f k)) ∧ Below W.heap.size W W') :
    Calls Tryz.prog 57 #[.func (.func g) #[] #[c0, c1]] w fun e w' =>
      e = .returned (.slice (some ⟨w.heap.size, 0, none⟩) 256 256) ∧ w'.ownsRow w.heap.size 3 1 (.slice (some ⟨w.heap.size, 0, none⟩) 256 256) 256 (numCells f) ∧ Below w.heap.size w w' := by
  have hmm := @run_makeMap Tryz.prog
  obtain ⟨i0, hi, hz0, hz1, hz2⟩ := info_parts Tryz.info3
  have hk1 : ∀ k, k < 256 → ∀ p q, f k = (p, q) → ∀ W, Below w.heap.size w W → Calls Tryz.prog g #[.int .i64 k, c0, c1] W fun e W' => e = .returned (.agg #[.int .i64 p, .int .i64 q]) ∧ Below W.heap.size W W' := fun k hlt p q hp W hW => by
    have := hkey k W hlt hW
    rw [hp] at this
    exact this
  clear hkey
  rcases hg with rfl | rfl
  all_goals
    go_enter Tryz.func57, Tryz.ntmps57
    go_wp2_with (first
      | (at_make; refine wpList_make_full _ rfl _ _ 23 rfl w.heap.size 3 i0 (.int .i64 0) 1 Tryz.underlying23 hi hz0 hz1 .i64 .i64 256 256 256 rfl rfl rfl rfl (by rw [hz2]; decide) (by decide) (Nat.le_refl _) ?_; intro w1 hown1 hgrow1)
      | go_in)
    have hB1 : Below w.heap.size w w1 := below_of_grown hgrow1 (Nat.le_refl _) (fun _ h => by cases h)
    have hlt1 : w.heap.size < w1.heap.size := (hown1.lt _ rfl).2
    obtain ⟨M, hM⟩ : ∃ M, w1.heap.size = M := ⟨_, rfl⟩
    have hmap := World.ownsMap_made w1 Tryz.prog 82 (plainElem (H := Unit) Tryz.prog 3)
    rw [hM] at hmap
    have hMlt : w.heap.size < M := by omega
    clear hgrow1
    go_wp2_with fail
    rw [hM]
    go_loopw [13] (fun c wr => ∃ (k : Nat) (D : DataW Unit) (xs : List Value), k ≤ 256 ∧ c = .int .i64 k ∧ wr.ownsRow w.heap.size 3 1 (.slice (some ⟨w.heap.size, 0, none⟩) 256 256) 256 xs ∧ Hid (∀ i, i < k → xs[i]? = some (.int .i64 (Bl.num f i))) ∧
        wr.ownsMap Tryz.prog 82 (plainElem Tryz.prog 3) M k D ∧ Hid (Holds f k D) ∧ Below w.heap.size w wr) (fun c _ => 256 - (intOf c).toNat)
    case atStart => exact ⟨0, _, _, by omega, rfl, hown1.alloc _, Lib.hid (fun i hi => by omega), hmap, Lib.hid (holds_none f), hB1.alloc (by omega) _⟩
    case round =>
      obtain ⟨k, D, xs, hk, rfl, hrow, hxs, hown, hH, hB⟩ := hrel
      by_cases hlt : k < 256
      · obtain ⟨⟨p, q⟩, hp⟩ : ∃ x, f k = x := ⟨_, rfl⟩
        have hk2 := hk1 k hlt p q hp
        have HP := Lib.hid hp
        clear hp
        go_wp2_with fail
        refine (hk2 _ hB).mono ?_
        rintro e w5 ⟨rfl, b5⟩
        have hrow5 := hrow.kept (grown_of_below b5) (.inr (by simp [Value.ownBlock]))
        have hown5 := hown.kept (grown_of_below b5) (by simp)
        have hB5 : Below w.heap.size w w5 := hB.trans (b5.mono hB.size)
        have hM5 := hown5.lt
        clear hk2 hrow hown hB b5
        have hlen : xs.length = 256 := by have := hrow5.1; omega
        obtain ⟨l, hl⟩ := keyK (p, q) (by rw [← HP.out]; exact hf k hlt)
        change keyOf Tryz.prog 82 (.agg #[.int .i64 p, .int .i64 q]) = some l at hl
        obtain ⟨u, hu⟩ : ∃ u, xs[k]? = some u := ⟨xs[k]'(by omega), List.getElem?_eq_getElem (by omega)⟩
        have hc0 := hrow5.cellAt k (by omega)
        rw [hu] at hc0
        have hfz := hrow5.frozenAt k
        have hz5 : w.heap.size < w5.heap.size := by omega
        have hmax : k < maxLen := by unfold maxLen; omega
        obtain ⟨N, hN⟩ : ∃ N : Int, (Bl.num f k : Int) = N := ⟨_, rfl⟩
        have hwf := wf_num f k hlt
        rw [hN] at hwf
        by_cases hold : ∃ j, j < k ∧ f j = f k
        · obtain ⟨j, hj, hfj⟩ := hold
          obtain ⟨o1, o2⟩ := hH.out.old j (p, q) l hj (hfj.trans HP.out) hl
          rw [Bl.num_key f j k hfj, hN] at o2
          have O2 := Lib.hid o2
          have O1 := Lib.hid o1
          have HN := Lib.hid hN
          have HH := Lib.hid (holds_old f k D hH.out j hj hfj)
          clear hN o1 o2 hu hH
          go_wp2_with (first
            | (at_lookup; refine wpList_lookup_own_ok_int _ rfl _ _ 126 rfl 82 3 .i64 lawK Tryz.underlying126 Tryz.underlying3 (zeroK _) M k D rfl (hown5.alloc _) _ l rfl hl ?_; intro c hat hwc; (obtain rfl : c = N := by have := hat.symm.trans (O2.out _); simpa using this); rw [O1.out])
            | go_in)
          exact ⟨⟨k + 1, D, xs.set k (.int .i64 c), by omega, by simp, (hrow5.stored k _).1.alloc _, Lib.hid (set_num f xs k c hxs.out HN.out hlen hlt), ((hown5.setCell (by show M ≠ w.heap.size; omega) _).mono (by omega)).alloc _, HH, Below.alloc (hB5.setCell (Nat.le_refl _) _) (by simp; omega) _⟩, by simp [intOf]; omega⟩
        · have hnew : ∀ j, j < k → f j ≠ f k := fun j hj e => hold ⟨j, hj, e⟩
          have o1 := hH.out.new (p, q) l (fun j hj e => hnew j hj (e.trans HP.out.symm)) hl
          have sz : (size D : Int) = N := by rw [hH.out.count, ← Bl.num_new f k hnew, hN]
          have hl2 : keyOf Tryz.prog 82 (pairV (f k)) = some l := by rw [HP.out]; exact hl
          have hh := holds_new f k D hH.out hnew l hl2
          rw [← Bl.num_new f k hnew, hN] at hh
          have SZ := Lib.hid sz
          have O1 := Lib.hid o1
          have HN := Lib.hid hN
          have HH := Lib.hid hh
          clear hN o1 hu hH hh sz hl2 hnew hold
          go_wp2_with (first
            | (at_lookup; refine wpList_lookup_own_ok_int _ rfl _ _ 126 rfl 82 3 .i64 lawK Tryz.underlying126 Tryz.underlying3 (zeroK _) M k D rfl (hown5.alloc _) _ l rfl hl ?_; intro c hat hwc; rw [O1.out])
            | (at_len; refine wpList_len_own _ rfl _ 126 rfl 82 3 Tryz.underlying126 _ M k D rfl (hown5.alloc _) ?_; rw [SZ.out])
            | (at_mapUpdate; refine wpList_mapUpdate_own _ rfl _ _ _ 126 rfl 82 3 lawK Tryz.underlying126 _ M k D rfl (hown5.alloc _) hmax _ _ l rfl rfl hl (.lit (.int .i64 N)) [] (plainElem_int Tryz.underlying3 hwf) ?_; intro w6 hown6 hgrow6; have hrow6 := (hrow5.alloc _).kept hgrow6 (.inr (by simp [Value.ownBlock]; omega)); have hc6 := hrow6.cellAt k (by omega); have hfz6 := hrow6.frozenAt k)
            | go_in)
          have hB6 : Below w.heap.size w w6 := (hB5.alloc (by omega) _).grown hgrow6 (by simp; omega) (fun k e => by cases e; omega)
          exact ⟨⟨k + 1, _, xs.set k (.int .i64 N), by omega, by simp, (hrow6.stored k _).1, Lib.hid (set_num f xs k N hxs.out HN.out hlen hlt), hown6.setCell (by show M ≠ w.heap.size; omega) _, HH, hB6.setCell (Nat.le_refl _) _⟩, by simp [intOf]; omega⟩
      · have e : k = 256 := by omega
        subst e
        have hlen : xs.length = 256 := by have := hrow.1; omega
        have E := all_num f xs hxs.out hlen
        subst E
        go_wp2_with fail
        go_ret
        exact ⟨rfl, hrow, hB⟩
set_option maxHeartbeats 1000000 in
set_option maxRecDepth 100000 in
theorem meetkey_any (A B ga oa gb ob la ca lb cb : Nat) (k : Nat) (hk : k < 256) (y z : Int) (W : World) (h1 : la = 256) (h2 : lb = 256)
    (hA : W.cell? ⟨A, 0, none⟩ = some (.slice (some ⟨ga, oa, none⟩) la ca)) (hB : W.cell? ⟨B, 0, none⟩ = some (.slice (some ⟨gb, ob, none⟩) lb cb))
    (hy : W.cell? ⟨ga, oa + k, none⟩ = some (.int .i64 y)) (hz : W.cell? ⟨gb, ob + k, none⟩ = some (.int .i64 z)) (lA : A < W.heap.size) (lB : B < W.heap.size) (lga : ga < W.heap.size) (lgb : gb < W.heap.size) :
    Calls Tryz.prog 91 #[.int .i64 k, .pointer (some ⟨A, 0, none⟩), .pointer (some ⟨B, 0, none⟩)] W fun e W' => e = .returned (pairV (y, z)) ∧ Below W.heap.size W W' := by
  have hk' : (k : Int) < 256 := by omega
  subst h1 h2
  go_enter Tryz.func91, Tryz.ntmps91
  go_wp2_with fail
  have a1 : (W.alloc (.cells #[.int .i64 0, .int .i64 0] 82)).cell? ⟨A, 0, none⟩ = some (.slice (some ⟨ga, oa, none⟩) 256 ca) := by go_simp
  have a2 : (W.alloc (.cells #[.int .i64 0, .int .i64 0] 82)).cell? ⟨B, 0, none⟩ = some (.slice (some ⟨gb, ob, none⟩) 256 cb) := by go_simp
  have a3 : (W.alloc (.cells #[.int .i64 0, .int .i64 0] 82)).cell? ⟨ga, oa + k, none⟩ = some (.int .i64 y) := by go_simp
  have a4 : (W.alloc (.cells #[.int .i64 0, .int .i64 0] 82)).cell? ⟨gb, ob + k, none⟩ = some (.int .i64 z) := by go_simp
  have r0 := newB W #[.int .i64 0, .int .i64 0] 82
  have r1 := newF W #[.int .i64 0, .int .i64 0] 82
  have hb : Below W.heap.size W (W.alloc (.cells #[.int .i64 0, .int .i64 0] 82)) := Below.alloc (Below.refl _ _) (by omega) _
  generalize W.alloc (.cells #[.int .i64 0, .int .i64 0] 82) = w1 at *
  refine wp_region_still_tail 9 (by kernel_rfl) (by kernel_rfl) ?_
  simp only [List.take_succ_cons, List.take_zero, List.drop_succ_cons, List.drop_zero]
  repeat still_step
  refine wpStill_nil ?_
  change wpList _ _ _ _ _ w1.drew
  go_wp2_with fail
  refine bodyPost_ret (v := pairV (y, z)) (by simp [results, Tryz.results91, go_sem, pairV, r0]) rfl ⟨rfl, ?_⟩
  repeat (first | exact hb | refine Below.setCell ?_ (by simp) _ | refine Below.drew ?_)

theorem ints_num {α : Type} [DecidableEq α] {f : Nat → α} {w : World} {base g : Nat} (h : w.ownsRow base 3 1 (.slice (some ⟨g, 0, none⟩) 256 256) 256 (numCells f)) : IsInts w (some ⟨g, 0, none⟩) 256 256 (fun b => (Bl.num f b : Int)) := by
  refine ⟨.inr ⟨g, 0, rfl, (h.lt _ rfl).2, fun j hj => ?_⟩, fun j hj => ?_, by decide⟩
  · rw [Nat.zero_add, h.cellAt j (by omega)]
    simp [numCells, hj]
  · have := Bl.num_lt_256 f j hj
    unfold In64
    omega


/-- the keys that meet -/
def pairK (y z : Nat → Int) (i : Nat) : Int × Int := (y i, z i)
def meetLen (y z : Nat → Int) (la lb : Nat) : Nat := if Bl.right y la = true ∧ Bl.right z lb = true then 256 else 0
theorem below2 (w : World) (o o' : Obj) : Below w.heap.size w ((w.alloc o).alloc o') := ((Below.refl _ _).alloc (Nat.le_refl _) o).alloc (by simp) o'
theorem in_wf {a : Int} (h : In64 a) : (Lit.int .i64 a).wf = true := by unfold In64 at h; simpa [Lit.wf, IntKind.min, IntKind.max, IntKind.signed, IntKind.bits] using h

set_option maxHeartbeats 2000000 in
set_option maxRecDepth 100000 in
theorem meet_any (xa xb : Option Addr) (la ca lb cb : Nat) (y z : Nat → Int) (w : World) (ha : IsInts w xa la ca y) (hb : IsInts w xb lb cb z) :
    Calls Tryz.prog 83 #[.slice xa la ca, .slice xb lb cb] w fun e w' =>
      ∃ x n c, e = .returned (.slice x n c) ∧ n = meetLen y z la lb ∧ IsInts w' x n c (fun b => (Bl.num (pairK y z) b : Int)) ∧ Below w.heap.size w w' ∧ ∀ g o, x = some ⟨g, o, none⟩ → w.heap.size ≤ g := by
  by_cases hA : Bl.right y la = true
  · have EA := Lib.hid hA
    by_cases hB : Bl.right z lb = true
    · have EB := Lib.hid hB
      have hn : meetLen y z la lb = 256 := by unfold meetLen; rw [if_pos ⟨hA, hB⟩]
      have HN := Lib.hid hn
      have hl1 : la = 256 := by simp [Bl.right] at hA; exact hA.1
      have hl2 : lb = 256 := by simp [Bl.right] at hB; exact hB.1
      subst hl1 hl2
      clear hA hB hn
      have HA := Lib.hid ha
      have HB := Lib.hid hb
      rcases ha.place with h0 | ⟨ga, oa, rfl, lga, hca⟩
      · omega
      rcases hb.place with h0 | ⟨gb, ob, rfl, lgb, hcb⟩
      · omega
      have Ca := Lib.hid hca
      have Cb := Lib.hid hcb
      clear hca hcb ha hb
      go_enter Tryz.func83, Tryz.ntmps83
      go_wp2_with fail
      have q0 := oldB (.cells #[.slice (some ⟨gb, ob, none⟩) 256 cb] 23) (newB w #[.slice (some ⟨ga, oa, none⟩) 256 ca] 23) (by simp)
      have q1 := newB (w.alloc (.cells #[.slice (some ⟨ga, oa, none⟩) 256 ca] 23)) #[.slice (some ⟨gb, ob, none⟩) 256 cb] 23
      have hq : Below w.heap.size w ((w.alloc (.cells #[.slice (some ⟨ga, oa, none⟩) 256 ca] 23)).alloc (.cells #[.slice (some ⟨gb, ob, none⟩) 256 cb] 23)) := below2 _ _ _
      have hz : ((w.alloc (.cells #[.slice (some ⟨ga, oa, none⟩) 256 ca] 23)).alloc (.cells #[.slice (some ⟨gb, ob, none⟩) 256 cb] 23)).heap.size = w.heap.size + 2 := by simp
      rw [show (w.alloc (.cells #[.slice (some ⟨ga, oa, none⟩) 256 ca] 23)).heap.size = w.heap.size + 1 by simp] at q1
      generalize (w.alloc (.cells #[.slice (some ⟨ga, oa, none⟩) 256 ca] 23)).alloc (.cells #[.slice (some ⟨gb, ob, none⟩) 256 cb] 23) = wq at *
      refine (right_lit _ _ _ y true _ (HA.out.keep hq) EA.out).mono ?_
      rintro e w1 ⟨rfl, b1⟩
      have q0' := keepB b1 q0 (by omega)
      have q1' := keepB b1 q1 (by omega)
      have hq' : Below w.heap.size w w1 := hq.trans (b1.mono hq.size)
      have hz' : w.heap.size + 2 ≤ w1.heap.size := by have := b1.size; omega
      clear q0 q1 hq hz b1
      have d0 : w1.cell? ⟨w.heap.size, 0, none⟩ = some (.slice (some ⟨ga, oa, none⟩) 256 ca) := q0' 0
      have d1 : w1.cell? ⟨w.heap.size + 1, 0, none⟩ = some (.slice (some ⟨gb, ob, none⟩) 256 cb) := q1' 0
      go_wp2_with fail
      refine (right_lit _ _ _ z true _ (HB.out.keep hq') EB.out).mono ?_
      rintro e w2 ⟨rfl, b2⟩
      have q0 := keepB b2 q0' (by omega)
      have q1 := keepB b2 q1' (by omega)
      have hq : Below w.heap.size w w2 := hq'.trans (b2.mono hq'.size)
      have hz : w.heap.size + 2 ≤ w2.heap.size := by have := b2.size; omega
      clear q0' q1' hq' hz' b2 d0 d1
      go_wp2_with fail
      refine (number_any _ (.inr rfl) _ _ (pairK y z) _ (fun k hk => ⟨in_wf (HA.out.ins k hk), in_wf (HB.out.ins k hk)⟩) (fun k W hk hb => ?_)).mono ?_
      · have hW : Below w.heap.size w W := hq.trans (hb.mono hq.size)
        have := hb.size
        exact meetkey_any w.heap.size (w.heap.size + 1) ga oa gb ob 256 ca 256 cb k hk _ _ W rfl rfl (keepB hb q0 (by omega) 0) (keepB hb q1 (by omega) 0)
          ((hW.cell (p := ⟨ga, oa + k, none⟩) lga).trans (Ca.out k hk)) ((hW.cell (p := ⟨gb, ob + k, none⟩) lgb).trans (Cb.out k hk)) (by omega) (by omega) (by omega) (by omega)
      · rintro e w3 ⟨rfl, r3, b3⟩
        go_wp2_with fail
        go_ret
        exact ⟨_, 256, 256, rfl, HN.out.symm, ints_num r3, hq.trans (b3.mono hq.size), fun g o h => by cases h; exact hq.size⟩
    · have hn : meetLen y z la lb = 0 := by unfold meetLen; rw [if_neg (fun h => hB h.2)]
      have hB' : Bl.right z lb = false := by simpa using hB
      have EB := Lib.hid hB'
      have HN := Lib.hid hn
      have HA := Lib.hid ha
      have HB := Lib.hid hb
      clear hA hB hB' hn ha hb
      go_enter Tryz.func83, Tryz.ntmps83
      go_wp2_with fail
      have hq : Below w.heap.size w ((w.alloc (.cells #[.slice xa la ca] 23)).alloc (.cells #[.slice xb lb cb] 23)) := below2 _ _ _
      have q1 := newB (w.alloc (.cells #[.slice xa la ca] 23)) #[.slice xb lb cb] 23
      have hz : ((w.alloc (.cells #[.slice xa la ca] 23)).alloc (.cells #[.slice xb lb cb] 23)).heap.size = w.heap.size + 2 := by simp
      rw [show (w.alloc (.cells #[.slice xa la ca] 23)).heap.size = w.heap.size + 1 by simp] at q1
      generalize (w.alloc (.cells #[.slice xa la ca] 23)).alloc (.cells #[.slice xb lb cb] 23) = wq at *
      refine (right_lit _ _ _ y true _ (HA.out.keep hq) EA.out).mono ?_
      rintro e w1 ⟨rfl, b1⟩
      have q1' := keepB b1 q1 (by omega)
      have hq' : Below w.heap.size w w1 := hq.trans (b1.mono hq.size)
      have d1 : w1.cell? ⟨w.heap.size + 1, 0, none⟩ = some (.slice xb lb cb) := q1' 0
      clear q1 hq hz b1
      go_wp2_with fail
      refine (right_lit _ _ _ z false _ (HB.out.keep hq') EB.out).mono ?_
      rintro e w2 ⟨rfl, b2⟩
      go_wp2_with fail
      go_ret
      exact ⟨none, 0, 0, rfl, HN.out.symm, ⟨.inl rfl, fun j hj => by omega, by decide⟩, hq'.trans (b2.mono hq'.size), fun g o h => by cases h⟩
  · have hn : meetLen y z la lb = 0 := by unfold meetLen; rw [if_neg (fun h => hA h.1)]
    have hA' : Bl.right y la = false := by simpa using hA
    have EA := Lib.hid hA'
    have HN := Lib.hid hn
    have HA := Lib.hid ha
    clear hA hA' hn ha hb
    go_enter Tryz.func83, Tryz.ntmps83
    go_wp2_with fail
    refine (right_lit _ _ _ y false _ (HA.out.keep (below2 _ _ _)) EA.out).mono ?_
    rintro e w1 ⟨rfl, b1⟩
    go_wp2_with fail
    go_ret
    exact ⟨none, 0, 0, rfl, HN.out.symm, ⟨.inl rfl, fun j hj => by omega, by decide⟩, (below2 _ _ _).trans (b1.mono (by simp; omega)), fun g o h => by cases h⟩

def firstI (z : Nat → Int) (len : Nat) (k : Int) : Int := if Bl.right z len = true ∧ Bl.least z k 256 < 256 then Bl.least z k 256 else -1
set_option maxHeartbeats 1000000 in
set_option maxRecDepth 100000 in
theorem first_any (x : Option Addr) (len cap : Nat) (z : Nat → Int) (k : Int) (w : World) (h : IsInts w x len cap z) :
    Calls Tryz.prog 84 #[.slice x len cap, .int .i64 k] w fun e w' => e = .returned (.int .i64 (firstI z len k)) ∧ Below w.heap.size w w' := by
  go_enter Tryz.func84, Tryz.ntmps84
  go_wp2_with fail
  refine (right_any x len cap z _ h).mono ?_
  rintro e w1 ⟨rfl, b1⟩
  have HI := Lib.hid (h.keep b1)
  clear h
  by_cases hR : Bl.right z len = true
  · have hl : len = 256 := by simp [Bl.right] at hR; exact hR.1
    have HR := Lib.hid hR
    rw [HR.out]
    subst hl
    go_wp2_with fail
    go_loop [12] (fun c => ∃ (j : Nat), j ≤ 256 ∧ c = .int .i64 j ∧ Hid (∀ i, i < j → z i ≠ k)) (fun c => 256 - (intOf c).toNat)
    case atStart => exact ⟨0, by omega, rfl, Lib.hid (fun i hi => by omega)⟩
    case round =>
      obtain ⟨j, hj, rfl, hM⟩ := hrel
      by_cases hlt : j < 256
      · rcases HI.out.place with h0 | ⟨bb, off, rfl, hbb, hcs⟩
        · omega
        · have hc := hcs j hlt
          by_cases c1 : z j = k
          · rw [c1] at hc
            have C1 := Lib.hid c1
            clear hcs c1
            go_wp2_with fail
            go_ret
            refine ⟨ret_int ?_, b1⟩
            have e1 : Bl.least z k 256 = j := by
              have h1 := Bl.least_of z k 256 j hlt C1.out
              rcases Nat.lt_or_ge (Bl.least z k 256) j with h2 | h2
              · exact absurd (Bl.least_hit z k 256 (by omega)) (hM.out _ h2)
              · omega
            unfold firstI
            rw [HR.out, e1, if_pos ⟨rfl, hlt⟩]
          · obtain ⟨y, hy⟩ : ∃ y, z j = y := ⟨_, rfl⟩
            rw [hy] at hc c1
            have HY := Lib.hid hy
            have c2 : (y == k) = false := by simp [c1]
            have C1 := Lib.hid c1
            clear hcs hy c1
            go_wp2_with fail
            go_round
            case rel => exact ⟨j + 1, by omega, by simp, Lib.hid (fun i hi => by
              by_cases e : i = j
              · subst e; rw [HY.out]; exact C1.out
              · exact hM.out i (by omega))⟩
            case measure => simp [intOf]; omega
      · have e : j = 256 := by omega
        subst e
        go_wp2_with fail
        go_ret
        refine ⟨ret_int ?_, b1⟩
        unfold firstI
        rw [if_neg]
        rintro ⟨_, h1⟩
        exact hM.out _ h1 (Bl.least_hit z k 256 h1)
  · have hR' : Bl.right z len = false := by simpa using hR
    have HR := Lib.hid hR'
    rw [HR.out]
    clear hR hR'
    go_wp2_with fail
    go_ret
    exact ⟨by simp [firstI, HR.out], b1⟩
end Go.Proofs.YtmmlakheimfijaaGreatDoor
namespace Go.Proofs.YtmmlakheimfijaaGreatDoor
set_option linter.unusedVariables false
set_option linter.unusedSimpArgs false


namespace Cs
/-- the words fit 64 bits -/
def SetIn (s : Nat → Int) : Prop := ∀ i, 0 ≤ s i ∧ s i < 18446744073709551616
/-- has it the byte? -/
def hasS (s : Nat → Int) (b : Nat) : Bool := decide (s (b / 64) / 2 ^ (b % 64) % 2 = 1)

theorem bit_nat (n k : Nat) : decide ((n : Int) / 2 ^ k % 2 = 1) = n.testBit k := by
  have e : ((n : Int) / 2 ^ k % 2) = ((n / 2 ^ k % 2 : Nat) : Int) := by push_cast; rfl
  rw [e, Nat.testBit_eq_decide_div_mod_eq]
  congr 1
  apply propext
  omega
theorem has_bit (s : Nat → Int) (b : Nat) (hs : SetIn s) : hasS s b = (s (b / 64)).toNat.testBit (b % 64) := by
  obtain ⟨n, hn⟩ := Int.eq_ofNat_of_zero_le (hs (b / 64)).1
  unfold hasS
  rw [hn, Int.toNat_natCast]
  exact bit_nat n _

/-- a set is known by its bytes -/
theorem ext (s t : Nat → Int) (hs : SetIn s) (ht : SetIn t) (h : ∀ b, b < 256 → hasS s b = hasS t b) (i : Nat) (hi : i < 4) : s i = t i := by
  have e : (s i).toNat = (t i).toNat := by
    apply Nat.eq_of_testBit_eq
    intro k
    by_cases hk : k < 64
    · have := h (i * 64 + k) (by omega)
      rw [has_bit s _ hs, has_bit t _ ht] at this
      have e1 : (i * 64 + k) / 64 = i := by omega
      have e2 : (i * 64 + k) % 64 = k := by omega
      rw [e1, e2] at this
      exact this
    · have b1 : (s i).toNat < 2 ^ k := Nat.lt_of_lt_of_le (by have := hs i; omega) (Nat.pow_le_pow_right (by omega) (show 64 ≤ k by omega))
      have b2 : (t i).toNat < 2 ^ k := Nat.lt_of_lt_of_le (by have := ht i; omega) (Nat.pow_le_pow_right (by omega) (show 64 ≤ k by omega))
      rw [Nat.testBit_lt_two_pow b1, Nat.testBit_lt_two_pow b2]
  have := hs i; have := ht i; omega

def orS (s t : Nat → Int) (i : Nat) : Int := (((s i).toNat ||| (t i).toNat : Nat) : Int)
def andS (s t : Nat → Int) (i : Nat) : Int := (((s i).toNat &&& (t i).toNat : Nat) : Int)
def notS (s : Nat → Int) (i : Nat) : Int := 18446744073709551615 - s i
def lessS (s t : Nat → Int) : Nat → Int := andS s (notS t)
def addS (s : Nat → Int) (b : Nat) (i : Nat) : Int := if i = b / 64 then (((s i).toNat ||| 2 ^ (b % 64) : Nat) : Int) else s i
def noneS (i : Nat) : Int := 0

theorem orIn {s t : Nat → Int} (hs : SetIn s) (ht : SetIn t) : SetIn (orS s t) := fun i => by
  have := @Nat.or_lt_two_pow (s i).toNat (t i).toNat 64 (by have := hs i; omega) (by have := ht i; omega)
  unfold orS; omega
theorem andIn {s t : Nat → Int} (hs : SetIn s) : SetIn (andS s t) := fun i => by
  have := @Nat.and_le_left (s i).toNat (t i).toNat
  have := hs i
  unfold andS; omega
theorem notIn {s : Nat → Int} (hs : SetIn s) : SetIn (notS s) := fun i => by
  have := hs i
  unfold notS; omega
theorem lessIn {s t : Nat → Int} (hs : SetIn s) : SetIn (lessS s t) := andIn hs
theorem pow64 (k : Nat) (h : k < 64) : 2 ^ k < 2 ^ 64 := Nat.pow_lt_pow_right (by omega) h
theorem addIn {s : Nat → Int} (hs : SetIn s) (b : Nat) : SetIn (addS s b) := fun i => by
  unfold addS
  split
  · have := @Nat.or_lt_two_pow (s i).toNat (2 ^ (b % 64)) 64 (by have := hs i; omega) (pow64 _ (by omega))
    omega
  · exact hs i
theorem noneIn : SetIn noneS := fun i => by unfold noneS; omega

theorem has_or (s t : Nat → Int) (b : Nat) (hs : SetIn s) (ht : SetIn t) : hasS (orS s t) b = (hasS s b || hasS t b) := by
  rw [has_bit _ _ (orIn hs ht), has_bit _ _ hs, has_bit _ _ ht]
  simp [orS, Nat.testBit_or]
theorem has_and (s t : Nat → Int) (b : Nat) (hs : SetIn s) (ht : SetIn t) : hasS (andS s t) b = (hasS s b && hasS t b) := by
  rw [has_bit _ _ (andIn hs), has_bit _ _ hs, has_bit _ _ ht]
  simp [andS, Nat.testBit_and]
theorem has_not (s : Nat → Int) (b : Nat) (hs : SetIn s) : hasS (notS s) b = !hasS s b := by
  rw [has_bit _ _ (notIn hs), has_bit _ _ hs]
  have e : (notS s (b / 64)).toNat = 2 ^ 64 - ((s (b / 64)).toNat + 1) := by have := hs (b / 64); unfold notS; omega
  rw [e, Nat.testBit_two_pow_sub_succ (by have := hs (b / 64); omega)]
  have : b % 64 < 64 := by omega
  simp [this]
theorem has_less (s t : Nat → Int) (b : Nat) (hs : SetIn s) (ht : SetIn t) : hasS (lessS s t) b = (hasS s b && !hasS t b) := by
  unfold lessS
  rw [has_and _ _ _ hs (notIn ht), has_not _ _ ht]
theorem has_none (b : Nat) : hasS noneS b = false := by
  rw [has_bit _ _ noneIn]
  simp [noneS]
theorem has_add (s : Nat → Int) (b c : Nat) (hs : SetIn s) : hasS (addS s b) c = (hasS s c || decide (c = b)) := by
  rw [has_bit _ _ (addIn hs b), has_bit _ _ hs]
  unfold addS
  by_cases h : c / 64 = b / 64
  · rw [if_pos h, Int.toNat_natCast, Nat.testBit_or, Nat.testBit_two_pow]
    congr 2
    apply propext
    omega
  · rw [if_neg h]
    have : ¬ c = b := fun e => h (by rw [e])
    simp [this]

/-- the bytes from lo, n of them -/
def spanS (lo : Nat) : Nat → Nat → Int
  | 0 => noneS
  | n + 1 => addS (spanS lo n) (lo + n)
theorem spanIn (lo n : Nat) : SetIn (spanS lo n) := by
  induction n with
  | zero => exact noneIn
  | succ n ih => exact addIn ih _
theorem has_span (lo n b : Nat) : hasS (spanS lo n) b = decide (lo ≤ b ∧ b < lo + n) := by
  induction n with
  | zero => rw [show spanS lo 0 = noneS from rfl, has_none]; simp
  | succ n ih =>
    rw [show spanS lo (n + 1) = addS (spanS lo n) (lo + n) from rfl, has_add _ _ _ (spanIn lo n), ih]
    rw [Bool.eq_iff_iff]
    simp
    omega
/-- the bytes from lo to hi -/
def ofS (lo hi : Nat) : Nat → Int := spanS lo (hi + 1 - lo)
theorem has_of (lo hi b : Nat) : hasS (ofS lo hi) b = decide (lo ≤ b ∧ b ≤ hi) := by
  unfold ofS
  rw [has_span, decide_eq_decide]
  omega

/-- how many bytes below n -/
def cnt (s : Nat → Int) : Nat → Nat
  | 0 => 0
  | n + 1 => cnt s n + if hasS s n = true then 1 else 0
theorem cnt_succ (s : Nat → Int) (n : Nat) : cnt s (n + 1) = cnt s n + if hasS s n = true then 1 else 0 := rfl
theorem cnt_le (s : Nat → Int) (n : Nat) : cnt s n ≤ n := by
  induction n with
  | zero => exact Nat.le_refl _
  | succ n ih => rw [cnt_succ]; split <;> omega
theorem cnt_add (s t u : Nat → Int) (n : Nat) (h : ∀ b, b < n → (if hasS s b = true then 1 else 0) + (if hasS t b = true then 1 else 0) = (if hasS u b = true then 1 else 0 : Nat)) : cnt s n + cnt t n = cnt u n := by
  induction n with
  | zero => rfl
  | succ n ih =>
    have h1 := ih fun b hb => h b (by omega)
    have h2 := h n (by omega)
    rw [cnt_succ, cnt_succ, cnt_succ]
    omega

/-- the bytes from k on, below n -/
def bytesFrom (s : Nat → Int) (k n : Nat) : List Nat := (List.range n).filter fun b => decide (k ≤ b) && hasS s b

/-- how many bits a word has below n -/
def ones (x : Nat) : Nat → Nat
  | 0 => 0
  | n + 1 => ones x n + if x.testBit n = true then 1 else 0
theorem ones_succ (x n : Nat) : ones x (n + 1) = ones x n + if x.testBit n = true then 1 else 0 := rfl
theorem cnt_word (s : Nat → Int) (hs : SetIn s) (i n : Nat) (hn : n ≤ 64) : cnt s (i * 64 + n) = cnt s (i * 64) + ones (s i).toNat n := by
  induction n with
  | zero => rfl
  | succ n ih =>
    rw [show i * 64 + (n + 1) = (i * 64 + n) + 1 by omega, cnt_succ, ih (by omega), ones_succ, has_bit _ _ hs]
    have e1 : (i * 64 + n) / 64 = i := by omega
    have e2 : (i * 64 + n) % 64 = n := by omega
    rw [e1, e2]
    omega
theorem cnt_words (s : Nat → Int) (hs : SetIn s) : cnt s 256 = ones (s 0).toNat 64 + ones (s 1).toNat 64 + ones (s 2).toNat 64 + ones (s 3).toNat 64 := by
  have h0 := cnt_word s hs 0 64 (by omega)
  have h1 := cnt_word s hs 1 64 (by omega)
  have h2 := cnt_word s hs 2 64 (by omega)
  have h3 := cnt_word s hs 3 64 (by omega)
  have : cnt s 0 = 0 := rfl
  simp only [Nat.reduceMul, Nat.reduceAdd] at h0 h1 h2 h3
  omega
end Cs

open Go.RowKit Go.Maps Go.Sort Cs


/-- a set's value -/
abbrev setV (s : Nat → Int) : Value := .agg #[.int .u64 (s 0), .int .u64 (s 1), .int .u64 (s 2), .int .u64 (s 3)]
/-- a block of four words -/
structure Four (w : World) (g : Nat) (f : Nat → Int) : Prop where
  cell : ∀ i, i < 4 → w.cell? ⟨g, i, none⟩ = some (.int .u64 (f i))
  free : ∀ i, w.frozen? ⟨g, i, none⟩ = false
theorem Four.new (w : World) (s : Nat → Int) (t : TypeId) : Four (w.alloc (.cells #[.int .u64 (s 0), .int .u64 (s 1), .int .u64 (s 2), .int .u64 (s 3)] t)) w.heap.size s :=
  ⟨fun i hi => by
    rw [newB]
    match i, hi with
    | 0, _ => rfl
    | 1, _ => rfl
    | 2, _ => rfl
    | 3, _ => rfl, newF _ _ _⟩
theorem Four.zero (w : World) (t : TypeId) : Four (w.alloc (.cells #[.int .u64 0, .int .u64 0, .int .u64 0, .int .u64 0] t)) w.heap.size noneS := Four.new w noneS t
theorem Four.old {w : World} {g : Nat} {f : Nat → Int} (h : Four w g f) (o : Obj) (hg : g < w.heap.size) : Four (w.alloc o) g f :=
  ⟨fun i hi => (World.cell?_alloc_past _ _ _ hg).trans (h.cell i hi), fun i => (World.frozen?_alloc_past _ _ _ hg).trans (h.free i)⟩
theorem Four.below {w w' : World} {g : Nat} {f : Nat → Int} (h : Four w g f) (hb : Below w.heap.size w w') (hg : g < w.heap.size) : Four w' g f :=
  ⟨fun i hi => (hb.cell (p := ⟨g, i, none⟩) hg).trans (h.cell i hi), fun i => (hb.frozen (p := ⟨g, i, none⟩) hg).trans (h.free i)⟩
theorem Four.grown {w w' : World} {g : Nat} {f : Nat → Int} {row : Option Nat} (h : Four w g f) (hb : w.grownBy w' row) (hg : g < w.heap.size) (hne : some g ≠ row) : Four w' g f := by
  have e := hb.block g hg hne
  refine ⟨fun i hi => (World.cell?_of_block (a := ⟨g, i, none⟩) e).trans (h.cell i hi), fun i => ?_⟩
  have := h.free i
  unfold World.frozen? at this ⊢
  simp only [e]
  exact this
theorem Four.drew {w : World} {g : Nat} {f : Nat → Int} (h : Four w g f) : Four w.drew g f := ⟨h.cell, h.free⟩
theorem Four.far {w : World} {g g' i : Nat} {f : Nat → Int} (h : Four w g f) (u : Value) (hg : g ≠ g') : Four (w.setCell ⟨g', i, none⟩ u) g f :=
  ⟨fun j hj => (World.cell?_setCell_other w ⟨g', i, none⟩ ⟨g, j, none⟩ u (fun e => by injection e with e1 _; exact hg e1.symm)).trans (h.cell j hj), fun j => by rw [World.frozen?_setCell]; exact h.free j⟩
theorem Four.set {w : World} {g i : Nat} {f : Nat → Int} (h : Four w g f) (v : Int) (hi : i < 4) : Four (w.setCell ⟨g, i, none⟩ (.int .u64 v)) g (fun j => if j = i then v else f j) :=
  ⟨fun j hj => by
    by_cases e : j = i
    · subst e
      rw [World.cell?_setCell_same w ⟨g, j, none⟩ _ (h.cell j hj), if_pos rfl]
    · rw [World.cell?_setCell_other w ⟨g, i, none⟩ ⟨g, j, none⟩ _ (fun e' => by injection e' with _ e2; exact e e2.symm), if_neg e]
      exact h.cell j hj, fun j => by rw [World.frozen?_setCell]; exact h.free j⟩
theorem Four.to {w : World} {g : Nat} {f f' : Nat → Int} (h : Four w g f) (e : ∀ i, i < 4 → f i = f' i) : Four w g f' := ⟨fun i hi => by rw [← e i hi]; exact h.cell i hi, h.free⟩

theorem Four.set4 {w : World} {g : Nat} {f : Nat → Int} (h : Four w g f) (f' : Nat → Int) :
    Four ((((w.setCell ⟨g, 0, none⟩ (.int .u64 (f' 0))).setCell ⟨g, 1, none⟩ (.int .u64 (f' 1))).setCell ⟨g, 2, none⟩ (.int .u64 (f' 2))).setCell ⟨g, 3, none⟩ (.int .u64 (f' 3))) g f' :=
  ((((h.set (f' 0) (i := 0) (by omega)).set (f' 1) (i := 1) (by omega)).set (f' 2) (i := 2) (by omega)).set (f' 3) (i := 3) (by omega)).to fun i hi => by
    obtain rfl | rfl | rfl | rfl : i = 0 ∨ i = 1 ∨ i = 2 ∨ i = 3 := by omega
    · simp
    · simp
    · simp
    · simp
theorem Four.far4 {w : World} {g g' : Nat} {f : Nat → Int} (h : Four w g f) (u0 u1 u2 u3 : Value) (hg : g ≠ g') :
    Four ((((w.setCell ⟨g', 0, none⟩ u0).setCell ⟨g', 1, none⟩ u1).setCell ⟨g', 2, none⟩ u2).setCell ⟨g', 3, none⟩ u3) g f :=
  (((h.far u0 hg).far u1 hg).far u2 hg).far u3 hg
theorem below_set4 {w w' : World} {g B : Nat} (h : Below B w w') (u0 u1 u2 u3 : Value) (hg : B ≤ g) :
    Below B w ((((w'.setCell ⟨g, 0, none⟩ u0).setCell ⟨g, 1, none⟩ u1).setCell ⟨g, 2, none⟩ u2).setCell ⟨g, 3, none⟩ u3) :=
  (((h.setCell (p := ⟨g, 0, none⟩) hg u0).setCell (p := ⟨g, 1, none⟩) hg u1).setCell (p := ⟨g, 2, none⟩) hg u2).setCell (p := ⟨g, 3, none⟩) hg u3
theorem or_u64 {a b : Int} (ha : 0 ≤ a ∧ a < 18446744073709551616) (hb : 0 ≤ b ∧ b < 18446744073709551616) : bits .or .u64 a b = ((a.toNat ||| b.toNat : Nat) : Int) := u64_or a b ha.1 ha.2 hb.1 hb.2
theorem and_u64 {a b : Int} (ha : 0 ≤ a ∧ a < 18446744073709551616) (hb : 0 ≤ b ∧ b < 18446744073709551616) : bits .and .u64 a b = ((a.toNat &&& b.toNat : Nat) : Int) := u64_and a b ha.1 ha.2 hb.1 hb.2

theorem not_u64 {a : Int} (ha : 0 ≤ a ∧ a < 18446744073709551616) : bits .xor .u64 (if IntKind.u64.signed = true then -1 else IntKind.u64.max) a = 18446744073709551615 - a := by
  have e : (if IntKind.u64.signed = true then (-1 : Int) else IntKind.u64.max) = 18446744073709551615 := by decide
  rw [e, u64_xor _ _ (by decide) (by decide) ha.1 ha.2]
  have := Lib.xor_ones64 a.toNat (by omega)
  have e2 : (18446744073709551615 : Int).toNat = 2 ^ 64 - 1 := by decide
  rw [e2, this]
  omega
theorem reg1 {w : World} {g : Nat} {f : Nat → Int} (h : Four w g f) (i : Nat) (hi : i < 4) (hg : g < w.heap.size) : ∀ d os, (Sort.grow (redrawn w d) os).cell? ⟨g, i, none⟩ = some (.int .u64 (f i)) :=
  fun d os => ((below_regrown w d os).cell (p := ⟨g, i, none⟩) hg).trans (h.cell i hi)
theorem setIn_u (s : Nat → Int) (hs : SetIn s) (i : Nat) : 0 ≤ s i ∧ s i < 18446744073709551616 := hs i



set_option maxHeartbeats 1000000 in
set_option maxRecDepth 100000 in
theorem has_any (s : Nat → Int) (b : Int) (w : World) (h0 : 0 ≤ b) (h1 : b < 256) (hs : SetIn s) :
    Calls Tryz.prog 59 #[setV s, .int .u8 b] w fun e w' => e = .returned (.bool (hasS s b.toNat)) ∧ Below w.heap.size w w' := by
  obtain ⟨q, hq, hq'⟩ : ∃ q, b / 64 = q ∧ (q = 0 ∨ q = 1 ∨ q = 2 ∨ q = 3) := ⟨b / 64, rfl, by omega⟩
  obtain ⟨r, hr⟩ : ∃ r, b % 64 = r := ⟨_, rfl⟩
  have hr0 : 0 ≤ r := by omega
  have hr1 : r < 64 := by omega
  obtain ⟨x, hx⟩ : ∃ x, s q.toNat = x := ⟨_, rfl⟩
  have hres : hasS s b.toNat = decide (x / 2 ^ r.toNat % 2 = 1) := by
    have e1 : b.toNat / 64 = q.toNat := by omega
    have e2 : b.toNat % 64 = r.toNat := by omega
    unfold hasS
    rw [e1, e2, hx]
  rw [hres]
  have hxr := hs q.toNat
  rw [hx] at hxr
  clear hres
  unfold setV
  have hy : bits .and .u64 (x / 2 ^ r.toNat) 1 = x / 2 ^ r.toNat % 2 := by
    have h2 : (0 : Int) < 2 ^ r.toNat := Int.pow_pos (by omega)
    refine Lib.u64_and1 _ (Int.ediv_nonneg hxr.1 (by omega)) (Int.lt_of_le_of_lt (Int.ediv_le_self _ hxr.1) hxr.2)
  rcases hq' with rfl | rfl | rfl | rfl
  all_goals simp at hx
  all_goals
    have hX := Lib.hid hx
    rw [hx]
    clear hx
    go_enter Tryz.func59, Tryz.ntmps59
    go_wp2_with fail
    go_ret
    refine ⟨rfl, ?_⟩
    repeat (first | exact Below.refl _ _ | refine Below.alloc ?_ (by simp) _)

theorem or_pow {a : Int} (ha : 0 ≤ a ∧ a < 18446744073709551616) (r : Nat) (hr : r < 64) : bits .or .u64 a (IntKind.u64.wrap (2 ^ r)) = ((a.toNat ||| 2 ^ r : Nat) : Int) := by
  have h1 : (2 : Int) ^ r = ((2 ^ r : Nat) : Int) := by push_cast; rfl
  have h2 := pow64 r hr
  rw [h1]
  generalize 2 ^ r = p at *
  rw [IntWalk.u64_in _ (by omega), or_u64 ha (by omega), Int.toNat_natCast]

set_option maxHeartbeats 1000000 in
set_option maxRecDepth 100000 in
theorem charset_of (lo hi : Nat) (w : World) (h0 : lo < 256) (h1 : hi < 256) :
    Calls Tryz.prog 32 #[.int .u8 lo, .int .u8 hi] w fun e w' => e = .returned (setV (ofS lo hi)) ∧ Below w.heap.size w w' := by
  go_enter Tryz.func32, Tryz.ntmps32
  go_wp2_with fail
  have f1 := Four.zero (w.alloc (.cells #[.int .u64 0, .int .u64 0, .int .u64 0, .int .u64 0] 55)) 55
  have f3 := (Four.zero w 55).old (.cells #[.int .u64 0, .int .u64 0, .int .u64 0, .int .u64 0] 55) (by simp)
  have b1 : Below w.heap.size w ((w.alloc (.cells #[.int .u64 0, .int .u64 0, .int .u64 0, .int .u64 0] 55)).alloc (.cells #[.int .u64 0, .int .u64 0, .int .u64 0, .int .u64 0] 55)) :=
    ((Below.refl _ _).alloc (Nat.le_refl _) _).alloc (by simp) _
  simp only [World.size_alloc] at f1
  have F1 := Lib.hid f1
  have F3 := Lib.hid f3
  generalize (w.alloc (.cells #[.int .u64 0, .int .u64 0, .int .u64 0, .int .u64 0] 55)).alloc (.cells #[.int .u64 0, .int .u64 0, .int .u64 0, .int .u64 0] 55) = w1 at *
  clear f1 f3
  go_loopw [6] (fun c wr => ∃ n b : Nat, b = lo + n ∧ n ≤ hi + 1 - lo ∧ b ≤ 256 ∧ c = .int .i64 b ∧ Hid (Four wr (w.heap.size + 1) (spanS lo n)) ∧ Hid (Four wr w.heap.size noneS) ∧ Below w.heap.size w wr) (fun c _ => 256 - (intOf c).toNat)
  case atStart => exact ⟨0, lo, rfl, by omega, by omega, rfl, F1, F3, b1⟩
  case round =>
    clear F1 F3 b1
    obtain ⟨n, b, hbn, hn, hb, rfl, G1, G3, hB⟩ := hrel
    have HBN := Lib.hid hbn
    clear hbn
    by_cases hlt : b ≤ hi
    · obtain ⟨q, hq⟩ : ∃ q : Nat, b / 64 = q := ⟨_, rfl⟩
      obtain ⟨r, hr⟩ : ∃ r : Nat, b % 64 = r := ⟨_, rfl⟩
      have hq4 : q < 4 := by omega
      have hr4 : r < 64 := by omega
      have eq1 : (b : Int) / 64 = (q : Int) := by omega
      have er1 : (b : Int).tmod 64 = (r : Int) := by rw [Int.tmod_eq_emod_of_nonneg (by omega)]; omega
      have hd : decide ((b : Int) ≤ hi) = true := by simp; omega
      have hq5 : (q : Int) < 4 := by omega
      have hr5 : (r : Int) < 64 := by omega
      have wq : IntKind.i64.wrap (q : Int) = q := IntWalk.i64_in _ (by omega)
      have wr' : IntKind.i64.wrap (r : Int) = r := IntWalk.i64_in _ (by omega)
      have c1 := G1.out.cell q hq4
      have z1 := G1.out.free q
      have hs1 := spanIn lo n q
      obtain ⟨a, ha⟩ : ∃ a, spanS lo n q = a := ⟨_, rfl⟩
      rw [ha] at c1 hs1
      obtain ⟨v, hv⟩ : ∃ v, bits .or .u64 a (IntKind.u64.wrap (2 ^ r)) = v := ⟨_, rfl⟩
      have hstep : ∀ i, i < 4 → (if i = q then v else spanS lo n i) = spanS lo (n + 1) i := by
        intro i hi
        show _ = addS (spanS lo n) (lo + n) i
        unfold addS
        rw [← HBN.out, hq]
        by_cases e : i = q
        · subst e
          rw [if_pos rfl, if_pos rfl, ← hv, hr, ha]
          exact or_pow hs1 r hr4
        · rw [if_neg e, if_neg e]
      have HS := Lib.hid hstep
      clear ha hq hr hstep
      go_wp2_with fail
      refine wp_region_still_tail 9 (by kernel_rfl) (by kernel_rfl) ?_
      simp only [List.take_succ_cons, List.take_zero, List.drop_succ_cons, List.drop_zero]
      repeat still_step
      refine wpStill_nil ?_
      change wpList _ _ _ _ _ wr.drew
      go_wp2_with fail
      have g1 := G1.out.drew.set v hq4
      have g3 := G3.out.drew.far (g' := w.heap.size + 1) (i := q) (.int .u64 v) (by omega)
      have hB2 : Below w.heap.size w (wr.drew.setCell ⟨w.heap.size + 1, q, none⟩ (.int .u64 v)) := Below.setCell (Below.drew hB) (by show w.heap.size ≤ w.heap.size + 1; omega) _
      go_roundw
      case rel => exact ⟨n + 1, b + 1, by rw [HBN.out]; omega, by have := HBN.out; omega, by omega, by simp, Lib.hid (g1.to HS.out), Lib.hid g3, hB2⟩
      case measure => simp [intOf]; omega
    · have hd : decide ((b : Int) ≤ hi) = false := by simp; omega
      have e : n = hi + 1 - lo := by have := HBN.out; omega
      have g := G1.out
      rw [e, show spanS lo (hi + 1 - lo) = ofS lo hi from rfl] at g
      clear e
      have c0 := g.cell 0 (by omega)
      have c1 := g.cell 1 (by omega)
      have c2 := g.cell 2 (by omega)
      have c3 := g.cell 3 (by omega)
      have r0 := G3.out.cell 0 (by omega)
      have r1 := G3.out.cell 1 (by omega)
      have r2 := G3.out.cell 2 (by omega)
      have r3 := G3.out.cell 3 (by omega)
      have z := G3.out.free
      clear g
      go_wp2_with fail
      refine bodyPost_ret (v := setV (ofS lo hi)) (by simp [results, Tryz.results32, go_sem, setV, r0, r1, r2, r3]) rfl ⟨rfl, ?_⟩
      repeat (first | exact hB | refine Below.setCell ?_ (by simp <;> omega) _)
theorem has_nat (s : Nat → Int) (k : Nat) (B : Bool) (w : World) (hk : k < 256) (hs : SetIn s) (hB : hasS s k = B) :
    Calls Tryz.prog 59 #[.agg #[.int .u64 (s 0), .int .u64 (s 1), .int .u64 (s 2), .int .u64 (s 3)], .int .u8 k] w fun e w' => e = .returned (.bool B) ∧ Below w.heap.size w w' := by
  subst hB; exact has_any s k w (by omega) (by omega) hs
def bitI (b : Bool) : Int := if b then 1 else 0

set_option maxHeartbeats 1000000 in
set_option maxRecDepth 100000 in
theorem ofkey_any (s : Nat → Int) (hs : SetIn s) (S O g : Nat) (k : Nat) (hk : k < 256) (z : Int) (W : World)
    (hS : ∀ i, W.cell? ⟨S, i, none⟩ = (#[Value.int .u64 (s 0), .int .u64 (s 1), .int .u64 (s 2), .int .u64 (s 3)] : Array Value)[i]?)
    (hO : W.cell? ⟨O, 0, none⟩ = some (.slice (some ⟨g, 0, none⟩) 256 256)) (hz : W.cell? ⟨g, k, none⟩ = some (.int .i64 z)) (lS : S < W.heap.size) (lO : O < W.heap.size) (lg : g < W.heap.size) :
    Calls Tryz.prog 58 #[.int .i64 k, .pointer (some ⟨S, 0, none⟩), .pointer (some ⟨O, 0, none⟩)] W fun e W' => e = .returned (pairV (z, bitI (hasS s k))) ∧ Below W.heap.size W W' := by
  obtain ⟨B, hB⟩ : ∃ B, hasS s k = B := ⟨_, rfl⟩
  have hk' : (k : Int) < 256 := by omega
  have EB := Lib.hid hB
  clear hB
  go_enter Tryz.func58, Tryz.ntmps58
  go_wp2_with fail
  refine (has_nat s k B _ hk hs EB.out).mono ?_
  rintro e w1 ⟨rfl, b1⟩
  obtain ⟨k1, k2⟩ := bcell b1
  have hO1 : w1.cell? ⟨O, 0, none⟩ = some (.slice (some ⟨g, 0, none⟩) 256 256) := by rw [k1 _ _ (by simp; omega)]; go_simp
  have hz1 : w1.cell? ⟨g, k, none⟩ = some (.int .i64 z) := by rw [k1 _ _ (by simp; omega)]; go_simp
  have r0 := keepB b1 (newB W _ _) (by simp)
  have r1 := keepF b1 (newF W #[Value.int .i64 0, .int .i64 0] 82) (by simp)
  have B1 : Below W.heap.size W w1 := (Below.alloc (Below.refl _ _) (by omega) _).trans (b1.mono (by simp))
  have z1 : W.heap.size < w1.heap.size := by have := b1.size; simp at this; omega
  have BB : B = true ∨ B = false := by cases B <;> simp
  clear k1 k2 b1
  rcases BB with rfl | rfl
  all_goals
    go_wp2_with fail
    refine bodyPost_ret (v := pairV (z, bitI (hasS s k))) (by rw [EB.out]; simp [results, Tryz.results58, go_sem, pairV, bitI, r0]) rfl ⟨rfl, ?_⟩
    repeat (first | exact B1 | refine Below.setCell ?_ (by simp) _ | refine Below.alloc ?_ (by simp; omega) _)



/-- which of n sets have the byte -/
def memF (sf : Nat → Nat → Int) (n : Nat) (b : Nat) : List Bool := (List.range n).map fun j => hasS (sf j) b
theorem memF_succ (sf : Nat → Nat → Int) (n b : Nat) : memF sf (n + 1) b = memF sf n b ++ [hasS (sf n) b] := by simp [memF, List.range_succ]
theorem memF_len (sf : Nat → Nat → Int) (n b : Nat) : (memF sf n b).length = n := by simp [memF]

/-- a slice of sets that came in -/
structure IsSets (w : World) (x : Option Addr) (len cap : Nat) (sf : Nat → Nat → Int) : Prop where
  place : len = 0 ∨ ∃ bb off, x = some ⟨bb, off, none⟩ ∧ bb < w.heap.size ∧ ∀ j, j < len → ∀ i, i < 4 → w.cell? ⟨bb, off + j * 4 + i, none⟩ = some (.int .u64 (sf j i))
  ins : ∀ j, SetIn (sf j)
  bound : len ≤ 4611686018427387904

/-- the keys that one set more makes -/
def stepKey (sf : Nat → Nat → Int) (n : Nat) (b : Nat) : Int × Int := (Bl.num (memF sf n) b, bitI (hasS (sf n) b))
theorem bitI_inj {a b : Bool} (h : bitI a = bitI b) : a = b := by cases a <;> cases b <;> simp_all [bitI]
theorem step_num (sf : Nat → Nat → Int) (n b : Nat) : Bl.num (stepKey sf n) b = Bl.num (memF sf (n + 1)) b := by
  apply Bl.num_congr _ _ (b + 1) _ _ (by omega)
  intro a c _ _
  rw [memF_succ, memF_succ]
  simp only [stepKey, Prod.mk.injEq, Int.natCast_inj, Bl.num_iff]
  constructor
  · rintro ⟨h1, h2⟩
    rw [h1, bitI_inj h2]
  · intro h
    have h3 := List.append_inj h (by rw [memF_len, memF_len])
    simp at h3
    exact ⟨h3.1, by rw [h3.2]⟩
theorem step_cells (sf : Nat → Nat → Int) (n : Nat) : numCells (stepKey sf n) = numCells (memF sf (n + 1)) := by
  unfold numCells
  apply List.map_congr_left
  intro b _
  rw [step_num]
theorem none_cells (sf : Nat → Nat → Int) : numCells (memF sf 0) = List.replicate 256 (Value.int .i64 0) := by
  have h : ∀ b, Bl.num (memF sf 0) b = 0 := fun b => by
    have : Bl.rep (memF sf 0) b ≤ 0 := Bl.rep_first _ b 0 (by simp [memF])
    unfold Bl.num
    rw [Nat.le_zero.1 this]
    rfl
  unfold numCells
  rw [List.eq_replicate_iff]
  refine ⟨by simp, fun v hv => ?_⟩
  obtain ⟨b, _, rfl⟩ := List.mem_map.1 hv
  rw [h]
  rfl
theorem stepIn (sf : Nat → Nat → Int) (n k : Nat) (h : k < 256) : PairIn (stepKey sf n k) := by
  constructor
  · have := Bl.num_lt_256 (memF sf n) k h
    simp [stepKey, Lit.wf, IntKind.min, IntKind.max, IntKind.signed, IntKind.bits]
    omega
  · have : ∀ b : Bool, (Lit.int .i64 (bitI b)).wf = true := by decide
    exact this _

theorem row_base {w : World} {base b' : Nat} {e : TypeId} {size n : Nat} {v : Value} {xs : List Value} (h : w.ownsRow base e size v n xs) (hb : b' ≤ base) : w.ownsRow b' e size v n xs := by
  refine ⟨h.1, ?_⟩
  rcases h.2 with h1 | ⟨g, cap, cur, h1, h2, h3⟩
  · exact .inl h1
  · exact .inr ⟨g, cap, cur, h1, by omega, h3⟩

theorem made_one (v : Value) (n : Nat) : (madeCells #[v] n).toList = List.replicate n v := by
  rw [List.eq_replicate_iff]
  refine ⟨by simp [madeCells], fun b hb => ?_⟩
  simp only [madeCells, Array.toList_map, List.mem_map] at hb
  obtain ⟨i, _, rfl⟩ := hb
  have : i % #[v].size = 0 := Nat.mod_one i
  rw [this]
  rfl

set_option maxHeartbeats 4000000 in
set_option maxRecDepth 100000 in
theorem blocks_of (x : Option Addr) (len cap : Nat) (sf : Nat → Nat → Int) (w : World) (hs : IsSets w x len cap sf) :
    Calls Tryz.prog 33 #[.slice x len cap] w fun e w' =>
      ∃ g, e = .returned (.slice (some ⟨g, 0, none⟩) 256 256) ∧ w'.ownsRow w.heap.size 3 1 (.slice (some ⟨g, 0, none⟩) 256 256) 256 (numCells (memF sf len)) ∧ Below w.heap.size w w' := by
  obtain ⟨i0, hi, hz0, hz1, hz2⟩ := info_parts Tryz.info3
  go_enter Tryz.func33, Tryz.ntmps33
  go_wp2_with (first
    | (at_make; refine wpList_make_full _ rfl _ _ 23 rfl w.heap.size 3 i0 (.int .i64 0) 1 Tryz.underlying23 hi hz0 hz1 .i64 .i64 256 256 256 rfl rfl rfl rfl (by rw [hz2]; decide) (by decide) (by simp) ?_; intro w1 hown1 hgrow1)
    | go_in)
  have hB1 : Below w.heap.size w w1 := below_of_grown hgrow1 (Nat.le_refl _) (fun _ h => by cases h)
  have hlt1 : w.heap.size < w1.heap.size := (hown1.lt _ rfl).2
  obtain ⟨O, hO⟩ : ∃ O, w1.heap.size = O := ⟨_, rfl⟩
  have e0 : (madeCells (Value.int .i64 0).cells (256 * 1)).toList = numCells (memF sf 0) := by rw [none_cells]; exact made_one _ 256
  rw [e0] at hown1
  have hc1 := newB w1 #[Value.slice (some ⟨w.heap.size, 0, none⟩) 256 256] 23 0
  have hf1 := newF w1 #[Value.slice (some ⟨w.heap.size, 0, none⟩) 256 256] 23 0
  rw [hO] at hc1 hf1
  rw [hO]
  have HS := Lib.hid hs
  have hbound := hs.bound
  clear hs e0 hgrow1
  go_loopw [9] (fun c wr => ∃ (j g : Nat), j ≤ len ∧ c = .int .i64 j ∧ wr.cell? ⟨O, 0, none⟩ = some (.slice (some ⟨g, 0, none⟩) 256 256) ∧ wr.frozen? ⟨O, 0, none⟩ = false ∧
      wr.ownsRow w.heap.size 3 1 (.slice (some ⟨g, 0, none⟩) 256 256) 256 (numCells (memF sf j)) ∧ Below w.heap.size w wr ∧ O < wr.heap.size ∧ g ≠ O) (fun c _ => len - (intOf c).toNat)
  case atStart => exact ⟨0, w.heap.size, by omega, rfl, hc1, hf1, hown1.alloc _, hB1.alloc (by omega) _, by simp; omega, by omega⟩
  case round =>
    obtain ⟨j, g, hj, rfl, hc, hf, hrow, hB, hOl, hgO⟩ := hrel
    by_cases hlt : j < len
    · rcases HS.out.place with h0 | ⟨bb, off, rfl, hbb, hcs⟩
      · omega
      · have hcs' : ∀ i, i < 4 → wr.cell? ⟨bb, off + j * 4 + i, none⟩ = some (.int .u64 (sf j i)) := fun i hi => (hB.cell (p := ⟨bb, off + j * 4 + i, none⟩) hbb).trans (hcs j hlt i hi)
        have m0 : wr.cell? ⟨bb, off + j * 4, none⟩ = some (.int .u64 (sf j 0)) := hcs' 0 (by omega)
        have m1 := hcs' 1 (by omega)
        have m2 := hcs' 2 (by omega)
        have m3 := hcs' 3 (by omega)
        clear hcs hcs'
        go_wp2_with fail
        have hN : ∀ i, (wr.alloc (.cells #[.int .u64 (sf j 0), .int .u64 (sf j 1), .int .u64 (sf j 2), .int .u64 (sf j 3)] 55)).cell? ⟨wr.heap.size, i, none⟩ = (#[Value.int .u64 (sf j 0), .int .u64 (sf j 1), .int .u64 (sf j 2), .int .u64 (sf j 3)] : Array Value)[i]? := newB wr _ _
        have hc2 : (wr.alloc (.cells #[.int .u64 (sf j 0), .int .u64 (sf j 1), .int .u64 (sf j 2), .int .u64 (sf j 3)] 55)).cell? ⟨O, 0, none⟩ = some (.slice (some ⟨g, 0, none⟩) 256 256) := by go_simp
        have hf2 : (wr.alloc (.cells #[.int .u64 (sf j 0), .int .u64 (sf j 1), .int .u64 (sf j 2), .int .u64 (sf j 3)] 55)).frozen? ⟨O, 0, none⟩ = false := by go_simp
        have hrow2 := hrow.alloc (.cells #[.int .u64 (sf j 0), .int .u64 (sf j 1), .int .u64 (sf j 2), .int .u64 (sf j 3)] 55)
        have hB2 : Below w.heap.size w (wr.alloc (.cells #[.int .u64 (sf j 0), .int .u64 (sf j 1), .int .u64 (sf j 2), .int .u64 (sf j 3)] 55)) := hB.alloc hB.size _
        have hs2 : (wr.alloc (.cells #[.int .u64 (sf j 0), .int .u64 (sf j 1), .int .u64 (sf j 2), .int .u64 (sf j 3)] 55)).heap.size = wr.heap.size + 1 := by simp
        have hgl : g < wr.heap.size := (hrow.lt _ rfl).2
        generalize wr.alloc (.cells #[.int .u64 (sf j 0), .int .u64 (sf j 1), .int .u64 (sf j 2), .int .u64 (sf j 3)] 55) = wq at *
        refine (number_any _ (.inl rfl) _ _ (stepKey sf j) _ (fun k hk => stepIn sf j k hk) (fun k W hk hb => ?_)).mono ?_
        · exact ofkey_any (sf j) (HS.out.ins j) _ O g k hk _ W (keepB hb hN (by omega)) ((hb.cell (p := ⟨O, 0, none⟩) (by show O < _; omega)).trans hc2)
            ((hb.cell (p := ⟨g, k, none⟩) (by show g < _; omega)).trans ((hrow2.cellAt k (by omega)).trans (by simp [numCells, hk]))) (by have := hb.size; omega) (by have := hb.size; omega) (by have := hb.size; omega)
        · rintro e w5 ⟨rfl, r5, b5⟩
          rw [step_cells] at r5
          have hc5 : w5.cell? ⟨O, 0, none⟩ = some (.slice (some ⟨g, 0, none⟩) 256 256) := (b5.cell (p := ⟨O, 0, none⟩) (by show O < _; omega)).trans hc2
          have hf5 : w5.frozen? ⟨O, 0, none⟩ = false := (b5.frozen (p := ⟨O, 0, none⟩) (by show O < _; omega)).trans hf2
          have hB5 : Below w.heap.size w w5 := hB2.trans (b5.mono (by have := hB.size; omega))
          have hz5 : O < w5.heap.size := by have := b5.size; omega
          have hne : wq.heap.size ≠ O := by omega
          have r6 := row_base r5 (b' := w.heap.size) (by have := hB.size; omega)
          clear hN hc2 hf2 hrow2 hB2 hc hf hrow hB r5 b5
          go_wp2_with fail
          have hc6 := World.cell?_setCell_same w5 ⟨O, 0, none⟩ (.slice (some ⟨wr.heap.size + 1, 0, none⟩) 256 256) hc5
          rw [hs2] at r6 hne
          exact ⟨⟨j + 1, wr.heap.size + 1, by omega, by simp, hc6, by rw [World.frozen?_setCell]; exact hf5, r6.kept (grown_set _ _ _) (.inr (by simp [Value.ownBlock]; omega)), hB5.setCell (by show w.heap.size ≤ O; omega) _, by simpa using hz5, hne⟩, by simp [intOf]; omega⟩
    · have e : j = len := by omega
      subst e
      go_wp2_with fail
      go_ret
      exact ⟨g, rfl, hrow, hB⟩
end Go.Proofs.YtmmlakheimfijaaGreatDoor
namespace Go.Proofs.YtmmlakheimfijaaGreatDoor
set_option linter.unusedVariables false
set_option linter.unusedSimpArgs false
section
open Go.Shelf
def lays137_ren : Go.Shelf.Ren := ⟨fun | 137 => 31 | 217 => 56 | 266 => 81 | n => n, fun | 9 => 9 | 5 => 5 | 3 => 3 | n => n, fun | n => n⟩
theorem lays137 : Go.Proofs.Lays.n137 Tryz.prog lays137_ren := {
  mixed := by kernel_rfl
  f137 := Tryz.func31.trans (congrArg some (by kernel_rfl))
  f217 := Tryz.func56.trans (congrArg some (by kernel_rfl))
  f266 := Tryz.func81.trans (congrArg some (by kernel_rfl))
  t3 := Tryz.underlying3
  a3 := Tryz.isAgg3
  z3 := Tryz.sizeOf3
  v3 := Tryz.zeroValue3
  t5 := Tryz.underlying5
  a5 := Tryz.isAgg5
  z5 := Tryz.sizeOf5
  v5 := Tryz.zeroValue5
  t9 := Tryz.underlying9
  a9 := Tryz.isAgg9
  z9 := Tryz.sizeOf9
  v9 := Tryz.zeroValue9 }
def lays264_ren : Go.Shelf.Ren := ⟨fun | 264 => 54 | n => n, fun | 53 => 53 | 46 => 86 | n => n, fun | n => n⟩
theorem lays264 : Go.Proofs.Lays.n264 Tryz.prog lays264_ren := {
  mixed := by kernel_rfl
  f264 := Tryz.func54.trans (congrArg some (by kernel_rfl))
  t46 := Tryz.underlying86
  a46 := Tryz.isAgg86
  z46 := Tryz.sizeOf86
  v46 := Tryz.zeroValue86
  t53 := Tryz.underlying53
  a53 := Tryz.isAgg53
  z53 := Tryz.sizeOf53
  v53 := Tryz.zeroValue53 }
open Go.RowKit in
theorem strings_IndexByte (s : ByteArray) (c : Int) (w : World) :
    Calls Tryz.prog 31 #[.string s, .int .u8 c] w fun e w' => e = .returned (.int .i64 (Lib.indexByte s.data.toList c.toNat.toUInt8)) ∧ w' = w := Any.strings_IndexByte lays137 s c w
open Go.RowKit Go.Lib in
theorem bits_Mul64 (x y : Nat) (hx : x < 18446744073709551616) (hy : y < 18446744073709551616) (w : World) :
    Calls Tryz.prog 54 #[.int .u64 x, .int .u64 y] w fun e w' => e = .returned (.tuple #[.int .u64 ((x * y / 18446744073709551616 : Nat) : Int), .int .u64 ((x * y % 18446744073709551616 : Nat) : Int)]) ∧ w' = w := Any.bits_Mul64 lays264 x y hx hy w
end
open Go.RowKit Go.Maps Go.Sort Cs
/-- 1 * n -/
theorem mul_one_any (n : Nat) (hn : n ≤ 1000000) (w : World) :
    Calls Tryz.prog 61 #[.int .u64 1, .int .u64 n] w fun e w' => e = .returned (.tuple #[.int .u64 0, .int .u64 n]) ∧ w' = w := by
  have h := fun W => bits_Mul64 1 n (by omega) (by omega) W
  have e1 : ((1 * n / 18446744073709551616 : Nat) : Int) = 0 := by omega
  have e2 : ((1 * n % 18446744073709551616 : Nat) : Int) = (n : Int) := by omega
  rw [e1, e2] at h
  have e3 : ((1 : Nat) : Int) = 1 := rfl
  rw [e3] at h
  clear e1 e2 e3
  go_enter Tryz.func61, Tryz.ntmps61
  go_wp2_with fail
  refine (h _).mono ?_
  rintro e w1 ⟨rfl, rfl⟩
  go_wp2_with fail
  refine bodyPost_ret (v := .tuple #[.int .u64 0, .int .u64 n]) (by simp [results, Tryz.results61, go_sem]) rfl ⟨rfl, rfl⟩
/-- m of n are laid -/
def repC (v : Int) (n m : Nat) : List Value := List.replicate m (.int .i64 v) ++ List.replicate (n - m) (.int .i64 0)
theorem repC_len (v : Int) {n m : Nat} (h : m ≤ n) : (repC v n m).length = n := by simp [repC]; omega
theorem repC_splice (v : Int) {n m k : Nat} (h : m + k ≤ n) : splice (repC v n m) m (List.replicate k (.int .i64 v)) = repC v n (m + k) := by
  unfold splice repC
  rw [List.length_replicate, List.take_left' (by simp)]
  have e : (List.replicate m (Value.int .i64 v) ++ List.replicate (n - m) (Value.int .i64 0)).drop (m + k) = List.replicate (n - (m + k)) (Value.int .i64 0) := by
    rw [List.drop_append, List.length_replicate, List.drop_eq_nil_of_le (by simp), List.nil_append, List.drop_replicate]
    congr 1
    omega
  rw [e, ← List.append_assoc, List.replicate_append_replicate]
theorem repC_at (v : Int) {n m j : Nat} (h : j < m) : (repC v n m)[j]? = some (.int .i64 v) := by
  unfold repC
  rw [List.getElem?_append_left (by simpa using h), List.getElem?_replicate, if_pos h]
theorem repC_all (v : Int) (n : Nat) : repC v n n = List.replicate n (.int .i64 v) := by simp [repC]
theorem repC_none (v : Int) (n : Nat) : repC v n 0 = List.replicate n (.int .i64 0) := by simp [repC]
theorem own_block {w : World} {B n : Nat} {e : TypeId} {g : Nat} {xs : List Value} (h : w.ownsRow B e 1 (.slice (some ⟨g, 0, none⟩) n n) n xs) : w.heap[g]? = some (.cells xs.toArray e (0, 0)) := by
  obtain ⟨h1, h2⟩ := h
  rcases h2 with ⟨h2, -⟩ | ⟨g', cap, cur, he, hB, hg, h3⟩
  · cases h2
  · obtain ⟨e1, -, rfl⟩ := Value.slice.inj he
    obtain rfl : g = g' := by injection e1 with e1; injection e1
    obtain ⟨-, -, h4, h5⟩ := h3
    rw [hg]
    congr 2
    rw [← h5, List.take_of_length_le (by rw [Array.length_toList, h4]; exact Nat.le_refl _), Array.toArray_toList]
theorem own_of_block {w : World} {B n : Nat} {e : TypeId} {g : Nat} {xs : List Value} (h : w.heap[g]? = some (.cells xs.toArray e (0, 0))) (hl : xs.length = n) (hB : B ≤ g) (hn : n ≤ maxLen) : w.ownsRow B e 1 (.slice (some ⟨g, 0, none⟩) n n) n xs :=
  ⟨by omega, .inr ⟨g, n, xs.toArray, rfl, hB, h, Nat.le_refl _, hn, by simp [hl], by simp [← hl]⟩⟩
set_option maxHeartbeats 8000000 in
set_option maxRecDepth 1000000 in
theorem repeat_any (ga oa : Nat) (c : Nat) (v : Int) (n : Nat) (w : World) (h1 : 1 ≤ n) (hn : n ≤ 1000000) (hc : w.cell? ⟨ga, oa, none⟩ = some (.int .i64 v)) :
    Calls Tryz.prog 35 #[.slice (some ⟨ga, oa, none⟩) 1 c, .int .i64 n] w fun e w' => ∃ g, e = .returned (.slice (some ⟨g, 0, none⟩) n n) ∧ w'.ownsRow w.heap.size 3 1 (.slice (some ⟨g, 0, none⟩) n n) n (List.replicate n (.int .i64 v)) ∧ Below w.heap.size w w' := by
  have hal : ga < w.heap.size := World.block_lt_of_cell? w _ hc
  have hwrap : IntKind.u64.wrap (n : Int) = (n : Int) := by
    simp [IntKind.wrap, IntKind.signed, IntKind.bits]
    omega
  have hwrap2 : IntKind.i64.wrap (n : Int) = (n : Int) := IntWalk.i64_in _ (by omega)
  obtain ⟨i0, hi, hz0, hz1, hz2⟩ := info_parts infoInt
  go_enter Tryz.func35, Tryz.ntmps35
  go_wp2_with fail
  refine (mul_one_any n hn _).mono ?_
  rintro e w' ⟨rfl, rfl⟩
  have hsz : (Tryz.prog.info? 3).map (·.size) = some 1 := by rw [hi]; exact congrArg some hz1
  have hmin : (List.replicate 1 (Value.int .i64 v)).length = Nat.min 1 n := by simp [Nat.min_def]; omega
  have hmade : (madeCells (Value.int .i64 0).cells (n * 1)).toList = repC v n 0 := by rw [repC_none, Nat.mul_one]; exact made_one _ n
  have hadd : ∀ W, Below w'.heap.size w' W → ∀ j u, (List.replicate 1 (Value.int .i64 v))[j]? = some u → W.cell? ((⟨ga, oa, none⟩ : Addr).add j) = some u := fun W hW j u hj => by
    match j, hj with
    | 0, hj =>
      simp at hj
      subst hj
      have e : (⟨ga, oa, none⟩ : Addr).add 0 = ⟨ga, oa, none⟩ := by unfold Addr.add; simp
      rw [e]
      exact (hW.cell (p := ⟨ga, oa, none⟩) hal).trans hc
  have hsp : splice (repC v n 0) 0 (List.replicate 1 (Value.int .i64 v)) = repC v n 1 := repC_splice v (m := 0) (k := 1) (by omega)
  have HH := Lib.hid (And.intro hmade (And.intro hadd (And.intro hsp hmin)))
  clear hmade hadd hsp hmin
  go_wp2_with (first
    | (at_make; refine wpList_make_full _ rfl _ _ 23 rfl w'.heap.size 3 i0 (.int .i64 0) 1 Tryz.underlying23 hi hz0 hz1 .i64 .i64 n n n rfl rfl rfl rfl (by rw [hz2]; omega) (by unfold maxLen; omega) (Nat.le_refl _) ?_; intro w1 hown1 hgrow1; have hg1 := own_block hown1; rw [HH.out.1] at hg1; have hB1 := below_of_grown hgrow1 (Nat.le_refl _) (fun _ h => by cases h))
    | (refine wpList_copy_splice rfl (.tmp 31) (.tmp 32) 23 23 rfl 3 Tryz.underlying23 hsz _ _ _ _ _ _ rfl rfl w'.heap.size 0 (repC v n 0) 3 hg1 (List.replicate 1 (.int .i64 v)) HH.out.2.2.2 (fun _ => ⟨rfl, _, rfl, HH.out.2.1 _ hB1⟩) (by simp [repC]; omega) (fun u hu => by simp at hu; rw [hu]; rfl) w'.heap.size w' hB1 (Nat.le_refl _) ?_; intro w2 HG2 hB2)
    | go_in)
  rw [HH.out.2.2.1] at HG2
  have HI := Lib.hid (And.intro hi hz1)
  clear hown1 hgrow1 hg1 hB1 hi hz0 hz1 hz2 hwrap hwrap2
  go_loopw [8] (fun c8 wr => ∃ m : Nat, c8 = .int .i64 m ∧ 1 ≤ m ∧ m ≤ n ∧ Hid (wr.heap[w'.heap.size]? = some (.cells (repC v n m).toArray 3 (0, 0))) ∧ Below w'.heap.size w' wr) (fun c _ => n - (intOf c).toNat)
  case atStart => exact ⟨1, rfl, by omega, h1, HG2, hB2⟩
  case round =>
    clear HG2 hB2
    obtain ⟨m, rfl, hm1, hm, HG, hB⟩ := hrel
    by_cases hlt : m < n
    · obtain ⟨k, hk⟩ : ∃ k, Nat.min m (n - m) = k := ⟨_, rfl⟩
      have hk1 : 1 ≤ k := by rw [← hk]; simp [Nat.min_def]; split <;> omega
      have hk2 : m + k ≤ n := by rw [← hk]; simp [Nat.min_def]; split <;> omega
      have hkm : k ≤ m := by rw [← hk]; exact Nat.min_le_left _ _
      have hmin : (List.replicate k (Value.int .i64 v)).length = Nat.min m (n - m) := by rw [hk, List.length_replicate]
      have hsrc : ∀ W : World, W.heap[w'.heap.size]? = some (.cells (repC v n m).toArray 3 (0, 0)) → ∀ j u, (List.replicate k (Value.int .i64 v))[j]? = some u → W.cell? ((⟨w'.heap.size, 0, none⟩ : Addr).add j) = some u := fun W hW j u hj => by
        have hjk : j < k := by have := (List.getElem?_eq_some_iff.1 hj).1; simpa using this
        rw [List.getElem?_replicate, if_pos hjk] at hj
        rw [Addr.add_lit, Nat.zero_add, cell_of_row W _ j _ _ (0, 0) hW]
        rw [List.getElem?_toArray, repC_at v (by omega)]
        exact hj
      have hsp := repC_splice v hk2
      have hfit : m + (List.replicate k (Value.int .i64 v)).length ≤ (repC v n m).length := by rw [repC_len v hm, List.length_replicate]; exact hk2
      have HK := Lib.hid (And.intro hmin (And.intro hsrc (And.intro hsp hfit)))
      clear hmin hsrc hsp hfit hk
      have hwk : IntKind.i64.wrap ((m : Int) + (k : Int)) = (m : Int) + (k : Int) := IntWalk.i64_in _ (by omega)
      go_wp2_with fail
      refine wp_region_T [0, 7, 8, 9] (by kernel_rfl) ?_
      intro W3 bb
      have hgW := (bb.block w'.heap.size (by have := (Array.getElem?_eq_some_iff.1 HG.out).1; exact this)).trans HG.out
      have HG3 := Lib.hid hgW
      have hB3 := hB.trans (bb.mono hB.size)
      clear hgW
      refine stepsP [0] (by kernel_rfl) (by kernel_rfl) ?_
      simp only [atIdx, List.filterMap_cons, List.filterMap_nil, List.getElem?_toArray, List.getElem_toArray, List.getElem?_cons_zero, List.getElem?_cons_succ, List.getElem_cons_zero, List.getElem_cons_succ]
      iterate 1 (show wpQuiet _ _ _ _ (_ :: _) _; go_big_quiet_step (fail))
      refine wpQuiet_nil ?_
      show stepT _ _ _ _ _ _ _ _ _
      refine stepsQ [1, 2, 3, 4, 5, 6] (by kernel_rfl) (by kernel_rfl) (by kernel_rfl) (Grown.of_below (Below.refl _ _)) ?_
      simp only [atIdx, List.filterMap_cons, List.filterMap_nil, List.getElem?_toArray, List.getElem_toArray, List.getElem?_cons_zero, List.getElem?_cons_succ, List.getElem_cons_zero, List.getElem_cons_succ]
      iterate 6 (show wpQuiet _ _ _ _ (_ :: _) _; go_big_quiet_step (fail))
      refine wpQuiet_nil ?_
      show stepT _ _ _ _ _ _ _ _ _
      refine stepS (i := 7) rfl (by kernel_rfl) ?_
      intro K hK
      refine step_copy_splice rfl (.tmp 41) (.tmp 44) 23 23 rfl 3 Tryz.underlying23 hsz (some ⟨w'.heap.size, m, none⟩) (some ⟨w'.heap.size, 0, none⟩) (n - m) (n - m) m n (by simp [Act.eval, Act.put]) (by simp [Act.eval, Act.put]) w'.heap.size m (repC v n m) 3 HG3.out (List.replicate k (.int .i64 v)) HK.out.1 (fun _ => ⟨rfl, _, rfl, HK.out.2.1 _ HG3.out⟩) HK.out.2.2.2 (fun u hu => by simp at hu; rw [hu.2]; rfl) w'.heap.size w' hB3 (Nat.le_refl _) ?_
      intro w4 HG4 hB4
      refine hK _ _ ⟨fun h => absurd (by decide) h, ?_⟩
      clear hK K
      rw [HK.out.2.2.1] at HG4
      have hlenk : (List.replicate k (Value.int .i64 v)).length = k := List.length_replicate ..
      rw [hlenk]
      clear hB3 bb HG3
      refine stepS (i := 8) rfl (by kernel_rfl) ?_
      intro K hK
      go_simp
      refine hK _ _ ⟨fun h => absurd (by decide) h, ?_⟩
      clear hK K
      refine stepS (i := 9) rfl (by kernel_rfl) ?_
      intro K hK
      go_simp
      refine hK _ _ ⟨fun h => absurd (by decide) h, ?_⟩
      clear hK K
      refine stepT_end (by kernel_rfl) ?_
      go_wp2_with fail
      go_roundw
      case rel => exact ⟨m + k, by go_num, by omega, hk2, HG4, hB4⟩
      case measure => simp [intOf]; omega
    · obtain rfl : m = n := by omega
      have hown := own_of_block (B := w'.heap.size) HG.out (repC_len v (Nat.le_refl m)) (Nat.le_refl _) (by unfold maxLen; omega)
      rw [repC_all] at hown
      go_wp2_with fail
      go_ret
      exact ⟨_, rfl, hown, hB⟩
end Go.Proofs.YtmmlakheimfijaaGreatDoor
