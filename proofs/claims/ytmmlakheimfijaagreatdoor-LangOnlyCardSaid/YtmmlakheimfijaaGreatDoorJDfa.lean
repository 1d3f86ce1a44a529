/-
  An automaton in memory, as it comes in and as it goes out; when it is right. Conditions: each lemma says its own.
  The walk of dfa.Right: whether an automaton is right. Conditions: the automaton lies in memory.
  The walk of the reference's Right of automata. Conditions: the automaton lies in memory.
  Lists and automata held against each other, in both programs. Conditions: they lie in memory.
  Rows and automata held against each other, in both programs. Conditions: they lie in memory.
  The walks of Great, dfa.State and dfa.Run. Conditions: the automaton lies in memory.
  The walk of least.Reached. Conditions: the automaton lies in memory.
-/
import Derived.Test.YtmmlakheimfijaaGreatDoorJMem
import Derived.Test.YtmmlakheimfijaaGreatDoorJAuCls
import Derived.Test.YtmmlakheimfijaaGreatDoorJPlain
import Derived.Lib.QuietBelow
import Derived.BigQuiet
import Derived.Deep.QuietTactic
import Derived.Test.YtmmlakheimfijaaGreatDoorJKit
import Derived.Lib.OwnBridge
namespace Go.Proofs.YtmmlakheimfijaaGreatDoor
set_option linter.unusedVariables false
set_option linter.unusedSimpArgs false
open Go.RowKit Go.Maps Go.Sort Go.ChangeShapes Go.WideShapes

def IntsIn (l : List Int) : Prop := l.length ≤ 9223372036854775807 ∧ ∀ x ∈ l, In64 x
/-- a slice of ints that is read -/
def IntsAt (w : World) (v : Value) (l : List Int) : Prop :=
  ∃ a cap, v = .slice a l.length cap ∧ (l = [] ∨ ∃ b off, a = some ⟨b, off, none⟩ ∧ b < w.heap.size ∧ ∀ (j : Nat) (x : Int), l[j]? = some x → w.cell? ⟨b, off + j, none⟩ = some (.int .i64 x))
theorem IntsAt.below {w w' : World} {v : Value} {l : List Int} (h : IntsAt w v l) (hb : Below w.heap.size w w') : IntsAt w' v l := by
  obtain ⟨a, cap, rfl, h0 | ⟨b, off, rfl, hlt, hc⟩⟩ := h
  · exact ⟨a, cap, rfl, .inl h0⟩
  · exact ⟨_, cap, rfl, .inr ⟨b, off, rfl, by have := hb.size; omega, fun j x hj => (hb.cell (p := ⟨b, off + j, none⟩) hlt).trans (hc j x hj)⟩⟩
theorem IntsAt.get {w : World} {a : Option Addr} {len c : Nat} {l : List Int} (h : IntsAt w (.slice a len c) l) {k : Nat} {x : Int} (hk : l[k]? = some x) : ∃ b off, a = some ⟨b, off, none⟩ ∧ w.cell? ⟨b, off + k, none⟩ = some (.int .i64 x) := by
  obtain ⟨a', c', he, h0 | ⟨b, off, rfl, hb, hc⟩⟩ := h
  · rw [h0] at hk; cases hk
  · obtain ⟨rfl, -, -⟩ := Value.slice.inj he
    exact ⟨b, off, rfl, hc k x hk⟩
theorem IntsAt.isInts {w : World} {a : Option Addr} {cap : Nat} {l : List Int} (h : IntsAt w (.slice a l.length cap) l) (hi : IntsIn l) : IsInts w a l.length cap fun j => l.getD j 0 := by
  obtain ⟨a', c', he, h1⟩ := h
  obtain ⟨rfl, -, -⟩ := Value.slice.inj he
  refine ⟨?_, fun j hj => ?_, hi.1⟩
  · rcases h1 with h0 | ⟨b, off, rfl, hb, hc⟩
    · left; rw [h0]; rfl
    · right
      refine ⟨b, off, rfl, hb, fun j hj => ?_⟩
      rw [hc j _ (List.getElem?_eq_getElem hj), List.getD_eq_getElem?_getD, List.getElem?_eq_getElem hj]; rfl
  · rw [List.getD_eq_getElem?_getD, List.getElem?_eq_getElem hj]
    exact hi.2 _ (List.getElem_mem hj)
theorem NatsAt.intsAt {w : World} {v : Value} {l : List Nat} (h : NatsAt w v l) : IntsAt w v (intsOf l) := by
  obtain ⟨a, cap, rfl, h0 | ⟨b, off, rfl, hb, hc⟩⟩ := h
  · exact ⟨a, cap, by rw [intsOf_len], .inl (by rw [h0]; rfl)⟩
  · refine ⟨_, cap, by rw [intsOf_len], .inr ⟨b, off, rfl, hb, fun j x hj => ?_⟩⟩
    rw [intsOf, List.getElem?_map] at hj
    obtain ⟨n, hn, rfl⟩ := Option.map_eq_some_iff.1 hj
    exact hc j n hn
theorem intsOf_toNat {l : List Int} (h : ∀ x ∈ l, 0 ≤ x) : intsOf (l.map Int.toNat) = l := by
  induction l with
  | nil => rfl
  | cons a l ih =>
    have h1 := h a (by simp)
    have h2 := ih fun x hx => h x (by simp [hx])
    simp only [intsOf, List.map_cons] at h2 ⊢
    rw [h2]
    congr 1
    omega
theorem IntsAt.natsAt {w : World} {v : Value} {l : List Int} (h : IntsAt w v l) (h0 : ∀ x ∈ l, 0 ≤ x) : NatsAt w v (l.map Int.toNat) := by
  obtain ⟨a, cap, rfl, h1 | ⟨b, off, rfl, hb, hc⟩⟩ := h
  · exact ⟨a, cap, by rw [List.length_map], .inl (by rw [h1]; rfl)⟩
  · refine ⟨_, cap, by rw [List.length_map], .inr ⟨b, off, rfl, hb, fun j x hj => ?_⟩⟩
    rw [List.getElem?_map] at hj
    obtain ⟨n, hn, rfl⟩ := Option.map_eq_some_iff.1 hj
    rw [hc j n hn]
    have := h0 n (List.mem_of_getElem? hn)
    congr 2
    omega
/-- a slice of slices of ints that is read -/
def IRowsAt (w : World) (v : Value) (ll : List (List Int)) : Prop :=
  ∃ a cap, v = .slice a ll.length cap ∧ (ll = [] ∨ ∃ b off, a = some ⟨b, off, none⟩ ∧ b < w.heap.size ∧ ∀ (j : Nat) (l : List Int), ll[j]? = some l → ∃ u, w.cell? ⟨b, off + j, none⟩ = some u ∧ IntsAt w u l)
theorem IRowsAt.below {w w' : World} {v : Value} {ll : List (List Int)} (h : IRowsAt w v ll) (hb : Below w.heap.size w w') : IRowsAt w' v ll := by
  obtain ⟨a, cap, rfl, h0 | ⟨b, off, rfl, hlt, hc⟩⟩ := h
  · exact ⟨a, cap, rfl, .inl h0⟩
  · exact ⟨_, cap, rfl, .inr ⟨b, off, rfl, by have := hb.size; omega, fun j l hj => by
      obtain ⟨u, hu, hl⟩ := hc j l hj
      exact ⟨u, (hb.cell (p := ⟨b, off + j, none⟩) hlt).trans hu, hl.below hb⟩⟩⟩
theorem IRowsAt.get {w : World} {a0 : Option Addr} {len cap0 : Nat} {ll : List (List Int)} (h : IRowsAt w (.slice a0 len cap0) ll) {n : Nat} {l : List Int} (hn : ll[n]? = some l) :
    ∃ b off a c, a0 = some ⟨b, off, none⟩ ∧ w.cell? ⟨b, off + n, none⟩ = some (.slice a l.length c) ∧ IntsAt w (.slice a l.length c) l := by
  obtain ⟨a, cap, he, h0 | ⟨b, off, rfl, hlt, hc⟩⟩ := h
  · rw [h0] at hn; cases hn
  · obtain ⟨rfl, -, -⟩ := Value.slice.inj he
    obtain ⟨u, hu, h1⟩ := hc n l hn
    obtain ⟨a, c, rfl, h2⟩ := id h1
    exact ⟨b, off, a, c, rfl, hu, h1⟩
theorem RowsAt.iRowsAt {w : World} {v : Value} {ll : List (List Nat)} {N : Nat → Prop} (h : RowsAt w v ll N) : IRowsAt w v (ll.map intsOf) := by
  obtain ⟨a, cap, rfl, h0 | ⟨b, off, rfl, hlt, hN, hc⟩⟩ := h
  · exact ⟨a, cap, by rw [List.length_map], .inl (by rw [h0]; rfl)⟩
  · refine ⟨_, cap, by rw [List.length_map], .inr ⟨b, off, rfl, hlt, fun j l hj => ?_⟩⟩
    rw [List.getElem?_map] at hj
    obtain ⟨n, hn, rfl⟩ := Option.map_eq_some_iff.1 hj
    obtain ⟨u, hu, hl, hg⟩ := hc j n hn
    exact ⟨u, hu, hl.intsAt⟩
theorem NatsAt.lt {w : World} {v : Value} {l : List Nat} (h : NatsAt w v l) : l = [] ∨ ∀ g, v.ownBlock = some g → g < w.heap.size := by
  obtain ⟨a, cap, rfl, h0 | ⟨b, off, rfl, hb, hc⟩⟩ := h
  · exact .inl h0
  · exact .inr fun g e => by obtain rfl : b = g := Option.some.inj e; exact hb
theorem IRowsAt.rowsAt {w : World} {v : Value} {ll : List (List Int)} (h : IRowsAt w v ll) (h0 : ∀ l ∈ ll, l ≠ [] ∧ ∀ x ∈ l, 0 ≤ x) : RowsAt w v (ll.map (·.map Int.toNat)) fun _ => True := by
  obtain ⟨a, cap, rfl, h1 | ⟨b, off, rfl, hlt, hc⟩⟩ := h
  · exact ⟨a, cap, by rw [List.length_map], .inl (by rw [h1]; rfl)⟩
  · refine ⟨_, cap, by rw [List.length_map], .inr ⟨b, off, rfl, hlt, trivial, fun j l hj => ?_⟩⟩
    rw [List.getElem?_map] at hj
    obtain ⟨n, hn, rfl⟩ := Option.map_eq_some_iff.1 hj
    obtain ⟨u, hu, hl⟩ := hc j n hn
    obtain ⟨hne, hp⟩ := h0 n (List.mem_of_getElem? hn)
    have hna := hl.natsAt hp
    refine ⟨u, hu, hna, fun g e => ⟨?_, trivial⟩⟩
    rcases hna.lt with h2 | h2
    · exact absurd (by simpa using h2) hne
    · exact h2 g e

/-- an automaton's data -/
structure DfaI where
  start : Int
  fin : List Bool
  block : List Int
  next : List (List Int)
structure DfaI.In (D : DfaI) : Prop where
  start : In64 D.start
  fin : D.fin.length ≤ 9223372036854775807
  block : IntsIn D.block
  many : D.next.length ≤ 9223372036854775807
  rows : ∀ l ∈ D.next, IntsIn l
def DfaAt (w : World) (v : Value) (D : DfaI) : Prop :=
  ∃ fv bv nv, v = .agg #[.int .i64 D.start, fv, bv, nv] ∧ BoolsAt w fv D.fin.length (fun i => D.fin.getD i false) ∧ IntsAt w bv D.block ∧ IRowsAt w nv D.next
theorem DfaAt.below {w w' : World} {v : Value} {D : DfaI} (h : DfaAt w v D) (hb : Below w.heap.size w w') : DfaAt w' v D := by
  obtain ⟨fv, bv, nv, rfl, h1, h2, h3⟩ := h
  exact ⟨fv, bv, nv, rfl, h1.below hb, h2.below hb, h3.below hb⟩

/-! right -/
def rowB (wide : Int) (many : Nat) (l : List Int) : Bool := decide ((l.length : Int) = wide) && l.all fun n => decide (0 ≤ n) && decide (n < many)
def DfaI.z (D : DfaI) : Nat → Int := fun j => D.block.getD j 0
def wideI (D : DfaI) : Int := countI D.z D.block.length
def rightD (D : DfaI) : Bool :=
  (decide (1 ≤ D.next.length) && decide (D.next.length ≤ 4096) && decide (D.fin.length = D.next.length) && decide (0 ≤ D.start) && decide (D.start < D.next.length)) && (decide (0 < wideI D) && D.next.all (rowB (wideI D) D.next.length))
def DfaI.nx (D : DfaI) : List (List Nat) := D.next.map (·.map Int.toNat)
def DfaI.aut (D : DfaI) : Aut := { many := D.nx.length, wide := (wideI D).toNat, start := D.start.toNat, fin := fun i => D.fin.getD i false, nx := nxtF D.nx }
structure RightD (D : DfaI) : Prop where
  m1 : 1 ≤ D.next.length
  m2 : D.next.length ≤ 4096
  fin : D.fin.length = D.next.length
  s0 : 0 ≤ D.start
  s1 : D.start < D.next.length
  w0 : 0 < wideI D
  rows : ∀ l ∈ D.next, (l.length : Int) = wideI D ∧ ∀ n ∈ l, 0 ≤ n ∧ n < D.next.length
theorem rightD_iff {D : DfaI} : rightD D = true ↔ RightD D := by
  constructor
  · intro h
    simp only [rightD, Bool.and_eq_true, decide_eq_true_eq, List.all_eq_true, rowB] at h
    obtain ⟨⟨⟨⟨⟨h1, h2⟩, h3⟩, h4⟩, h5⟩, h6, h7⟩ := h
    exact ⟨h1, h2, h3, h4, h5, h6, h7⟩
  · intro ⟨h1, h2, h3, h4, h5, h6, h7⟩
    simp only [rightD, Bool.and_eq_true, decide_eq_true_eq, List.all_eq_true, rowB]
    exact ⟨⟨⟨⟨⟨h1, h2⟩, h3⟩, h4⟩, h5⟩, h6, h7⟩
theorem RightD.blk {D : DfaI} (h : RightD D) : BlkOk D.z D.aut.wide ∧ D.block.length = 256 := by
  have h1 := h.w0
  have hw : ((wideI D).toNat : Int) = wideI D := by omega
  have hr : Bl.right D.z D.block.length = true := by
    cases hr : Bl.right D.z D.block.length with
    | true => rfl
    | false =>
      have : wideI D = 0 := by unfold wideI countI; rw [if_neg (by rw [hr]; decide)]
      omega
  have hr' := hr
  simp only [Bl.right, Bool.and_eq_true, decide_eq_true_eq] at hr'
  have hok : Bl.okTo D.z 256 = true := by rw [← hr'.1]; exact hr'.2
  refine ⟨⟨hok, ?_⟩, hr'.1⟩
  show ((wideI D).toNat : Int) = _
  rw [hw, ← Bl.most_top _ _ hok]
  unfold wideI countI
  rw [if_pos hr]
theorem RightD.nxt {D : DfaI} (h : RightD D) : NxtOk D.nx D.aut.wide where
  pos := by have := h.m1; simp [DfaI.nx]; omega
  row := fun n l hn => by
    rw [DfaI.nx, List.getElem?_map] at hn
    obtain ⟨r, hr, rfl⟩ := Option.map_eq_some_iff.1 hn
    obtain ⟨h1, h2⟩ := h.rows r (List.mem_of_getElem? hr)
    refine ⟨?_, fun x hx => ?_⟩
    · rw [List.length_map]
      show r.length = (wideI D).toNat
      omega
    · obtain ⟨y, hy, rfl⟩ := List.mem_map.1 hx
      have := h2 y hy
      simp only [DfaI.nx, List.length_map]
      omega
theorem nxtF_lt {nxt : List (List Nat)} {wide : Nat} (h : NxtOk nxt wide) {n k : Nat} (hn : n < nxt.length) (hk : k < wide) : nxtF nxt n k < nxt.length := by
  obtain ⟨h1, h2⟩ := h.row n _ (List.getElem?_eq_getElem hn)
  unfold nxtF
  have e : nxt.getD n [] = nxt[n] := by rw [List.getD_eq_getElem?_getD, List.getElem?_eq_getElem hn]; rfl
  rw [e, List.getD_eq_getElem?_getD, List.getElem?_eq_getElem (by omega)]
  exact h2 _ (List.getElem_mem _)
theorem RightD.ok {D : DfaI} (h : RightD D) : D.aut.Ok where
  wide0 := by have := h.w0; show 0 < (wideI D).toNat; omega
  st := by
    have h1 := h.s0
    have h2 := h.s1
    show D.start.toNat < D.nx.length
    simp only [DfaI.nx, List.length_map]
    omega
  nxt := fun i k hi hk => nxtF_lt h.nxt hi hk
theorem DfaI.nx_len (D : DfaI) : D.nx.length = D.next.length := by simp [DfaI.nx]
theorem RightD.wide_le {D : DfaI} (h : RightD D) : D.aut.wide ≤ 256 := by
  have h1 := h.blk.1.wide
  have := Bl.top_nonneg D.z 256
  omega
end Go.Proofs.YtmmlakheimfijaaGreatDoor
namespace Go.Proofs.YtmmlakheimfijaaGreatDoor
set_option linter.unusedVariables false
set_option linter.unusedSimpArgs false
open Go.RowKit Go.Maps Go.Sort Go.ChangeShapes Go.WideShapes

def inB (many : Nat) (l : List Int) : Bool := l.all fun n => decide (0 ≤ n) && decide (n < many)
theorem rowB_eq (wide : Int) (many : Nat) (l : List Int) : rowB wide many l = (decide ((l.length : Int) = wide) && inB many l) := rfl
theorem inB_take {many : Nat} {l : List Int} {j : Nat} {x : Int} (hx : l[j]? = some x) : inB many (l.take (j + 1)) = (inB many (l.take j) && (decide (0 ≤ x) && decide (x < many))) := by
  have ht : l.take (j + 1) = l.take j ++ [x] := by rw [List.take_add_one, hx]; rfl
  rw [ht, inB, List.all_append, inB]; simp
theorem inB_no {many : Nat} {l : List Int} {j : Nat} {x : Int} (hx : l[j]? = some x) (h : (decide (0 ≤ x) && decide (x < many)) = false) : inB many l = false := by
  unfold inB
  rw [List.all_eq_false]
  exact ⟨x, List.mem_of_getElem? hx, by simp [h]⟩

set_option maxHeartbeats 4000000 in
set_option maxRecDepth 100000 in
theorem rclo_any (p M : Nat) (x : Int) (B : Bool) (w : World) (hp : w.cell? ⟨p, 0, none⟩ = some (.int .i64 M)) (hx1 : -9223372036854775808 ≤ x) (hx2 : x ≤ 9223372036854775807) (hM : M ≤ 9223372036854775807) (hB : (decide (0 ≤ x) && decide (x < M)) = B) :
    Calls Tryz.prog 43 #[.int .i64 x, .pointer (some ⟨p, 0, none⟩)] w fun e w' => e = .returned (.bool (!B)) ∧ w' = w := by
  subst hB
  go_enter Tryz.func43, Tryz.ntmps43
  by_cases c1 : x < 0
  · go_wp2_with fail
    go_ret
    exact ⟨ret_bool (by simp; try omega), rfl⟩
  · by_cases c2 : (M : Int) ≤ x
    · go_wp2_with fail
      go_ret
      exact ⟨ret_bool (by simp; try omega), rfl⟩
    · go_wp2_with fail
      go_ret
      exact ⟨ret_bool (by simp; try omega), rfl⟩
set_option maxHeartbeats 4000000 in
set_option maxRecDepth 100000 in
theorem idxf_any (p M : Nat) (v : Value) (l : List Int) (w : World) (h : IntsAt w v l) (hi : IntsIn l) (hp : w.cell? ⟨p, 0, none⟩ = some (.int .i64 M)) (hM : M ≤ 9223372036854775807) :
    Calls Tryz.prog 69 #[v, .func (.func 43) #[] #[.pointer (some ⟨p, 0, none⟩)]] w fun e w' => (∃ k : Int, e = .returned (.int .i64 k) ∧ decide (0 ≤ k) = !inB M l ∧ -1 ≤ k ∧ k ≤ 9223372036854775807) ∧ w' = w := by
  obtain ⟨a, cap, rfl, -⟩ := id h
  have hl := hi.1
  have HI := Lib.hid (And.intro h hi)
  clear h hi
  go_enter Tryz.func69, Tryz.ntmps69
  go_wp2_with fail
  go_loop [5, 8] (fun _ c => ∃ j : Nat, j ≤ l.length ∧ c = .int .i64 j ∧ Hid (inB M (l.take j) = true)) (fun _ c => l.length - (intOf c).toNat)
  case atStart => exact ⟨0, by omega, rfl, Lib.hid rfl⟩
  case round =>
    obtain ⟨j, hj, rfl, hok⟩ := hrel
    by_cases hlt : j < l.length
    · obtain ⟨x, hx⟩ : ∃ x, l[j]? = some x := ⟨_, List.getElem?_eq_getElem hlt⟩
      obtain ⟨hx1, hx2⟩ := HI.out.2.2 x (List.mem_of_getElem? hx)
      obtain ⟨b, off, rfl, m0⟩ := HI.out.1.get hx
      have HX := Lib.hid hx
      clear hx
      cases hB : (decide (0 ≤ x) && decide (x < M)) with
      | true =>
        have hcall := rclo_any p M x true w hp hx1 hx2 hM hB
        have HB := Lib.hid hB
        clear hB hp
        go_wp2_with fail
        refine hcall.mono ?_
        rintro e w1 ⟨rfl, rfl⟩
        go_wp2_with fail
        go_round
        case rel => exact ⟨j + 1, by omega, by go_num, Lib.hid (by rw [inB_take HX.out, hok.out, HB.out]; rfl)⟩
        case measure => simp [intOf]; omega
      | false =>
        have hcall := rclo_any p M x false w hp hx1 hx2 hM hB
        have HB := Lib.hid hB
        clear hB hp
        go_wp2_with fail
        refine hcall.mono ?_
        rintro e w1 ⟨rfl, rfl⟩
        go_wp2_with fail
        go_ret
        exact ⟨⟨(j : Int), rfl, by rw [inB_no HX.out HB.out]; simp, by omega, by omega⟩, rfl⟩
    · obtain rfl : j = l.length := by omega
      have hok' := hok.out
      rw [List.take_length] at hok'
      have HOK := Lib.hid hok'
      clear hok' hok
      go_wp2_with fail
      go_ret
      exact ⟨⟨-1, rfl, by rw [HOK.out]; rfl, by omega, by omega⟩, rfl⟩
set_option maxHeartbeats 4000000 in
set_option maxRecDepth 100000 in
theorem conf_any (p M : Nat) (v : Value) (l : List Int) (w : World) (h : IntsAt w v l) (hi : IntsIn l) (hp : w.cell? ⟨p, 0, none⟩ = some (.int .i64 M)) (hM : M ≤ 9223372036854775807) :
    Calls Tryz.prog 42 #[v, .func (.func 43) #[] #[.pointer (some ⟨p, 0, none⟩)]] w fun e w' => e = .returned (.bool (!inB M l)) ∧ w' = w := by
  have hc := idxf_any p M v l w h hi hp hM
  go_enter Tryz.func42, Tryz.ntmps42
  go_wp2_with fail
  refine hc.mono ?_
  rintro e w1 ⟨⟨k, rfl, hk, h1, h2⟩, rfl⟩
  go_wp2_with fail
  go_ret
  exact ⟨ret_bool (by rw [← hk]), rfl⟩

set_option maxHeartbeats 8000000 in
set_option maxRecDepth 100000 in
theorem dright_any (v : Value) (D : DfaI) (w : World) (h : DfaAt w v D) (hD : D.In) : Calls Tryz.prog 24 #[v] w fun e w' => e = .returned (.bool (rightD D)) ∧ Below w.heap.size w w' := by
  obtain ⟨fv, bv, nv, rfl, hf, hb, hn⟩ := h
  obtain ⟨af, cf, rfl, -⟩ := id hf
  obtain ⟨ab, cb, rfl, -⟩ := id hb
  obtain ⟨an, cn, rfl, -⟩ := id hn
  obtain ⟨hS1, hS2⟩ := hD.start
  have hF := hD.fin
  have hM := hD.many
  obtain ⟨S, hS⟩ : ∃ S, D.start = S := ⟨_, rfl⟩
  obtain ⟨M, hMe⟩ : ∃ M, D.next.length = M := ⟨_, rfl⟩
  obtain ⟨F, hFe⟩ : ∃ F, D.fin.length = F := ⟨_, rfl⟩
  have hR : rightD D = ((decide (1 ≤ M) && decide (M ≤ 4096) && decide (F = M) && decide (0 ≤ S) && decide (S < M)) && (decide (0 < wideI D) && D.next.all (rowB (wideI D) M))) := by rw [rightD, hS, hMe, hFe]
  rw [hS] at hS1 hS2
  rw [hFe] at hF
  rw [hMe] at hM
  simp only [hS, hMe, hFe]
  have hbw := (Below.refl w.heap.size w).alloc (Nat.le_refl _) (.cells #[.int .i64 S, .slice af F cf, .slice ab D.block.length cb, .slice an M cn] 26)
  have hq := Blk.new w 26 #[.int .i64 S, .slice af F cf, .slice ab D.block.length cb, .slice an M cn]
  obtain ⟨⟨y0, y1, y2, y3⟩, -⟩ := hq.c4
  have H := Lib.hid (And.intro hb (And.intro hn (And.intro hD (And.intro hMe (And.intro hR (And.intro hbw hq))))))
  clear hf hb hn hbw hq hD hMe hFe hR hS
  go_enter Tryz.func24, Tryz.ntmps24
  by_cases k1 : M < 1
  · go_wp2_with fail
    go_ret
    exact ⟨ret_bool (by rw [H.out.2.2.2.2.1]; simp; omega), H.out.2.2.2.2.2.1.alloc (by simp) _⟩
  by_cases k2 : 4096 < M
  · go_wp2_with fail
    go_ret
    exact ⟨ret_bool (by rw [H.out.2.2.2.2.1]; simp; omega), H.out.2.2.2.2.2.1.alloc (by simp) _⟩
  by_cases k3 : F = M
  case neg =>
    have k3' : ((F : Int) == (M : Int)) = false := by simp; omega
    go_wp2_with fail
    go_ret
    exact ⟨ret_bool (by rw [H.out.2.2.2.2.1]; simp; omega), H.out.2.2.2.2.2.1.alloc (by simp) _⟩
  obtain rfl : F = M := k3
  by_cases k4 : S < 0
  · go_wp2_with fail
    go_ret
    exact ⟨ret_bool (by rw [H.out.2.2.2.2.1]; simp; omega), H.out.2.2.2.2.2.1.alloc (by simp) _⟩
  by_cases k5 : F ≤ S
  · go_wp2_with fail
    go_ret
    exact ⟨ret_bool (by rw [H.out.2.2.2.2.1]; simp; omega), H.out.2.2.2.2.2.1.alloc (by simp) _⟩
  have hbw0 := H.out.2.2.2.2.2.1.alloc (by simp) (.cells #[.int .i64 (F : Int)] 3)
  have hq0 := H.out.2.2.2.2.2.2.alloc (.cells #[.int .i64 (F : Int)] 3)
  have hp0 := Blk.new (w.alloc (.cells #[.int .i64 S, .slice af F cf, .slice ab D.block.length cb, .slice an F cn] 26)) 3 #[.int .i64 (F : Int)]
  have hz0 : ((w.alloc (.cells #[.int .i64 S, .slice af F cf, .slice ab D.block.length cb, .slice an F cn] 26)).alloc (.cells #[.int .i64 (F : Int)] 3)).heap.size = w.heap.size + 2 := by simp
  have hz1 : (w.alloc (.cells #[.int .i64 S, .slice af F cf, .slice ab D.block.length cb, .slice an F cn] 26)).heap.size = w.heap.size + 1 := by simp
  rw [hz1] at hp0
  have hcount := count_any ab D.block.length cb D.z ((w.alloc (.cells #[.int .i64 S, .slice af F cf, .slice ab D.block.length cb, .slice an F cn] 26)).alloc (.cells #[.int .i64 (F : Int)] 3)) ((H.out.1.below hbw0).isInts H.out.2.2.1.block)
  have HW := Lib.hid (And.intro hbw0 (And.intro hq0 hp0))
  clear hbw0 hq0 hp0
  have hl : D.block.length ≤ 9223372036854775807 := H.out.2.2.1.block.1
  go_wp2_with fail
  refine hcount.mono ?_
  rintro e w1 ⟨rfl, b1⟩
  clear hcount
  rw [hz0] at b1
  have hz2 := b1.size
  rw [hz0] at hz2
  have HW1 := Lib.hid (And.intro (HW.out.1.trans (b1.mono (by omega))) (And.intro (HW.out.2.1.below b1 (by omega)) (HW.out.2.2.below b1 (by omega))))
  clear b1 HW
  obtain ⟨y0, y1, y2, y3⟩ := HW1.out.2.1.c4.1
  have p0 := HW1.out.2.2.cell 0
  simp at p0
  obtain ⟨wd, hwd⟩ : ∃ wd, wideI D = wd := ⟨_, rfl⟩
  have hcd : countI D.z D.block.length = wd := hwd
  have hR := H.out.2.2.2.2.1
  rw [hwd] at hR
  have hR2 : rightD D = (decide (0 < wd) && D.next.all (rowB wd F)) := by rw [hR]; simp; omega
  have HR := Lib.hid (And.intro hR2 hwd)
  rw [hcd]
  clear hR hR2 hwd hcd
  have HN := Lib.hid (H.out.2.1.below HW1.out.1)
  go_wp2_with fail
  go_loop [6, 40] (fun _ c => ∃ j : Nat, j ≤ F ∧ c = .int .i64 j ∧ Hid ((D.next.take j).all (rowB wd F) = true)) (fun _ c => F - (intOf c).toNat)
  case atStart => exact ⟨0, by omega, rfl, Lib.hid rfl⟩
  case round =>
    obtain ⟨j, hj, rfl, hok⟩ := hrel
    have hlen := H.out.2.2.2.1
    by_cases hlt : j < F
    · obtain ⟨l, hl⟩ : ∃ l, D.next[j]? = some l := ⟨_, List.getElem?_eq_getElem (by omega)⟩
      have hlm := List.mem_of_getElem? hl
      have hlI := H.out.2.2.1.rows l hlm
      obtain ⟨b, off, a, c, rfl, m0, hIl⟩ := HN.out.get hl
      have HL := Lib.hid (And.intro hl hlm)
      have hlz := hlI.1
      clear hl hlm
      have hno : rowB wd F l = false → D.next.all (rowB wd F) = false := fun h => by
        rw [List.all_eq_false]
        exact ⟨l, HL.out.2, by simp [h]⟩
      have hyes : rowB wd F l = true → (D.next.take (j + 1)).all (rowB wd F) = true := fun h => by
        have ht : D.next.take (j + 1) = D.next.take j ++ [l] := by rw [List.take_add_one, HL.out.1]; rfl
        rw [ht, List.all_append, hok.out]
        simp [h]
      have HNY := Lib.hid (And.intro hno hyes)
      clear hno hyes hlen
      by_cases k6 : (l.length : Int) = wd
      · have k6' : ((l.length : Int) != wd) = false := by simp [k6]
        have K6 := Lib.hid k6
        have hcf := conf_any (w.heap.size + 1) F (.slice a l.length c) l w1 hIl hlI p0 hM
        clear k6
        cases hB : inB F l with
        | true =>
          rw [hB] at hcf
          have HB := Lib.hid hB
          clear hB
          go_wp2_with fail
          refine hcf.mono ?_
          rintro e w2 ⟨rfl, rfl⟩
          go_wp2_with fail
          go_round
          case rel => exact ⟨j + 1, by omega, by go_num, Lib.hid (HNY.out.2 (by rw [rowB_eq, HB.out, K6.out]; simp))⟩
          case measure => simp [intOf]; omega
        | false =>
          rw [hB] at hcf
          have HB := Lib.hid hB
          clear hB
          go_wp2_with fail
          refine hcf.mono ?_
          rintro e w2 ⟨rfl, rfl⟩
          go_wp2_with fail
          go_ret
          exact ⟨ret_bool (by rw [HR.out.1, HNY.out.1 (by rw [rowB_eq, HB.out]; simp)]; simp), HW1.out.1⟩
      · have k6' : ((l.length : Int) != wd) = true := by simp [k6]
        have K6 := Lib.hid k6
        clear k6
        go_wp2_with fail
        go_ret
        exact ⟨ret_bool (by rw [HR.out.1, HNY.out.1 (by rw [rowB_eq, decide_eq_false K6.out]; rfl)]; simp), HW1.out.1⟩
    · obtain rfl : j = F := by omega
      have hok' := hok.out
      rw [List.take_of_length_le (by omega)] at hok'
      have HOK := Lib.hid hok'
      clear hok' hok hlen
      by_cases k7 : 0 < wd
      · go_wp2_with fail
        go_ret
        exact ⟨ret_bool (by rw [HR.out.1, HOK.out]; simp; try omega), HW1.out.1⟩
      · go_wp2_with fail
        go_ret
        exact ⟨ret_bool (by rw [HR.out.1, HOK.out]; simp; try omega), HW1.out.1⟩
end Go.Proofs.YtmmlakheimfijaaGreatDoor
namespace Go.Proofs.YtmmlakheimfijaaGreatDoor
set_option linter.unusedVariables false
set_option linter.unusedSimpArgs false
open Go.RowKit Go.Maps Go.Sort Go.ChangeShapes Go.WideShapes

set_option maxHeartbeats 8000000 in
set_option maxRecDepth 100000 in
theorem refdright_any (v : Value) (D : DfaI) (w : World) (h : DfaAt w v D) (hD : D.In) : Calls Tryz.prog 19 #[v] w fun e w' => e = .returned (.bool (rightD D)) ∧ Below w.heap.size w w' := by
  obtain ⟨fv, bv, nv, rfl, hf, hb, hn⟩ := h
  obtain ⟨af, cf, rfl, -⟩ := id hf
  obtain ⟨ab, cb, rfl, -⟩ := id hb
  obtain ⟨an, cn, rfl, -⟩ := id hn
  obtain ⟨hS1, hS2⟩ := hD.start
  have hF := hD.fin
  have hM := hD.many
  obtain ⟨S, hS⟩ : ∃ S, D.start = S := ⟨_, rfl⟩
  obtain ⟨M, hMe⟩ : ∃ M, D.next.length = M := ⟨_, rfl⟩
  obtain ⟨F, hFe⟩ : ∃ F, D.fin.length = F := ⟨_, rfl⟩
  have hR : rightD D = ((decide (1 ≤ M) && decide (M ≤ 4096) && decide (F = M) && decide (0 ≤ S) && decide (S < M)) && (decide (0 < wideI D) && D.next.all (rowB (wideI D) M))) := by rw [rightD, hS, hMe, hFe]
  rw [hS] at hS1 hS2
  rw [hFe] at hF
  rw [hMe] at hM
  simp only [hS, hMe, hFe]
  have hbw := (Below.refl w.heap.size w).alloc (Nat.le_refl _) (.cells #[.int .i64 S, .slice af F cf, .slice ab D.block.length cb, .slice an M cn] 26)
  have hq := Blk.new w 26 #[.int .i64 S, .slice af F cf, .slice ab D.block.length cb, .slice an M cn]
  obtain ⟨⟨y0, y1, y2, y3⟩, -⟩ := hq.c4
  have H := Lib.hid (And.intro hb (And.intro hn (And.intro hD (And.intro hMe (And.intro hR (And.intro hbw hq))))))
  clear hf hb hn hbw hq hD hMe hFe hR hS
  have hcount := refcount_any ab D.block.length cb D.z (w.alloc (.cells #[.int .i64 S, .slice af F cf, .slice ab D.block.length cb, .slice an M cn] 26)) ((H.out.1.below H.out.2.2.2.2.2.1).isInts H.out.2.2.1.block)
  have hl : D.block.length ≤ 9223372036854775807 := H.out.2.2.1.block.1
  go_enter Tryz.func19, Tryz.ntmps19
  go_wp2_with fail
  refine hcount.mono ?_
  rintro e w1 ⟨rfl, b1⟩
  clear hcount
  have hz0 : (w.alloc (.cells #[.int .i64 S, .slice af F cf, .slice ab D.block.length cb, .slice an M cn] 26)).heap.size = w.heap.size + 1 := by simp
  rw [hz0] at b1
  have hz2 := b1.size
  rw [hz0] at hz2
  have HW1 := Lib.hid (And.intro (H.out.2.2.2.2.2.1.trans (b1.mono (by omega))) (H.out.2.2.2.2.2.2.below b1 (by omega)))
  clear b1 y0 y1 y2 y3
  obtain ⟨y0, y1, y2, y3⟩ := HW1.out.2.c4.1
  obtain ⟨wd, hwd⟩ : ∃ wd, wideI D = wd := ⟨_, rfl⟩
  have hcd : countI D.z D.block.length = wd := hwd
  have hR := H.out.2.2.2.2.1
  rw [hwd] at hR
  have HR0 := Lib.hid (And.intro hR hwd)
  rw [hcd]
  clear hR hwd hcd
  by_cases k1 : M < 1
  · go_wp2_with fail
    go_ret
    exact ⟨ret_bool (by rw [HR0.out.1]; simp; omega), HW1.out.1⟩
  by_cases k2 : 4096 < M
  · go_wp2_with fail
    go_ret
    exact ⟨ret_bool (by rw [HR0.out.1]; simp; omega), HW1.out.1⟩
  by_cases k3 : F = M
  case neg =>
    have k3' : ((F : Int) == (M : Int)) = false := by simp; omega
    go_wp2_with fail
    go_ret
    exact ⟨ret_bool (by rw [HR0.out.1]; simp; omega), HW1.out.1⟩
  obtain rfl : F = M := k3
  by_cases k4 : S < 0
  · go_wp2_with fail
    go_ret
    exact ⟨ret_bool (by rw [HR0.out.1]; simp; omega), HW1.out.1⟩
  by_cases k5 : F ≤ S
  · go_wp2_with fail
    go_ret
    exact ⟨ret_bool (by rw [HR0.out.1]; simp; omega), HW1.out.1⟩
  by_cases k5' : wd < 1
  · go_wp2_with fail
    go_ret
    exact ⟨ret_bool (by rw [HR0.out.1]; simp; omega), HW1.out.1⟩
  have hR2 : rightD D = D.next.all (rowB wd F) := by
    rw [HR0.out.1]
    have e : (decide (1 ≤ F) && decide (F ≤ 4096) && decide (F = F) && decide (0 ≤ S) && decide (S < F) && decide (0 < wd)) = true := by simp; omega
    simp only [Bool.and_eq_true] at e
    simp [e]
  have HR := Lib.hid (And.intro hR2 HR0.out.2)
  clear hR2 HR0
  have HN := Lib.hid (H.out.2.1.below HW1.out.1)
  go_wp2_with fail
  go_loop [5, 6] (fun c _ => ∃ j : Nat, j ≤ F ∧ c = .int .i64 j ∧ Hid ((D.next.take j).all (rowB wd F) = true)) (fun c _ => F - (intOf c).toNat)
  case atStart => exact ⟨0, by omega, rfl, Lib.hid rfl⟩
  case round =>
    obtain ⟨j, hj, rfl, hok⟩ := hrel
    have hlen := H.out.2.2.2.1
    by_cases hlt : j < F
    · obtain ⟨l, hl⟩ : ∃ l, D.next[j]? = some l := ⟨_, List.getElem?_eq_getElem (by omega)⟩
      have hlm := List.mem_of_getElem? hl
      have hlI := H.out.2.2.1.rows l hlm
      obtain ⟨b, off, a, c, rfl, m0, hIl⟩ := HN.out.get hl
      have HL := Lib.hid (And.intro hl hlm)
      have hlz := hlI.1
      clear hl hlm
      have hno : rowB wd F l = false → D.next.all (rowB wd F) = false := fun h => by
        rw [List.all_eq_false]
        exact ⟨l, HL.out.2, by simp [h]⟩
      have hyes : rowB wd F l = true → (D.next.take (j + 1)).all (rowB wd F) = true := fun h => by
        have ht : D.next.take (j + 1) = D.next.take j ++ [l] := by rw [List.take_add_one, HL.out.1]; rfl
        rw [ht, List.all_append, hok.out]
        simp [h]
      have HNY := Lib.hid (And.intro hno hyes)
      clear hno hyes hlen
      by_cases k6 : (l.length : Int) = wd
      · subst k6
        have k6' : ((l.length : Int) != l.length) = false := by simp
        have HI := Lib.hid (And.intro hIl hlI)
        clear hIl hlI hok
        go_wp2_with fail
        go_loop [6] (fun c => ∃ k : Nat, k ≤ l.length ∧ c = .int .i64 k ∧ Hid (inB F (l.take k) = true)) (fun c => l.length - (intOf c).toNat)
        case atStart => exact ⟨0, by omega, rfl, Lib.hid rfl⟩
        case round =>
          obtain ⟨k, hk, rfl, hok⟩ := hrel
          by_cases hkl : k < l.length
          · obtain ⟨x, hx⟩ : ∃ x, l[k]? = some x := ⟨_, List.getElem?_eq_getElem hkl⟩
            obtain ⟨hx1, hx2⟩ := HI.out.2.2 x (List.mem_of_getElem? hx)
            obtain ⟨b', off', rfl, m1⟩ := HI.out.1.get hx
            have HX := Lib.hid hx
            clear hx
            by_cases c1 : x < 0
            · go_wp2_with fail
              go_ret
              exact ⟨ret_bool (by rw [HR.out.1, HNY.out.1 (by rw [rowB_eq, inB_no HX.out (by simp; omega)]; simp)]), HW1.out.1⟩
            · by_cases c2 : (F : Int) ≤ x
              · go_wp2_with fail
                go_ret
                exact ⟨ret_bool (by rw [HR.out.1, HNY.out.1 (by rw [rowB_eq, inB_no HX.out (by simp; omega)]; simp)]), HW1.out.1⟩
              · go_wp2_with fail
                go_round
                case rel => exact ⟨k + 1, by omega, by go_num, Lib.hid (by rw [inB_take HX.out, hok.out]; simp; omega)⟩
                case measure => simp [intOf]; omega
          · obtain rfl : k = l.length := by omega
            have hok' := hok.out
            rw [List.take_length] at hok'
            have HOK := Lib.hid hok'
            clear hok' hok
            go_wp2_with fail
            go_round
            case rel => exact ⟨j + 1, by omega, by go_num, Lib.hid (HNY.out.2 (by rw [rowB_eq, HOK.out]; simp))⟩
            case measure => simp [intOf]; omega
      · have k6' : ((l.length : Int) != wd) = true := by simp [k6]
        have K6 := Lib.hid k6
        clear k6
        go_wp2_with fail
        go_ret
        exact ⟨ret_bool (by rw [HR.out.1, HNY.out.1 (by rw [rowB_eq, decide_eq_false K6.out]; rfl)]), HW1.out.1⟩
    · obtain rfl : j = F := by omega
      have hok' := hok.out
      rw [List.take_of_length_le (by omega)] at hok'
      have HOK := Lib.hid hok'
      clear hok' hok hlen
      go_wp2_with fail
      go_ret
      exact ⟨ret_bool (by rw [HR.out.1, HOK.out]), HW1.out.1⟩
end Go.Proofs.YtmmlakheimfijaaGreatDoor
namespace Go.Proofs.YtmmlakheimfijaaGreatDoor
set_option linter.unusedVariables false
set_option linter.unusedSimpArgs false
open Go.RowKit Go.Maps Go.Sort Go.ChangeShapes Go.WideShapes

theorem below_regrownN (w : World) (n : Nat) : Below w.heap.size w (w.drewN n) := by
  induction n with
  | zero => exact Below.refl _ _
  | succ n ih => exact ih.trans ⟨rfl, rfl, rfl, Nat.le_refl _, fun _ _ => rfl⟩
def BoolsL (w : World) (v : Value) (l : List Bool) : Prop := BoolsAt w v l.length fun i => l.getD i false
theorem BoolsL.below {w w' : World} {v : Value} {l : List Bool} (h : BoolsL w v l) (hb : Below w.heap.size w w') : BoolsL w' v l := BoolsAt.below h hb
theorem BoolsL.get {w : World} {a : Option Addr} {len c : Nat} {l : List Bool} (h : BoolsL w (.slice a len c) l) {k : Nat} {x : Bool} (hk : l[k]? = some x) : ∃ b off, a = some ⟨b, off, none⟩ ∧ w.cell? ⟨b, off + k, none⟩ = some (.bool x) := by
  have hlt := (List.getElem?_eq_some_iff.1 hk).1
  obtain ⟨a', c', he, h0 | ⟨b, off, rfl, hb, hc⟩⟩ := h
  · omega
  · obtain ⟨rfl, -, -⟩ := Value.slice.inj he
    refine ⟨b, off, rfl, ?_⟩
    have e : l.getD k false = x := by rw [List.getD_eq_getElem?_getD, hk]; rfl
    have h1 := hc k hlt
    simp only [e] at h1
    exact h1
theorem take_eq {α : Type} {l m : List α} {j : Nat} {x : α} (h : l.take j = m.take j) (hx : l[j]? = some x) (hy : m[j]? = some x) : l.take (j + 1) = m.take (j + 1) := by
  rw [List.take_add_one, List.take_add_one, h, hx, hy]
theorem ne_at {α : Type} {l m : List α} {j : Nat} {x y : α} (hx : l[j]? = some x) (hy : m[j]? = some y) (h : x ≠ y) : l ≠ m := fun e => by
  rw [e, hy] at hx
  exact h (Option.some.inj hx).symm

set_option maxHeartbeats 4000000 in
set_option maxRecDepth 100000 in
theorem eqints_any (va vb : Value) (l m : List Int) (w : World) (ha : IntsAt w va l) (hb : IntsAt w vb m) (hl : l.length ≤ 9223372036854775807) (hm : m.length ≤ 9223372036854775807) :
    Calls Tryz.prog 63 #[va, vb] w fun e w' => e = .returned (.bool (decide (l = m))) ∧ Below w.heap.size w w' := by
  obtain ⟨a1, c1, rfl, -⟩ := id ha
  obtain ⟨a2, c2, rfl, -⟩ := id hb
  have H := Lib.hid (And.intro ha hb)
  clear ha hb
  go_enter Tryz.func63, Tryz.ntmps63
  by_cases hlm : l.length = m.length
  case neg =>
    have h7 : ((l.length : Int) != (m.length : Int)) = true := by simp; omega
    have HL := Lib.hid hlm
    clear hlm
    go_wp2_with fail
    go_ret
    exact ⟨ret_bool (decide_eq_false fun e => HL.out (by rw [e])).symm, Below.refl _ _⟩
  have HLM := Lib.hid hlm
  have h7 : ((l.length : Int) != (m.length : Int)) = false := by simp; omega
  go_wp2_with fail
  go_loopw [5, 13] (fun _ c wr => ∃ j : Nat, j ≤ l.length ∧ c = .int .i64 j ∧ Hid (l.take j = m.take j) ∧ Below w.heap.size w wr) (fun _ c _ => l.length - (intOf c).toNat)
  case atStart => exact ⟨0, by omega, rfl, Lib.hid rfl, Below.refl _ _⟩
  case round =>
    obtain ⟨j, hj, rfl, hok, hB⟩ := hrel
    by_cases hlt : j < l.length
    · obtain ⟨x, hx⟩ : ∃ x, l[j]? = some x := ⟨_, List.getElem?_eq_getElem hlt⟩
      obtain ⟨y, hy⟩ : ∃ y, m[j]? = some y := ⟨_, List.getElem?_eq_getElem (by omega)⟩
      obtain ⟨b1, o1, rfl, m1⟩ := (H.out.1.below hB).get hx
      obtain ⟨b2, o2, rfl, m2⟩ := (H.out.2.below hB).get hy
      have hjm : j < m.length := by omega
      have HX := Lib.hid (And.intro hx hy)
      clear hx hy
      by_cases e : x = y
      · have e' : (x != y) = false := by simp [e]
        have E := Lib.hid e
        clear e
        go_wp2_with fail
        go_quiet (fail)
        have B2 : Below w.heap.size w (wr.drewN nq) := hB.trans ((below_regrownN wr nq).mono hB.size)
        generalize wr.drewN nq = w2 at *
        clear m1 m2
        go_wp2_with fail
        go_roundw
        case rel => exact ⟨j + 1, by omega, by go_num, Lib.hid (take_eq hok.out HX.out.1 (by rw [E.out]; exact HX.out.2)), B2⟩
        case measure => simp [intOf]; omega
      · have e' : (x != y) = true := by simp [e]
        have E := Lib.hid e
        clear e
        go_wp2_with fail
        go_quiet (fail)
        have B2 : Below w.heap.size w (wr.drewN nq) := hB.trans ((below_regrownN wr nq).mono hB.size)
        generalize wr.drewN nq = w2 at *
        clear m1 m2
        go_wp2_with fail
        go_ret
        exact ⟨ret_bool (decide_eq_false (ne_at HX.out.1 HX.out.2 E.out)).symm, B2⟩
    · obtain rfl : j = l.length := by omega
      have hok' := hok.out
      rw [List.take_length, List.take_of_length_le (by omega)] at hok'
      have HOK := Lib.hid hok'
      clear hok' hok
      go_wp2_with fail
      go_ret
      exact ⟨ret_bool (decide_eq_true HOK.out).symm, hB⟩
set_option maxHeartbeats 4000000 in
set_option maxRecDepth 100000 in
theorem eqbools_any (va vb : Value) (l m : List Bool) (w : World) (ha : BoolsL w va l) (hb : BoolsL w vb m) (hl : l.length ≤ 9223372036854775807) (hm : m.length ≤ 9223372036854775807) :
    Calls Tryz.prog 62 #[va, vb] w fun e w' => e = .returned (.bool (decide (l = m))) ∧ Below w.heap.size w w' := by
  obtain ⟨a1, c1, rfl, -⟩ := id ha
  obtain ⟨a2, c2, rfl, -⟩ := id hb
  have H := Lib.hid (And.intro ha hb)
  clear ha hb
  go_enter Tryz.func62, Tryz.ntmps62
  by_cases hlm : l.length = m.length
  case neg =>
    have h7 : ((l.length : Int) != (m.length : Int)) = true := by simp; omega
    have HL := Lib.hid hlm
    clear hlm
    go_wp2_with fail
    go_ret
    exact ⟨ret_bool (decide_eq_false fun e => HL.out (by rw [e])).symm, Below.refl _ _⟩
  have HLM := Lib.hid hlm
  have h7 : ((l.length : Int) != (m.length : Int)) = false := by simp; omega
  go_wp2_with fail
  go_loopw [5, 13] (fun _ c wr => ∃ j : Nat, j ≤ l.length ∧ c = .int .i64 j ∧ Hid (l.take j = m.take j) ∧ Below w.heap.size w wr) (fun _ c _ => l.length - (intOf c).toNat)
  case atStart => exact ⟨0, by omega, rfl, Lib.hid rfl, Below.refl _ _⟩
  case round =>
    obtain ⟨j, hj, rfl, hok, hB⟩ := hrel
    by_cases hlt : j < l.length
    · obtain ⟨x, hx⟩ : ∃ x, l[j]? = some x := ⟨_, List.getElem?_eq_getElem hlt⟩
      obtain ⟨y, hy⟩ : ∃ y, m[j]? = some y := ⟨_, List.getElem?_eq_getElem (by omega)⟩
      obtain ⟨b1, o1, rfl, m1⟩ := (H.out.1.below hB).get hx
      obtain ⟨b2, o2, rfl, m2⟩ := (H.out.2.below hB).get hy
      have hjm : j < m.length := by omega
      have HX := Lib.hid (And.intro hx hy)
      clear hx hy
      cases x
      · cases y
        · have E := Lib.hid HX
          go_wp2_with fail
          go_quiet (fail)
          have B2 : Below w.heap.size w (wr.drewN nq) := hB.trans ((below_regrownN wr nq).mono hB.size)
          generalize wr.drewN nq = w2 at *
          clear m1 m2
          go_wp2_with fail
          go_roundw
          case rel => exact ⟨j + 1, by omega, by go_num, Lib.hid (take_eq hok.out HX.out.1 HX.out.2), B2⟩
          case measure => simp [intOf]; omega
        · go_wp2_with fail
          go_quiet (fail)
          have B2 : Below w.heap.size w (wr.drewN nq) := hB.trans ((below_regrownN wr nq).mono hB.size)
          generalize wr.drewN nq = w2 at *
          clear m1 m2
          go_wp2_with fail
          go_ret
          exact ⟨ret_bool (decide_eq_false (ne_at HX.out.1 HX.out.2 (by decide))).symm, B2⟩
      · cases y
        · go_wp2_with fail
          go_quiet (fail)
          have B2 : Below w.heap.size w (wr.drewN nq) := hB.trans ((below_regrownN wr nq).mono hB.size)
          generalize wr.drewN nq = w2 at *
          clear m1 m2
          go_wp2_with fail
          go_ret
          exact ⟨ret_bool (decide_eq_false (ne_at HX.out.1 HX.out.2 (by decide))).symm, B2⟩
        · have E := Lib.hid HX
          go_wp2_with fail
          go_quiet (fail)
          have B2 : Below w.heap.size w (wr.drewN nq) := hB.trans ((below_regrownN wr nq).mono hB.size)
          generalize wr.drewN nq = w2 at *
          clear m1 m2
          go_wp2_with fail
          go_roundw
          case rel => exact ⟨j + 1, by omega, by go_num, Lib.hid (take_eq hok.out HX.out.1 HX.out.2), B2⟩
          case measure => simp [intOf]; omega
    · obtain rfl : j = l.length := by omega
      have hok' := hok.out
      rw [List.take_length, List.take_of_length_le (by omega)] at hok'
      have HOK := Lib.hid hok'
      clear hok' hok
      go_wp2_with fail
      go_ret
      exact ⟨ret_bool (decide_eq_true HOK.out).symm, hB⟩
end Go.Proofs.YtmmlakheimfijaaGreatDoor
namespace Go.Proofs.YtmmlakheimfijaaGreatDoor
set_option linter.unusedVariables false
set_option linter.unusedSimpArgs false
open Go.RowKit Go.Maps Go.Sort Go.ChangeShapes Go.WideShapes

set_option maxHeartbeats 4000000 in
set_option maxRecDepth 100000 in
theorem eqrows_any (va vb : Value) (l m : List (List Int)) (w : World) (ha : IRowsAt w va l) (hb : IRowsAt w vb m) (hl : l.length ≤ 9223372036854775807) (hm : m.length ≤ 9223372036854775807) (hl2 : ∀ r ∈ l, r.length ≤ 9223372036854775807) (hm2 : ∀ r ∈ m, r.length ≤ 9223372036854775807) :
    Calls Tryz.prog 64 #[va, vb, .func (.func 63) #[] #[]] w fun e w' => e = .returned (.bool (decide (l = m))) ∧ Below w.heap.size w w' := by
  obtain ⟨a1, c1, rfl, -⟩ := id ha
  obtain ⟨a2, c2, rfl, -⟩ := id hb
  have H := Lib.hid (And.intro ha (And.intro hb (And.intro hl2 hm2)))
  clear ha hb hl2 hm2
  go_enter Tryz.func64, Tryz.ntmps64
  by_cases hlm : l.length = m.length
  case neg =>
    have h7 : ((l.length : Int) != (m.length : Int)) = true := by simp; omega
    have HL := Lib.hid hlm
    clear hlm
    go_wp2_with fail
    go_ret
    exact ⟨ret_bool (decide_eq_false fun e => HL.out (by rw [e])).symm, Below.refl _ _⟩
  have HLM := Lib.hid hlm
  have h7 : ((l.length : Int) != (m.length : Int)) = false := by simp; omega
  go_wp2_with fail
  go_loopw [7, 8, 9, 17] (fun _ _ _ c wr => ∃ j : Nat, j ≤ l.length ∧ c = .int .i64 j ∧ Hid (l.take j = m.take j) ∧ Below w.heap.size w wr) (fun _ _ _ c _ => l.length - (intOf c).toNat)
  case atStart => exact ⟨0, by omega, rfl, Lib.hid rfl, Below.refl _ _⟩
  case round =>
    obtain ⟨j, hj, rfl, hok, hB⟩ := hrel
    by_cases hlt : j < l.length
    · obtain ⟨x, hx⟩ : ∃ x, l[j]? = some x := ⟨_, List.getElem?_eq_getElem hlt⟩
      obtain ⟨y, hy⟩ : ∃ y, m[j]? = some y := ⟨_, List.getElem?_eq_getElem (by omega)⟩
      obtain ⟨b1, o1, e1, k1, rfl, m1, n1⟩ := (H.out.1.below hB).get hx
      obtain ⟨b2, o2, e2, k2, rfl, m2, n2⟩ := (H.out.2.1.below hB).get hy
      have hjm : j < m.length := by omega
      have hxl := H.out.2.2.1 x (List.mem_of_getElem? hx)
      have hyl := H.out.2.2.2 y (List.mem_of_getElem? hy)
      have HX := Lib.hid (And.intro hx hy)
      clear hx hy
      have hcall := eqints_any _ _ x y wr n1 n2 hxl hyl
      clear n1 n2
      go_wp2_with fail
      refine hcall.mono ?_
      rintro e w2 ⟨rfl, b2⟩
      have B2 : Below w.heap.size w w2 := hB.trans (b2.mono hB.size)
      clear m1 m2 hcall b2
      by_cases e : x = y
      · have e' : decide (x = y) = true := decide_eq_true e
        have E := Lib.hid e
        simp only [e']
        clear e e'
        go_wp2_with fail
        go_roundw
        case rel => exact ⟨j + 1, by omega, by go_num, Lib.hid (take_eq hok.out HX.out.1 (by rw [E.out]; exact HX.out.2)), B2⟩
        case measure => simp [intOf]; omega
      · have e' : decide (x = y) = false := decide_eq_false e
        have E := Lib.hid e
        simp only [e']
        clear e e'
        go_wp2_with fail
        go_ret
        exact ⟨ret_bool (decide_eq_false (ne_at HX.out.1 HX.out.2 E.out)).symm, B2⟩
    · obtain rfl : j = l.length := by omega
      have hok' := hok.out
      rw [List.take_length, List.take_of_length_le (by omega)] at hok'
      have HOK := Lib.hid hok'
      clear hok' hok
      go_wp2_with fail
      go_ret
      exact ⟨ret_bool (decide_eq_true HOK.out).symm, hB⟩

def eqD (D E : DfaI) : Bool := decide (D.start = E.start) && (decide (D.fin = E.fin) && (decide (D.block = E.block) && decide (D.next = E.next)))
theorem eqD_iff {D E : DfaI} : eqD D E = true ↔ D = E := by
  obtain ⟨a, b, c, d⟩ := D
  obtain ⟨a', b', c', d'⟩ := E
  simp [eqD]
theorem eqD_refl (D : DfaI) : eqD D D = true := eqD_iff.2 rfl
set_option maxHeartbeats 8000000 in
set_option maxRecDepth 100000 in
theorem lsame_any (va vb : Value) (D E : DfaI) (w : World) (ha : DfaAt w va D) (hb : DfaAt w vb E) (hD : D.In) (hE : E.In) :
    Calls Tryz.prog 37 #[va, vb] w fun e w' => e = .returned (.bool (eqD D E)) ∧ Below w.heap.size w w' := by
  obtain ⟨f1, b1, n1, rfl, hf1, hb1, hn1⟩ := ha
  obtain ⟨f2, b2, n2, rfl, hf2, hb2, hn2⟩ := hb
  obtain ⟨s1, hs1⟩ : ∃ s1, D.start = s1 := ⟨_, rfl⟩
  obtain ⟨s2, hs2⟩ : ∃ s2, E.start = s2 := ⟨_, rfl⟩
  obtain ⟨p1, p2⟩ := hD.start
  obtain ⟨p3, p4⟩ := hE.start
  rw [hs1] at p1 p2
  rw [hs2] at p3 p4
  simp only [hs1, hs2]
  have hw0 := (Below.refl w.heap.size w).alloc (Nat.le_refl _) (.cells #[.int .i64 s1, f1, b1, n1] 26)
  have hw1 := hw0.alloc (by simp) (.cells #[.int .i64 s2, f2, b2, n2] 26)
  have hq1 := (Blk.new w 26 #[.int .i64 s1, f1, b1, n1]).alloc (.cells #[.int .i64 s2, f2, b2, n2] 26)
  have hq2 := Blk.new (w.alloc (.cells #[.int .i64 s1, f1, b1, n1] 26)) 26 #[.int .i64 s2, f2, b2, n2]
  have hz : (w.alloc (.cells #[.int .i64 s1, f1, b1, n1] 26)).heap.size = w.heap.size + 1 := by simp
  rw [hz] at hq2
  have hz2 : ((w.alloc (.cells #[.int .i64 s1, f1, b1, n1] 26)).alloc (.cells #[.int .i64 s2, f2, b2, n2] 26)).heap.size = w.heap.size + 2 := by simp
  have H := Lib.hid (And.intro hf1 (And.intro hf2 (And.intro hb1 (And.intro hb2 (And.intro hn1 hn2)))))
  have HS := Lib.hid (And.intro hs1 (And.intro hs2 (And.intro hD hE)))
  have HW := Lib.hid (And.intro hw1 (And.intro hq1 hq2))
  clear hf1 hf2 hb1 hb2 hn1 hn2 hs1 hs2 hD hE hw0 hw1 hq2 hz
  go_enter Tryz.func37, Tryz.ntmps37
  obtain ⟨x0, x1, x2, x3⟩ := HW.out.2.1.c4.1
  obtain ⟨y0, y1, y2, y3⟩ := HW.out.2.2.c4.1
  clear hq1
  by_cases e0 : s1 = s2
  case neg =>
    have e0' : (s1 == s2) = false := by simp [e0]
    have E0 := Lib.hid e0
    clear e0
    go_wp2_with fail
    go_ret
    refine ⟨ret_bool ?_, HW.out.1⟩
    rw [eqD, HS.out.1, HS.out.2.1, decide_eq_false E0.out]; rfl
  subst e0
  have e0' : (s1 == s1) = true := by simp
  have hc1 := eqbools_any f1 f2 D.fin E.fin _ (BoolsL.below H.out.1 HW.out.1) (BoolsL.below H.out.2.1 HW.out.1) HS.out.2.2.1.fin HS.out.2.2.2.fin
  go_wp2_with fail
  refine hc1.mono ?_
  rintro e w3 ⟨rfl, b3⟩
  clear hc1
  rw [hz2] at b3
  have hz3 := b3.size
  rw [hz2] at hz3
  have HW3 := Lib.hid (And.intro (HW.out.1.trans (b3.mono (by omega))) (And.intro (HW.out.2.1.below b3 (by omega)) (HW.out.2.2.below b3 (by omega))))
  clear b3 HW x0 x1 x2 x3 y0 y1 y2 y3 hz2
  obtain ⟨x0, x1, x2, x3⟩ := HW3.out.2.1.c4.1
  obtain ⟨y0, y1, y2, y3⟩ := HW3.out.2.2.c4.1
  by_cases e1 : D.fin = E.fin
  case neg =>
    have e1' : decide (D.fin = E.fin) = false := decide_eq_false e1
    have E1 := Lib.hid e1
    simp only [e1']
    clear e1 e1'
    go_wp2_with fail
    go_ret
    refine ⟨ret_bool ?_, HW3.out.1⟩
    rw [eqD, HS.out.1, HS.out.2.1, decide_eq_false E1.out]; simp
  have e1' : decide (D.fin = E.fin) = true := decide_eq_true e1
  have E1 := Lib.hid e1
  simp only [e1']
  clear e1 e1'
  have hc1 := eqints_any b1 b2 D.block E.block _ (H.out.2.2.1.below HW3.out.1) (H.out.2.2.2.1.below HW3.out.1) HS.out.2.2.1.block.1 HS.out.2.2.2.block.1
  go_wp2_with fail
  refine hc1.mono ?_
  rintro e w4 ⟨rfl, b4⟩
  clear hc1
  have hz4 := b4.size
  have HW4 := Lib.hid (And.intro (HW3.out.1.trans (b4.mono (by omega))) (And.intro (HW3.out.2.1.below b4 (by omega)) (HW3.out.2.2.below b4 (by omega))))
  clear b4 HW3 x0 x1 x2 x3 y0 y1 y2 y3
  obtain ⟨x0, x1, x2, x3⟩ := HW4.out.2.1.c4.1
  obtain ⟨y0, y1, y2, y3⟩ := HW4.out.2.2.c4.1
  by_cases e2 : D.block = E.block
  case neg =>
    have e2' : decide (D.block = E.block) = false := decide_eq_false e2
    have E2 := Lib.hid e2
    simp only [e2']
    clear e2 e2'
    go_wp2_with fail
    go_ret
    refine ⟨ret_bool ?_, HW4.out.1⟩
    rw [eqD, HS.out.1, HS.out.2.1, decide_eq_false E2.out]; simp
  have e2' : decide (D.block = E.block) = true := decide_eq_true e2
  have E2 := Lib.hid e2
  simp only [e2']
  clear e2 e2'
  have hc1 := eqrows_any n1 n2 D.next E.next _ (H.out.2.2.2.2.1.below HW4.out.1) (H.out.2.2.2.2.2.below HW4.out.1) HS.out.2.2.1.many HS.out.2.2.2.many (fun r hr => (HS.out.2.2.1.rows r hr).1) (fun r hr => (HS.out.2.2.2.rows r hr).1)
  go_wp2_with fail
  refine hc1.mono ?_
  rintro e w5 ⟨rfl, b5⟩
  clear hc1
  have HW5 := Lib.hid (HW4.out.1.trans (b5.mono (by omega)))
  clear b5 x0 x1 x2 x3 y0 y1 y2 y3
  have hfin : eqD D E = decide (D.next = E.next) := by
    rw [eqD, HS.out.1, HS.out.2.1, decide_eq_true E1.out, decide_eq_true E2.out]; simp
  have HF := Lib.hid hfin
  clear hfin
  obtain ⟨q, hq⟩ : ∃ q, decide (D.next = E.next) = q := ⟨_, rfl⟩
  have HQ := Lib.hid hq
  simp only [hq]
  clear hq
  go_wp2_with fail
  go_ret
  exact ⟨ret_bool (by rw [HF.out, HQ.out]), HW5.out⟩
end Go.Proofs.YtmmlakheimfijaaGreatDoor
namespace Go.Proofs.YtmmlakheimfijaaGreatDoor
set_option linter.unusedVariables false
set_option linter.unusedSimpArgs false
open Go.RowKit Go.Maps Go.Sort Go.ChangeShapes Go.WideShapes

/-- the byte at a place, as a number -/
def byt (s : ByteArray) (i : Nat) : Nat := (s.get! i).toNat
theorem byt_lt (s : ByteArray) (i : Nat) : byt s i < 256 := (s.get! i).toNat_lt
theorem get_at (s : ByteArray) (i : Nat) (h : i < s.size) : s.get! i = s[i]'h := by
  have h' : i < s.data.size := h
  show s.data[i]! = s.data[i]
  exact getElem!_pos s.data i h'
theorem byt_at (s : ByteArray) (i : Nat) (h : i < s.size) : (s[i]'h).toNat = byt s i := by rw [byt, get_at s i h]
def bytesTo (s : ByteArray) (n : Nat) : List Nat := (List.range n).map (byt s)
theorem bytesTo_succ (s : ByteArray) (n : Nat) : bytesTo s (n + 1) = bytesTo s n ++ [byt s n] := by simp [bytesTo, List.range_succ]
theorem bytesTo_in (s : ByteArray) (n : Nat) : Bytes (bytesTo s n) := fun b hb => by
  obtain ⟨i, hi, rfl⟩ := List.mem_map.1 hb
  exact byt_lt s i
def DfaI.blk (D : DfaI) : Nat → Nat := blkF D.z
def langD (D : DfaI) : Lang := D.aut.lang D.blk
def stateD (D : DfaI) (s : ByteArray) (n : Nat) : Nat := D.aut.at_ D.blk (bytesTo s n)
def stateI (D : DfaI) (s : ByteArray) : Int := if rightD D = true then ((stateD D s s.size : Nat) : Int) else -1
def runD (D : DfaI) (s : ByteArray) : Bool := rightD D && langD D (bytesTo s s.size)
theorem RightD.state_lt {D : DfaI} (h : RightD D) (s : ByteArray) (n : Nat) : stateD D s n < D.next.length := by
  have := Aut.at_lt h.ok h.blk.1.blk (bytesTo_in s n)
  unfold stateD
  rw [← D.nx_len]
  exact this
theorem RightD.step {D : DfaI} (h : RightD D) {p b : Nat} (hp : p < D.next.length) (hb : b < 256) :
    ∃ l, D.next[p]? = some l ∧ D.block[b]? = some ((D.blk b : Nat) : Int) ∧ l[D.blk b]? = some ((D.aut.nx p (D.blk b) : Nat) : Int) ∧ D.aut.nx p (D.blk b) < D.next.length ∧ D.blk b < l.length := by
  have hk := h.blk.1.blk.lt b hb
  have hz := ok_at h.blk.1.ok hb
  have hl256 := h.blk.2
  have hl : D.next[p]? = some D.next[p] := List.getElem?_eq_getElem hp
  obtain ⟨h1, h2⟩ := h.rows _ (List.mem_of_getElem? hl)
  have hw0 := h.w0
  have hkl : D.blk b < D.next[p].length := by
    have : D.blk b < (wideI D).toNat := hk
    omega
  refine ⟨_, hl, ?_, ?_, ?_, hkl⟩
  · have hzb : D.z b = D.block[b]'(by omega) := by
      unfold DfaI.z
      rw [List.getD_eq_getElem?_getD, List.getElem?_eq_getElem (by omega)]
      rfl
    rw [List.getElem?_eq_getElem (by omega), ← hzb]
    congr 1
    unfold DfaI.blk blkF
    omega
  · have e : D.aut.nx p (D.blk b) = (D.next[p][D.blk b]'hkl).toNat := by
      show nxtF D.nx p (D.blk b) = _
      unfold nxtF
      have e1 : D.nx.getD p [] = D.next[p].map Int.toNat := by
        rw [List.getD_eq_getElem?_getD, DfaI.nx, List.getElem?_map, hl]
        rfl
      rw [e1, List.getD_eq_getElem?_getD, List.getElem?_map, List.getElem?_eq_getElem hkl]
      rfl
    rw [List.getElem?_eq_getElem hkl, e]
    congr 1
    have := (h2 _ (List.getElem_mem hkl)).1
    omega
  · have := nxtF_lt h.nxt (n := p) (k := D.blk b) (by rw [D.nx_len]; exact hp) hk
    rw [D.nx_len] at this
    exact this

def greatD (D : DfaI) : Bool := (decide (60 < D.next.length) || decide (60 < D.fin.length) || decide (300 < D.block.length)) || D.next.any fun l => decide (260 < l.length)
structure SmallD (D : DfaI) : Prop where
  many : D.next.length ≤ 60
  fin : D.fin.length ≤ 60
  block : D.block.length ≤ 300
  rows : ∀ l ∈ D.next, l.length ≤ 260
theorem greatD_small {D : DfaI} (h : greatD D = false) : SmallD D := by
  simp only [greatD, Bool.or_eq_false_iff, decide_eq_false_iff_not, List.any_eq_false, decide_eq_true_eq] at h
  obtain ⟨⟨⟨h1, h2⟩, h3⟩, h4⟩ := h
  exact ⟨by omega, by omega, by omega, fun l hl => by have := h4 l hl; omega⟩

set_option maxHeartbeats 4000000 in
set_option maxRecDepth 100000 in
theorem great_any (v : Value) (D : DfaI) (w : World) (h : DfaAt w v D) (hD : D.In) : Calls Tryz.prog 7 #[v] w fun e w' => e = .returned (.bool (greatD D)) ∧ Below w.heap.size w w' := by
  obtain ⟨fv, bv, nv, rfl, hf, hb, hn⟩ := h
  obtain ⟨af, cf, rfl, -⟩ := id hf
  obtain ⟨ab, cb, rfl, -⟩ := id hb
  obtain ⟨an, cn, rfl, -⟩ := id hn
  have hF := hD.fin
  have hM := hD.many
  have hK := hD.block.1
  obtain ⟨S, hS⟩ : ∃ S, D.start = S := ⟨_, rfl⟩
  obtain ⟨M, hMe⟩ : ∃ M, D.next.length = M := ⟨_, rfl⟩
  obtain ⟨F, hFe⟩ : ∃ F, D.fin.length = F := ⟨_, rfl⟩
  obtain ⟨K, hKe⟩ : ∃ K, D.block.length = K := ⟨_, rfl⟩
  have hG : greatD D = ((decide (60 < M) || decide (60 < F) || decide (300 < K)) || D.next.any fun l => decide (260 < l.length)) := by rw [greatD, hMe, hFe, hKe]
  rw [hFe] at hF
  rw [hMe] at hM
  rw [hKe] at hK
  simp only [hS, hMe, hFe, hKe]
  have hbw := (Below.refl w.heap.size w).alloc (Nat.le_refl _) (.cells #[.int .i64 S, .slice af F cf, .slice ab K cb, .slice an M cn] 26)
  have hq := Blk.new w 26 #[.int .i64 S, .slice af F cf, .slice ab K cb, .slice an M cn]
  obtain ⟨⟨y0, y1, y2, y3⟩, -⟩ := hq.c4
  have H := Lib.hid (And.intro (hn.below hbw) (And.intro hD (And.intro hMe (And.intro hG hbw))))
  clear hf hb hn hbw hq hD hMe hFe hG hS hKe
  go_enter Tryz.func7, Tryz.ntmps7
  by_cases k1 : 60 < M
  · go_wp2_with fail
    go_ret
    exact ⟨ret_bool (by rw [H.out.2.2.2.1]; simp; try omega), H.out.2.2.2.2⟩
  by_cases k2 : 60 < F
  · go_wp2_with fail
    go_ret
    exact ⟨ret_bool (by rw [H.out.2.2.2.1]; simp; try omega), H.out.2.2.2.2⟩
  by_cases k3 : 300 < K
  · go_wp2_with fail
    go_ret
    exact ⟨ret_bool (by rw [H.out.2.2.2.1]; simp; try omega), H.out.2.2.2.2⟩
  have hG2 : greatD D = D.next.any fun l => decide (260 < l.length) := by
    rw [H.out.2.2.2.1]
    simp only [decide_eq_false k1, decide_eq_false k2, decide_eq_false k3, Bool.false_or]
  have HG := Lib.hid hG2
  clear hG2
  go_wp2_with fail
  go_loop [3] (fun c => ∃ j : Nat, j ≤ M ∧ c = .int .i64 j ∧ Hid ((D.next.take j).any (fun l => decide (260 < l.length)) = false)) (fun c => M - (intOf c).toNat)
  case atStart => exact ⟨0, by omega, rfl, Lib.hid rfl⟩
  case round =>
    obtain ⟨j, hj, rfl, hok⟩ := hrel
    have hlen := H.out.2.2.1
    by_cases hlt : j < M
    · obtain ⟨l, hl⟩ : ∃ l, D.next[j]? = some l := ⟨_, List.getElem?_eq_getElem (by omega)⟩
      have hlm := List.mem_of_getElem? hl
      have hlz := (H.out.2.1.rows l hlm).1
      obtain ⟨b, off, a, c, rfl, m0, -⟩ := H.out.1.get hl
      have HL := Lib.hid (And.intro hl hlm)
      clear hl hlm hlen
      by_cases k4 : 260 < l.length
      · go_wp2_with fail
        go_ret
        refine ⟨ret_bool ?_, H.out.2.2.2.2⟩
        rw [HG.out]
        exact (List.any_eq_true.2 ⟨l, HL.out.2, by simpa using k4⟩).symm
      · go_wp2_with fail
        go_round
        case rel =>
          refine ⟨j + 1, by omega, by go_num, Lib.hid ?_⟩
          have ht : D.next.take (j + 1) = D.next.take j ++ [l] := by rw [List.take_add_one, HL.out.1]; rfl
          rw [ht, List.any_append, hok.out]
          simp; omega
        case measure => simp [intOf]; omega
    · obtain rfl : j = M := by omega
      have hok' := hok.out
      rw [List.take_of_length_le (by omega)] at hok'
      have HOK := Lib.hid hok'
      clear hok' hok hlen
      go_wp2_with fail
      go_ret
      exact ⟨ret_bool (by rw [HG.out, HOK.out]), H.out.2.2.2.2⟩

theorem runD_eq (D : DfaI) (s : ByteArray) : runD D s = (rightD D && D.fin.getD (stateD D s s.size) false) := rfl
end Go.Proofs.YtmmlakheimfijaaGreatDoor
namespace Go.Proofs.YtmmlakheimfijaaGreatDoor
set_option linter.unusedVariables false
set_option linter.unusedSimpArgs false
open Go.RowKit Go.Maps Go.Sort Go.ChangeShapes Go.WideShapes

/-! plain words -/
open Classical in
/-- the reached states, sorted -/
noncomputable def reachL (d : Aut) : List Nat := (List.range d.many).filter fun p => decide (Reach d p)
theorem reachL_mem {d : Aut} (hd : d.Ok) {p : Nat} : p ∈ reachL d ↔ Reach d p := by
  unfold reachL
  simp only [List.mem_filter, List.mem_range, decide_eq_true_eq]
  exact ⟨fun h => h.2, fun h => ⟨h.lt hd, h⟩⟩
theorem reachL_len (d : Aut) : (reachL d).length ≤ d.many := Nat.le_trans (List.length_filter_le _ _) (by simp)
theorem reachL_sorted (d : Aut) : (reachL d).Pairwise (· < ·) := List.Pairwise.filter _ List.pairwise_lt_range
theorem reachL_nodup (d : Aut) : (reachL d).Nodup := (reachL_sorted d).imp fun h => Nat.ne_of_lt h
noncomputable def metD (d : Aut) : List Nat := metF d.nx d.wide fuelL 0 [d.start]
theorem metF_addR (f : Nat → Nat → Nat) (wide n i : Nat) (o : List Nat) : metF f wide n i o = bfs (addR fun a b => decide (a = b)) (fun n => (List.range wide).map (f n)) n i o := by
  unfold metF; rw [addN_eq]
theorem metD_in {d : Aut} : ∀ p ∈ metD d, Reach d p := by
  unfold metD
  rw [metF_addR]
  refine bfs_in (S := Reach d) (fun x hx y hy => ?_) _ _ _ fun y hy => ?_
  · obtain ⟨k, hk, rfl⟩ := List.mem_map.1 hy
    exact hx.nx (by simpa using hk)
  · obtain rfl := List.mem_singleton.1 hy
    exact .start d
theorem metD_nodup (d : Aut) : (metD d).Nodup := by
  unfold metD
  rw [metF_addR, List.nodup_iff_pairwise_ne]
  refine (bfs_apart _ _ _ _ (List.pairwise_singleton _ _)).imp fun {a b} h e => ?_
  simp [e] at h
theorem metD_len {d : Aut} (hd : d.Ok) : (metD d).length ≤ d.many := by
  have := nodup_sub (metD d) (List.range d.many) (metD_nodup d) fun p hp => by simpa using (metD_in p hp).lt hd
  simpa using this
theorem metD_all {d : Aut} (hd : d.Ok) (hm : d.many ≤ 4096) : ∀ ws, d.Word ws → d.run d.start ws ∈ metD d := by
  have hl := metD_len hd
  have hf := fuelL_eq
  have hh := bfs_handled (E := fun a b : Nat => decide (a = b)) (by simp) (fun n => (List.range d.wide).map (d.nx n)) fuelL 0 [d.start] (fun j x hj => by omega) (by omega) (by
    rw [← metF_addR]
    show (metD d).length < _
    omega)
  rw [← metF_addR] at hh
  change Handled _ _ (metD d).length (metD d) at hh
  have hstart : d.start ∈ metD d := by
    unfold metD
    rw [metF_addR]
    obtain ⟨t, ht⟩ := bfs_pre (fun a b : Nat => decide (a = b)) (fun n => (List.range d.wide).map (d.nx n)) fuelL 0 [d.start]
    rw [ht]; simp
  have key : ∀ (ws : List Nat) (p : Nat), p ∈ metD d → d.Word ws → d.run p ws ∈ metD d := by
    intro ws
    induction ws with
    | nil => intro p hp _; exact hp
    | cons k ws ih =>
      intro p hp hw
      obtain ⟨j, hj⟩ := List.getElem?_of_mem hp
      have h1 := hh j p (List.getElem?_eq_some_iff.1 hj).1 hj (d.nx p k) (List.mem_map.2 ⟨k, by simpa using hw k (by simp), rfl⟩)
      obtain ⟨y, hy, e⟩ := List.any_eq_true.1 h1
      obtain rfl := of_decide_eq_true e
      exact ih _ hy fun j hj => hw j (by simp [hj])
  exact fun ws hw => key ws _ hstart hw
theorem metD_mem {d : Aut} (hd : d.Ok) (hm : d.many ≤ 4096) {p : Nat} : p ∈ metD d ↔ Reach d p :=
  ⟨metD_in p, fun ⟨ws, hw, e⟩ => e ▸ metD_all hd hm ws hw⟩
theorem sorted_unique : ∀ {a b : List Nat}, a.Pairwise (· < ·) → b.Pairwise (· < ·) → (∀ x, x ∈ a ↔ x ∈ b) → a = b
  | [], [], _, _, _ => rfl
  | [], y :: b, _, _, h => by have := (h y).2 (by simp); cases this
  | x :: a, [], _, _, h => by have := (h x).1 (by simp); cases this
  | x :: a, y :: b, ha, hb, h => by
    obtain ⟨ha1, ha2⟩ := List.pairwise_cons.1 ha
    obtain ⟨hb1, hb2⟩ := List.pairwise_cons.1 hb
    have e : x = y := by
      rcases List.mem_cons.1 ((h x).1 (by simp)) with e | e
      · exact e
      · rcases List.mem_cons.1 ((h y).2 (by simp)) with e2 | e2
        · exact e2.symm
        · have := hb1 x e; have := ha1 y e2; omega
    subst e
    have : a = b := sorted_unique ha2 hb2 fun z => by
      constructor
      · intro hz
        rcases List.mem_cons.1 ((h z).1 (by simp [hz])) with e2 | e2
        · have := ha1 z hz; omega
        · exact e2
      · intro hz
        rcases List.mem_cons.1 ((h z).2 (by simp [hz])) with e2 | e2
        · have := hb1 z hz; omega
        · exact e2
    rw [this]
theorem sort_nats {l m : List Nat} (hl : l.Nodup) (hm : m.Pairwise (· < ·)) (h : ∀ x, x ∈ l ↔ x ∈ m) : (intsOf l).mergeSort (fun x y => decide (x ≤ y)) = intsOf m := by
  have hp := List.mergeSort_perm (intsOf l) (fun x y => decide (x ≤ y))
  have hpw : ((intsOf l).mergeSort (fun x y : Int => decide (x ≤ y))).Pairwise (fun a b => decide (a ≤ b) = true) := List.pairwise_mergeSort (fun a b c h1 h2 => by simp only [decide_eq_true_eq] at *; omega) (fun a b => by simp only [Bool.or_eq_true, decide_eq_true_eq]; omega) _
  have hnn : ∀ x ∈ (intsOf l).mergeSort (fun x y : Int => decide (x ≤ y)), 0 ≤ x := fun x hx => by
    obtain ⟨n, hn, rfl⟩ := List.mem_map.1 (hp.mem_iff.1 hx)
    omega
  have hnd : ((intsOf l).mergeSort (fun x y : Int => decide (x ≤ y))).Nodup := (hp.nodup_iff).2 (by
    unfold intsOf
    rw [List.nodup_iff_pairwise_ne, List.pairwise_map]
    exact (List.nodup_iff_pairwise_ne.1 hl).imp fun h e => h (by omega))
  have e : ((intsOf l).mergeSort (fun x y : Int => decide (x ≤ y))).map Int.toNat = m := by
    refine sorted_unique ?_ hm fun x => ?_
    · rw [List.pairwise_map]
      have h2 := List.pairwise_and_iff.2 ⟨hpw, List.nodup_iff_pairwise_ne.1 hnd⟩
      refine (List.Pairwise.imp_of_mem (fun {a b} ha hb hab => ?_) h2)
      have h3 := hnn a ha
      have h4 := hnn b hb
      have h5 := of_decide_eq_true hab.1
      have h6 := hab.2
      omega
    · rw [← h x, List.mem_map]
      constructor
      · rintro ⟨y, hy, rfl⟩
        obtain ⟨n, hn, rfl⟩ := List.mem_map.1 (hp.mem_iff.1 hy)
        simpa using hn
      · intro hx
        exact ⟨x, hp.mem_iff.2 (List.mem_map.2 ⟨x, hx, rfl⟩), by simp⟩
  rw [← e]
  exact (intsOf_toNat hnn).symm

set_option maxHeartbeats 4000000 in
set_option maxRecDepth 100000 in
/-- the closure Reached$1 -/
theorem rnext_any (w : World) (g : Nat) (st fv bv nv : Value) (nxt : List (List Nat)) (wide n k : Nat) (hn : RowsAt w nv nxt fun _ => True) (hq : Blk w g 26 #[st, fv, bv, nv]) (ho : NxtOk nxt wide) (h1 : n < nxt.length) (h2 : k < wide) (h3 : nxt.length ≤ 1000000) (h4 : wide ≤ 1000000) :
    Calls Tryz.prog 70 #[.int .i64 n, .int .i64 k, .pointer (some ⟨g, 0, none⟩)] w fun e w' => e = .returned (.int .i64 (nxtF nxt n k)) ∧ Below w.heap.size w w' := by
  obtain ⟨l, hl⟩ : ∃ l, nxt[n]? = some l := ⟨_, List.getElem?_eq_getElem h1⟩
  obtain ⟨b, off, cap, a, c, rfl, m0, hla⟩ := hn.get hl
  have hlw := (ho.row n l hl).1
  obtain ⟨x, hx⟩ : ∃ x, l[k]? = some x := ⟨_, List.getElem?_eq_getElem (by omega)⟩
  obtain ⟨b2, o2, rfl, m1⟩ := hla.get hx
  have he : nxtF nxt n k = x := by
    have e1 : nxt.getD n [] = l := by rw [List.getD_eq_getElem?_getD, hl]; rfl
    unfold nxtF
    rw [e1, List.getD_eq_getElem?_getD, hx]; rfl
  rw [he]
  obtain ⟨⟨y0, y1, y2, y3⟩, -⟩ := hq.c4
  rw [hlw] at m0
  clear hl hx he hn hla hq ho
  go_enter Tryz.func70, Tryz.ntmps70
  go_wp2_with fail
  go_ret
  exact ⟨rfl, Below.refl _ _⟩

theorem perm_len {l m : List Nat} (hl : l.Nodup) (hm : m.Nodup) (h : ∀ x, x ∈ l ↔ x ∈ m) : l.length = m.length :=
  Nat.le_antisymm (nodup_sub l m hl fun x hx => (h x).1 hx) (nodup_sub m l hm fun x hx => (h x).2 hx)
theorem sort_own {w : World} {B : Nat} {v : Value} {l m : List Nat} (h : w.ownsRow B 3 1 v l.length (natCells l)) (hpos : 0 < l.length) (hn : l.Nodup) (hm : m.Pairwise (· < ·)) (hlm : ∀ x, x ∈ l ↔ x ∈ m) (hsz : l.length < 4611686018427387904) :
    Calls Tryz.prog 71 #[v] w fun e w' => e = .returned (.tuple #[]) ∧ w'.ownsRow B 3 1 v m.length (natCells m) ∧ ∀ (B0 : Nat) (w0 : World), B0 ≤ B → Below B0 w0 w → Below B0 w0 w' := by
  have hlen := perm_len hn (hm.imp fun h => Nat.ne_of_lt h) hlm
  have hv : v ≠ .slice none 0 0 := fun e => by
    obtain ⟨a, c, e2⟩ := own_shape h
    rw [e] at e2
    have := (Value.slice.inj e2).2.1
    omega
  rw [← intsOf_cells] at h
  obtain ⟨g, cap, rfl, hB, hg, h1, h2, h3, h4⟩ := Lib.holds_of_ownsRow h hv
  have hc := slices_Sort_int g 0 cap (intsOf l) w h4 hg (by rw [intsOf_len]; exact hsz)
  rw [intsOf_len] at hc
  refine hc.mono ?_
  rintro e w' ⟨rfl, n, os, rfl⟩
  rw [sort_nats hn hm hlm]
  have hp := Lib.ownsRow_putRow (q := n) (k := l.length) (ys := intsOf m) h (by rw [intsOf_len]; omega) (Nat.le_refl _)
  rw [List.take_of_length_le (by rw [intsOf_len]; omega), intsOf_cells] at hp
  have hgr : ∀ W : World, W.grownBy (Sort.grow W os) none := fun W => ⟨rfl, rfl, rfl, by simp, fun k hk _ => heap_grow_old _ _ hk⟩
  refine ⟨rfl, ?_, fun B0 w0 h0 hb => ?_⟩
  · rw [← hlen]
    exact hp.kept (hgr _) (.inr (by simp [Value.ownBlock]))
  · have hb2 := Lib.below_putRow (enc := Value.int .i64) (q := n) (d := (intsOf m).toArray) hb (g := g) (by omega)
    have hs0 : B0 ≤ (putRow (Value.int .i64) (Sort.ahead w n) g 0 (intsOf m).toArray).heap.size ∨ w.heap.size < B0 := by
      have e : (putRow (Value.int .i64) (Sort.ahead w n) g 0 (intsOf m).toArray).heap.size = w.heap.size := by simp [putRow, mapBlock, Sort.ahead]
      omega
    rcases hs0 with hs0 | hs0
    · exact hb2.grown (hgr _) hs0 fun k e => by cases e
    · omega
theorem RightD.rowsOk {D : DfaI} (h : RightD D) : ∀ l ∈ D.next, l ≠ [] ∧ ∀ x ∈ l, 0 ≤ x := fun l hl => by
  obtain ⟨h1, h2⟩ := h.rows l hl
  have h0 := h.w0
  refine ⟨fun e => ?_, fun x hx => (h2 x hx).1⟩
  rw [e] at h1
  simp at h1
  omega
noncomputable def reachD (D : DfaI) : List Nat := if rightD D = true then reachL D.aut else []
set_option maxHeartbeats 8000000 in
set_option maxRecDepth 100000 in
theorem reached_any (v : Value) (D : DfaI) (w : World) (h : DfaAt w v D) (hD : D.In) : Calls Tryz.prog 45 #[v] w fun e w' => ∃ rv, e = .returned rv ∧ w'.ownsRow w.heap.size 3 1 rv (reachD D).length (natCells (reachD D)) ∧ Below w.heap.size w w' := by
  have hdr := fun W => dright_any v D W
  obtain ⟨fv, bv, nv, rfl, hf, hb, hn⟩ := id h
  obtain ⟨an, cn, rfl, -⟩ := id hn
  have hbw := (Below.refl w.heap.size w).alloc (Nat.le_refl _) (.cells #[.int .i64 D.start, fv, bv, .slice an D.next.length cn] 26)
  have hq := Blk.new w 26 #[.int .i64 D.start, fv, bv, .slice an D.next.length cn]
  obtain ⟨⟨y0, y1, y2, y3⟩, -⟩ := hq.c4
  have hz0 : (w.alloc (.cells #[.int .i64 D.start, fv, bv, .slice an D.next.length cn] 26)).heap.size = w.heap.size + 1 := by simp
  have hM := hD.many
  have H := Lib.hid (And.intro h (And.intro hD (And.intro hbw hq)))
  clear hf hb hn hq hD h
  go_enter Tryz.func45, Tryz.ntmps45
  go_wp2_with fail
  refine (hdr _ (H.out.1.below hbw) H.out.2.1).mono ?_
  rintro e w1 ⟨rfl, b1⟩
  rw [hz0] at b1
  have hz1 := b1.size
  rw [hz0] at hz1
  have HW := Lib.hid (And.intro (hbw.trans (b1.mono (by omega))) (H.out.2.2.2.below b1 (by omega)))
  clear hdr hbw b1 y0 y1 y2 y3
  obtain ⟨⟨y0, y1, y2, y3⟩, -⟩ := HW.out.2.c4
  cases hr : rightD D with
  | false =>
    have hrd : reachD D = [] := by unfold reachD; rw [if_neg (by rw [hr]; decide)]
    have HR := Lib.hid (And.intro hr hrd)
    clear hr hrd
    go_wp2_with fail
    go_ret
    refine ⟨_, rfl, ?_, HW.out.1⟩
    rw [HR.out.2]
    exact World.ownsRow_nil _ _ _ _
  | true =>
    have hR := rightD_iff.1 hr
    have hrd : reachD D = reachL D.aut := by unfold reachD; rw [if_pos hr]
    obtain ⟨fv', bv', nv', he, -, -, hn1⟩ := H.out.1.below HW.out.1
    have hpos := hR.m1
    have hm2 := hR.m2
    have hs0 := hR.s0
    have hw256 := hR.wide_le
    obtain ⟨l0, hl0⟩ : ∃ l0, D.next[0]? = some l0 := ⟨_, List.getElem?_eq_getElem hpos⟩
    have hnv : nv' = .slice an D.next.length cn := by have e := he.symm; simp at e; exact e.2.2
    subst hnv
    obtain ⟨b0, o0, a0, c0, rfl, m0, -⟩ := hn1.get hl0
    obtain ⟨hlw, hl3⟩ := hR.rows l0 (List.mem_of_getElem? hl0)
    rw [Nat.add_zero] at m0
    have hlw2 : l0.length = D.aut.wide := by show l0.length = (wideI D).toNat; omega
    rw [hlw2] at m0
    obtain ⟨p0, hp0⟩ : ∃ p0 : Nat, D.start = (p0 : Int) := ⟨D.start.toNat, by omega⟩
    have hst : D.aut.start = p0 := by show D.start.toNat = p0; omega
    have hrows := hn1.rowsAt hR.rowsOk
    have hok := hR.ok
    have hnx := hR.nxt
    have hml : D.nx.length ≤ 4096 := by rw [D.nx_len]; exact hm2
    have lb0 : b0 < w1.heap.size := World.block_lt_of_cell? w1 _ m0
    rw [hp0] at y0
    have HR := Lib.hid (And.intro hR (And.intro hrd (And.intro hrows hst)))
    have hfl := fuelL_eq
    have hnext : ∀ W, Below w1.heap.size w1 W → Calls Tryz.prog 50 #[.int .i64 p0, .int .i64 D.aut.wide, .func (.func 70) #[] #[.pointer (some ⟨w.heap.size, 0, none⟩)]] W fun e w' => ∃ v, e = .returned v ∧ w'.ownsRow (W.heap.size + 1) 3 1 v (metD D.aut).length (natCells (metD D.aut)) ∧ Below W.heap.size W w' := fun W hW => by
      have := met_any 70 #[.pointer (some ⟨w.heap.size, 0, none⟩)] (.inl ⟨rfl, _, rfl⟩) D.aut.nx p0 D.aut.wide D.nx.length fuelL W (by omega) (by omega) (fun n k h1 h2 => hok.nxt n k h1 h2) (by rw [← hst]; exact hok.st) (by omega) (fun n k W' h1 h2 hW' => by
        refine (rnext_any W' w.heap.size _ _ _ _ D.nx D.aut.wide n k (HR.out.2.2.1.below (hW.trans (hW'.mono hW.size))) (HW.out.2.below (hW.trans (hW'.mono hW.size)) (by omega)) hnx h1 h2 (by omega) (by omega)).mono ?_
        intro e w' h
        exact h)
      have e2 : metD D.aut = metF D.aut.nx D.aut.wide fuelL 0 [p0] := by unfold metD; rw [hst]
      rw [e2]
      exact this
    have HN := Lib.hid hnext
    have HM := Lib.hid (And.intro (metD_len hok) (And.intro (metD_nodup D.aut) fun (x : Nat) => metD_mem (p := x) hok hml))
    clear hr hR hrd he hn1 hs0 hl0 hlw hl3 hlw2 hp0 hst hrows hok hnx hnext hfl
    have q0 : ∀ d os, (Sort.grow (redrawn w1 d) os).cell? ⟨b0, o0, none⟩ = some (.slice a0 D.aut.wide c0) := fun d os => ((below_regrown w1 d os).cell (p := ⟨b0, o0, none⟩) lb0).trans m0
    have q1 : ∀ d os, (Sort.grow (redrawn w1 d) os).cell? ⟨w.heap.size, 0, none⟩ = some (.int .i64 p0) := fun d os => ((below_regrown w1 d os).cell (p := ⟨w.heap.size, 0, none⟩) (by show w.heap.size < w1.heap.size; omega)).trans y0
    have q3 : ∀ d os, (Sort.grow (redrawn w1 d) os).cell? ⟨w.heap.size, 3, none⟩ = some (.slice (some ⟨b0, o0, none⟩) D.next.length cn) := fun d os => ((below_regrown w1 d os).cell (p := ⟨w.heap.size, 3, none⟩) (by show w.heap.size < w1.heap.size; omega)).trans y3
    have hlt0 : decide (0 < D.next.length) = true := decide_eq_true hpos
    go_wp2_with fail
    refine wp_region_below_tail 8 (by kernel_rfl) (by kernel_rfl) ?_
    simp only [List.take_succ_cons, List.take_zero, List.drop_succ_cons, List.drop_zero]
    repeat (go_big_quiet_step (fail))
    refine wpQuiet_nil ?_
    intro _ hw'
    obtain ⟨⟨dq, osq⟩, hw''⟩ := hw'
    subst hw''
    have bb : Below w1.heap.size w1 (Sort.grow (redrawn w1 dq) osq) := below_regrown w1 dq osq
    generalize Sort.grow (redrawn w1 dq) osq = w2 at *
    clear q0 q1 q3 m0 y0 y1 y2 y3
    show wpList _ _ _ (_ :: _) _ _
    go_wp2_with fail
    refine (HN.out w2 bb).mono ?_
    rintro e w3 ⟨v3, rfl, hown3, b3⟩
    obtain ⟨a3, cap3, rfl⟩ := own_shape hown3
    have HB := Lib.hid (bb.trans (b3.mono bb.size))
    have hz3 := bb.size
    have hlen3 := HM.out.1
    have hlen4 : (metD D.aut).length ≤ 4096 := Nat.le_trans hlen3 hml
    have hdp : 0 < (metD D.aut).length := List.length_pos_of_mem ((HM.out.2.2 _).2 (Reach.start D.aut))
    have hsort := sort_own hown3 hdp HM.out.2.1 (reachL_sorted D.aut) (fun x => by rw [HM.out.2.2 x, reachL_mem HR.out.1.ok]) (by omega)
    clear HN b3 hown3 hlen3
    go_wp2_with fail
    refine hsort.mono ?_
    rintro e w4 ⟨rfl, hown4, b4⟩
    have HB4 := Lib.hid (b4 w1.heap.size w1 (by omega) HB.out)
    clear hsort b4
    go_wp2_with fail
    go_ret
    refine ⟨_, rfl, ?_, HW.out.1.trans (HB4.out.mono (by omega))⟩
    rw [HR.out.2.1]
    exact own_base hown4 (by omega)
end Go.Proofs.YtmmlakheimfijaaGreatDoor
