/-
  An automaton in memory, as it comes in and as it goes out; when it is right. Conditions: each lemma says its own.
-/
import Derived.Test.YtgkpgjbgcimijaaDoorAuBl
import Derived.Test.YtgkpgjbgcimijaaDoorAuCls
import Derived.Test.YtgkpgjbgcimijaaDoorAuOfLaw
namespace Go.Proofs.YtgkpgjbgcimijaaDoor
set_option linter.unusedVariables false
set_option linter.unusedSimpArgs false
open Go.RowKit Go.Maps Go.Sort Go.ChangeShapes Go.WideShapes

def IntsIn (l : List Int) : Prop := l.length ≤ 9223372036854775807 ∧ ∀ x ∈ l, In64 x
/-- a slice of ints that is read -/
def IntsAt (w : World) (v : Value) (l : List Int) : Prop :=
  ∃ a cap, v = .slice a l.length cap ∧ (l = [] ∨ ∃ b off, a = some ⟨b, off, none⟩ ∧ b < w.heap.size ∧ ∀ (j : Nat) (x : Int), l[j]? = some x → w.cell? ⟨b, off + j, none⟩ = some (.int .i64 x))
theorem IntsAt.below {w w' : World} {v : Value} {l : List Int} (h : IntsAt w v l) (hb : Below w.heap.size w w') : IntsAt w' v l := by
  obtain ⟨a, cap, rfl, h0 | ⟨b, off, rfl, hlt, hc⟩⟩ := h
  · exact ⟨a, cap, rfl, .inl h0⟩
  · exact ⟨_, cap, rfl, .inr ⟨b, off, rfl, by have := hb.size; omega, fun j x hj => (hb.cell (p := ⟨b, off + j, none⟩) hlt).trans (hc j x hj)⟩⟩
theorem IntsAt.get {w : World} {a : Option Addr} {len c : Nat} {l : List Int} (h : IntsAt w (.slice a len c) l) {k : Nat} {x : Int} (hk : l[k]? = some x) : ∃ b off, a = some ⟨b, off, none⟩ ∧ w.cell? ⟨b, off + k, none⟩ = some (.int .i64 x) := by
  obtain ⟨a', c', he, h0 | ⟨b, off, rfl, hb, hc⟩⟩ := h
  · rw [h0] at hk; cases hk
  · obtain ⟨rfl, -, -⟩ := Value.slice.inj he
    exact ⟨b, off, rfl, hc k x hk⟩
theorem IntsAt.isInts {w : World} {a : Option Addr} {cap : Nat} {l : List Int} (h : IntsAt w (.slice a l.length cap) l) (hi : IntsIn l) : IsInts w a l.length cap fun j => l.getD j 0 := by
  obtain ⟨a', c', he, h1⟩ := h
  obtain ⟨rfl, -, -⟩ := Value.slice.inj he
  refine ⟨?_, fun j hj => ?_, hi.1⟩
  · rcases h1 with h0 | ⟨b, off, rfl, hb, hc⟩
    · left; rw [h0]; rfl
    · right
      refine ⟨b, off, rfl, hb, fun j hj => ?_⟩
      rw [hc j _ (List.getElem?_eq_getElem hj), List.getD_eq_getElem?_getD, List.getElem?_eq_getElem hj]; rfl
  · rw [List.getD_eq_getElem?_getD, List.getElem?_eq_getElem hj]
    exact hi.2 _ (List.getElem_mem hj)
theorem NatsAt.intsAt {w : World} {v : Value} {l : List Nat} (h : NatsAt w v l) : IntsAt w v (intsOf l) := by
  obtain ⟨a, cap, rfl, h0 | ⟨b, off, rfl, hb, hc⟩⟩ := h
  · exact ⟨a, cap, by rw [intsOf_len], .inl (by rw [h0]; rfl)⟩
  · refine ⟨_, cap, by rw [intsOf_len], .inr ⟨b, off, rfl, hb, fun j x hj => ?_⟩⟩
    rw [intsOf, List.getElem?_map] at hj
    obtain ⟨n, hn, rfl⟩ := Option.map_eq_some_iff.1 hj
    exact hc j n hn
theorem intsOf_toNat {l : List Int} (h : ∀ x ∈ l, 0 ≤ x) : intsOf (l.map Int.toNat) = l := by
  induction l with
  | nil => rfl
  | cons a l ih =>
    have h1 := h a (by simp)
    have h2 := ih fun x hx => h x (by simp [hx])
    simp only [intsOf, List.map_cons] at h2 ⊢
    rw [h2]
    congr 1
    omega
theorem IntsAt.natsAt {w : World} {v : Value} {l : List Int} (h : IntsAt w v l) (h0 : ∀ x ∈ l, 0 ≤ x) : NatsAt w v (l.map Int.toNat) := by
  obtain ⟨a, cap, rfl, h1 | ⟨b, off, rfl, hb, hc⟩⟩ := h
  · exact ⟨a, cap, by rw [List.length_map], .inl (by rw [h1]; rfl)⟩
  · refine ⟨_, cap, by rw [List.length_map], .inr ⟨b, off, rfl, hb, fun j x hj => ?_⟩⟩
    rw [List.getElem?_map] at hj
    obtain ⟨n, hn, rfl⟩ := Option.map_eq_some_iff.1 hj
    rw [hc j n hn]
    have := h0 n (List.mem_of_getElem? hn)
    congr 2
    omega
/-- a slice of slices of ints that is read -/
def IRowsAt (w : World) (v : Value) (ll : List (List Int)) : Prop :=
  ∃ a cap, v = .slice a ll.length cap ∧ (ll = [] ∨ ∃ b off, a = some ⟨b, off, none⟩ ∧ b < w.heap.size ∧ ∀ (j : Nat) (l : List Int), ll[j]? = some l → ∃ u, w.cell? ⟨b, off + j, none⟩ = some u ∧ IntsAt w u l)
theorem IRowsAt.below {w w' : World} {v : Value} {ll : List (List Int)} (h : IRowsAt w v ll) (hb : Below w.heap.size w w') : IRowsAt w' v ll := by
  obtain ⟨a, cap, rfl, h0 | ⟨b, off, rfl, hlt, hc⟩⟩ := h
  · exact ⟨a, cap, rfl, .inl h0⟩
  · exact ⟨_, cap, rfl, .inr ⟨b, off, rfl, by have := hb.size; omega, fun j l hj => by
      obtain ⟨u, hu, hl⟩ := hc j l hj
      exact ⟨u, (hb.cell (p := ⟨b, off + j, none⟩) hlt).trans hu, hl.below hb⟩⟩⟩
theorem IRowsAt.get {w : World} {a0 : Option Addr} {len cap0 : Nat} {ll : List (List Int)} (h : IRowsAt w (.slice a0 len cap0) ll) {n : Nat} {l : List Int} (hn : ll[n]? = some l) :
    ∃ b off a c, a0 = some ⟨b, off, none⟩ ∧ w.cell? ⟨b, off + n, none⟩ = some (.slice a l.length c) ∧ IntsAt w (.slice a l.length c) l := by
  obtain ⟨a, cap, he, h0 | ⟨b, off, rfl, hlt, hc⟩⟩ := h
  · rw [h0] at hn; cases hn
  · obtain ⟨rfl, -, -⟩ := Value.slice.inj he
    obtain ⟨u, hu, h1⟩ := hc n l hn
    obtain ⟨a, c, rfl, h2⟩ := id h1
    exact ⟨b, off, a, c, rfl, hu, h1⟩
theorem RowsAt.iRowsAt {w : World} {v : Value} {ll : List (List Nat)} {N : Nat → Prop} (h : RowsAt w v ll N) : IRowsAt w v (ll.map intsOf) := by
  obtain ⟨a, cap, rfl, h0 | ⟨b, off, rfl, hlt, hN, hc⟩⟩ := h
  · exact ⟨a, cap, by rw [List.length_map], .inl (by rw [h0]; rfl)⟩
  · refine ⟨_, cap, by rw [List.length_map], .inr ⟨b, off, rfl, hlt, fun j l hj => ?_⟩⟩
    rw [List.getElem?_map] at hj
    obtain ⟨n, hn, rfl⟩ := Option.map_eq_some_iff.1 hj
    obtain ⟨u, hu, hl, hg⟩ := hc j n hn
    exact ⟨u, hu, hl.intsAt⟩
theorem NatsAt.lt {w : World} {v : Value} {l : List Nat} (h : NatsAt w v l) : l = [] ∨ ∀ g, v.ownBlock = some g → g < w.heap.size := by
  obtain ⟨a, cap, rfl, h0 | ⟨b, off, rfl, hb, hc⟩⟩ := h
  · exact .inl h0
  · exact .inr fun g e => by obtain rfl : b = g := Option.some.inj e; exact hb
theorem IRowsAt.rowsAt {w : World} {v : Value} {ll : List (List Int)} (h : IRowsAt w v ll) (h0 : ∀ l ∈ ll, l ≠ [] ∧ ∀ x ∈ l, 0 ≤ x) : RowsAt w v (ll.map (·.map Int.toNat)) fun _ => True := by
  obtain ⟨a, cap, rfl, h1 | ⟨b, off, rfl, hlt, hc⟩⟩ := h
  · exact ⟨a, cap, by rw [List.length_map], .inl (by rw [h1]; rfl)⟩
  · refine ⟨_, cap, by rw [List.length_map], .inr ⟨b, off, rfl, hlt, trivial, fun j l hj => ?_⟩⟩
    rw [List.getElem?_map] at hj
    obtain ⟨n, hn, rfl⟩ := Option.map_eq_some_iff.1 hj
    obtain ⟨u, hu, hl⟩ := hc j n hn
    obtain ⟨hne, hp⟩ := h0 n (List.mem_of_getElem? hn)
    have hna := hl.natsAt hp
    refine ⟨u, hu, hna, fun g e => ⟨?_, trivial⟩⟩
    rcases hna.lt with h2 | h2
    · exact absurd (by simpa using h2) hne
    · exact h2 g e

/-- an automaton's data -/
structure DfaI where
  start : Int
  fin : List Bool
  block : List Int
  next : List (List Int)
structure DfaI.In (D : DfaI) : Prop where
  start : In64 D.start
  fin : D.fin.length ≤ 9223372036854775807
  block : IntsIn D.block
  many : D.next.length ≤ 9223372036854775807
  rows : ∀ l ∈ D.next, IntsIn l
def DfaAt (w : World) (v : Value) (D : DfaI) : Prop :=
  ∃ fv bv nv, v = .agg #[.int .i64 D.start, fv, bv, nv] ∧ BoolsAt w fv D.fin.length (fun i => D.fin.getD i false) ∧ IntsAt w bv D.block ∧ IRowsAt w nv D.next
theorem DfaAt.below {w w' : World} {v : Value} {D : DfaI} (h : DfaAt w v D) (hb : Below w.heap.size w w') : DfaAt w' v D := by
  obtain ⟨fv, bv, nv, rfl, h1, h2, h3⟩ := h
  exact ⟨fv, bv, nv, rfl, h1.below hb, h2.below hb, h3.below hb⟩

/-! right -/
def rowB (wide : Int) (many : Nat) (l : List Int) : Bool := decide ((l.length : Int) = wide) && l.all fun n => decide (0 ≤ n) && decide (n < many)
def DfaI.z (D : DfaI) : Nat → Int := fun j => D.block.getD j 0
def wideI (D : DfaI) : Int := countI D.z D.block.length
def rightD (D : DfaI) : Bool :=
  (decide (1 ≤ D.next.length) && decide (D.next.length ≤ 4096) && decide (D.fin.length = D.next.length) && decide (0 ≤ D.start) && decide (D.start < D.next.length)) && (decide (0 < wideI D) && D.next.all (rowB (wideI D) D.next.length))
def DfaI.nx (D : DfaI) : List (List Nat) := D.next.map (·.map Int.toNat)
def DfaI.aut (D : DfaI) : Aut := { many := D.nx.length, wide := (wideI D).toNat, start := D.start.toNat, fin := fun i => D.fin.getD i false, nx := nxtF D.nx }
structure RightD (D : DfaI) : Prop where
  m1 : 1 ≤ D.next.length
  m2 : D.next.length ≤ 4096
  fin : D.fin.length = D.next.length
  s0 : 0 ≤ D.start
  s1 : D.start < D.next.length
  w0 : 0 < wideI D
  rows : ∀ l ∈ D.next, (l.length : Int) = wideI D ∧ ∀ n ∈ l, 0 ≤ n ∧ n < D.next.length
theorem rightD_iff {D : DfaI} : rightD D = true ↔ RightD D := by
  constructor
  · intro h
    simp only [rightD, Bool.and_eq_true, decide_eq_true_eq, List.all_eq_true, rowB] at h
    obtain ⟨⟨⟨⟨⟨h1, h2⟩, h3⟩, h4⟩, h5⟩, h6, h7⟩ := h
    exact ⟨h1, h2, h3, h4, h5, h6, h7⟩
  · intro ⟨h1, h2, h3, h4, h5, h6, h7⟩
    simp only [rightD, Bool.and_eq_true, decide_eq_true_eq, List.all_eq_true, rowB]
    exact ⟨⟨⟨⟨⟨h1, h2⟩, h3⟩, h4⟩, h5⟩, h6, h7⟩
theorem RightD.blk {D : DfaI} (h : RightD D) : BlkOk D.z D.aut.wide ∧ D.block.length = 256 := by
  have h1 := h.w0
  have hw : ((wideI D).toNat : Int) = wideI D := by omega
  have hr : Bl.right D.z D.block.length = true := by
    cases hr : Bl.right D.z D.block.length with
    | true => rfl
    | false =>
      have : wideI D = 0 := by unfold wideI countI; rw [if_neg (by rw [hr]; decide)]
      omega
  have hr' := hr
  simp only [Bl.right, Bool.and_eq_true, decide_eq_true_eq] at hr'
  have hok : Bl.okTo D.z 256 = true := by rw [← hr'.1]; exact hr'.2
  refine ⟨⟨hok, ?_⟩, hr'.1⟩
  show ((wideI D).toNat : Int) = _
  rw [hw, ← Bl.most_top _ _ hok]
  unfold wideI countI
  rw [if_pos hr]
theorem RightD.nxt {D : DfaI} (h : RightD D) : NxtOk D.nx D.aut.wide where
  pos := by have := h.m1; simp [DfaI.nx]; omega
  row := fun n l hn => by
    rw [DfaI.nx, List.getElem?_map] at hn
    obtain ⟨r, hr, rfl⟩ := Option.map_eq_some_iff.1 hn
    obtain ⟨h1, h2⟩ := h.rows r (List.mem_of_getElem? hr)
    refine ⟨?_, fun x hx => ?_⟩
    · rw [List.length_map]
      show r.length = (wideI D).toNat
      omega
    · obtain ⟨y, hy, rfl⟩ := List.mem_map.1 hx
      have := h2 y hy
      simp only [DfaI.nx, List.length_map]
      omega
theorem nxtF_lt {nxt : List (List Nat)} {wide : Nat} (h : NxtOk nxt wide) {n k : Nat} (hn : n < nxt.length) (hk : k < wide) : nxtF nxt n k < nxt.length := by
  obtain ⟨h1, h2⟩ := h.row n _ (List.getElem?_eq_getElem hn)
  unfold nxtF
  have e : nxt.getD n [] = nxt[n] := by rw [List.getD_eq_getElem?_getD, List.getElem?_eq_getElem hn]; rfl
  rw [e, List.getD_eq_getElem?_getD, List.getElem?_eq_getElem (by omega)]
  exact h2 _ (List.getElem_mem _)
theorem RightD.ok {D : DfaI} (h : RightD D) : D.aut.Ok where
  wide0 := by have := h.w0; show 0 < (wideI D).toNat; omega
  st := by
    have h1 := h.s0
    have h2 := h.s1
    show D.start.toNat < D.nx.length
    simp only [DfaI.nx, List.length_map]
    omega
  nxt := fun i k hi hk => nxtF_lt h.nxt hi hk
theorem DfaI.nx_len (D : DfaI) : D.nx.length = D.next.length := by simp [DfaI.nx]
theorem RightD.wide_le {D : DfaI} (h : RightD D) : D.aut.wide ≤ 256 := by
  have h1 := h.blk.1.wide
  have := Bl.top_nonneg D.z 256
  omega
end Go.Proofs.YtgkpgjbgcimijaaDoor
