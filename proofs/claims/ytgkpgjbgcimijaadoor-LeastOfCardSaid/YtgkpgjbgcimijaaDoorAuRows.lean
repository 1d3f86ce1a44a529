/-
  Lists of lists of numbers in memory. Conditions: each lemma says its own.
-/
import Derived.Test.YtgkpgjbgcimijaaDoorAuOpen
namespace Go.Proofs.YtgkpgjbgcimijaaDoor
set_option linter.unusedVariables false
set_option linter.unusedSimpArgs false
open Go.RowKit Go.Maps Go.Sort Go.ChangeShapes Go.WideShapes

/-- the blocks of which N holds are as they were -/
def Same (N : Nat → Prop) (w w' : World) : Prop := w.heap.size ≤ w'.heap.size ∧ ∀ k, k < w.heap.size → N k → w'.heap[k]? = w.heap[k]?
theorem Same.of_only {N : Nat → Prop} {w w' : World} {S : List Nat} (h : Only S w w') (hN : ∀ k ∈ S, ¬ N k) : Same N w w' := ⟨h.size, fun k hk hn => h.block k hk fun hm => hN k hm hn⟩
theorem Same.of_below {N : Nat → Prop} {w w' : World} {B : Nat} (h : Below B w w') (hN : ∀ k, N k → k < B) : Same N w w' := ⟨h.size, fun k _ hn => h.block k (hN k hn)⟩
theorem Same.trans {N : Nat → Prop} {a b c : World} (h : Same N a b) (h' : Same N b c) : Same N a c := ⟨Nat.le_trans h.1 h'.1, fun k hk hn => (h'.2 k (Nat.lt_of_lt_of_le hk h.1) hn).trans (h.2 k hk hn)⟩
theorem Same.less {N N' : Nat → Prop} {w w' : World} (h : Same N w w') (hN : ∀ k, N' k → N k) : Same N' w w' := ⟨h.1, fun k hk hn => h.2 k hk (hN k hn)⟩
theorem NatsAt.same {w w' : World} {v : Value} {l : List Nat} {N : Nat → Prop} (h : NatsAt w v l) (hs : Same N w w') (hn : ∀ g, v.ownBlock = some g → N g) : NatsAt w' v l := by
  obtain ⟨a, cap, rfl, h0 | ⟨b, off, rfl, hb, hc⟩⟩ := h
  · exact ⟨a, cap, rfl, .inl h0⟩
  · refine ⟨_, cap, rfl, .inr ⟨b, off, rfl, by have := hs.1; omega, fun j x hj => ?_⟩⟩
    exact (World.cell?_of_block (hs.2 b hb (hn b rfl))).trans (hc j x hj)
/-- a slice of slices of numbers that is read; N holds of its blocks -/
def RowsAt (w : World) (v : Value) (ll : List (List Nat)) (N : Nat → Prop) : Prop :=
  ∃ a cap, v = .slice a ll.length cap ∧ (ll = [] ∨ ∃ b off, a = some ⟨b, off, none⟩ ∧ b < w.heap.size ∧ N b ∧ ∀ (j : Nat) (l : List Nat), ll[j]? = some l → ∃ u, w.cell? ⟨b, off + j, none⟩ = some u ∧ NatsAt w u l ∧ ∀ g, u.ownBlock = some g → g < w.heap.size ∧ N g)
theorem RowsAt.same {w w' : World} {v : Value} {ll : List (List Nat)} {N : Nat → Prop} (h : RowsAt w v ll N) (hs : Same N w w') : RowsAt w' v ll N := by
  obtain ⟨a, cap, rfl, h0 | ⟨b, off, rfl, hb, hN, hc⟩⟩ := h
  · exact ⟨a, cap, rfl, .inl h0⟩
  · refine ⟨_, cap, rfl, .inr ⟨b, off, rfl, by have := hs.1; omega, hN, fun j l hj => ?_⟩⟩
    obtain ⟨u, hu, hl, hg⟩ := hc j l hj
    exact ⟨u, (World.cell?_of_block (hs.2 b hb hN)).trans hu, hl.same hs fun g e => (hg g e).2, fun g e => ⟨Nat.lt_of_lt_of_le (hg g e).1 hs.1, (hg g e).2⟩⟩
theorem RowsAt.less {w : World} {v : Value} {ll : List (List Nat)} {N N' : Nat → Prop} (h : RowsAt w v ll N) (hN : ∀ k, N k → N' k) : RowsAt w v ll N' := by
  obtain ⟨a, cap, rfl, h0 | ⟨b, off, rfl, hb, hNb, hc⟩⟩ := h
  · exact ⟨a, cap, rfl, .inl h0⟩
  · exact ⟨_, cap, rfl, .inr ⟨b, off, rfl, hb, hN b hNb, fun j l hj => by
      obtain ⟨u, hu, hl, hg⟩ := hc j l hj
      exact ⟨u, hu, hl, fun g e => ⟨(hg g e).1, hN g (hg g e).2⟩⟩⟩⟩
theorem RowsAt.bound {w : World} {v : Value} {ll : List (List Nat)} {N : Nat → Prop} (h : RowsAt w v ll N) {H : Nat} (hH : w.heap.size ≤ H) : RowsAt w v ll fun k => N k ∧ k < H := by
  obtain ⟨a, cap, rfl, h0 | ⟨b, off, rfl, hb, hNb, hc⟩⟩ := h
  · exact ⟨a, cap, rfl, .inl h0⟩
  · exact ⟨_, cap, rfl, .inr ⟨b, off, rfl, hb, ⟨hNb, by omega⟩, fun j l hj => by
      obtain ⟨u, hu, hl, hg⟩ := hc j l hj
      exact ⟨u, hu, hl, fun g e => ⟨(hg g e).1, (hg g e).2, by have := (hg g e).1; omega⟩⟩⟩⟩
/-- a row, and what is in it -/
theorem RowsAt.get {w : World} {v : Value} {ll : List (List Nat)} {N : Nat → Prop} (h : RowsAt w v ll N) {n : Nat} {l : List Nat} (hn : ll[n]? = some l) :
    ∃ b off cap a c, v = .slice (some ⟨b, off, none⟩) ll.length cap ∧ w.cell? ⟨b, off + n, none⟩ = some (.slice a l.length c) ∧ NatsAt w (.slice a l.length c) l := by
  obtain ⟨a, cap, rfl, h0 | ⟨b, off, rfl, hb, hNb, hc⟩⟩ := h
  · rw [h0] at hn; cases hn
  · obtain ⟨u, hu, ⟨a, c, rfl, hl⟩, hg⟩ := hc n l hn
    exact ⟨b, off, cap, a, c, rfl, hu, a, c, rfl, hl⟩
theorem NatsAt.get {w : World} {a : Option Addr} {len c : Nat} {l : List Nat} (h : NatsAt w (.slice a len c) l) {k x : Nat} (hk : l[k]? = some x) : ∃ b off, a = some ⟨b, off, none⟩ ∧ w.cell? ⟨b, off + k, none⟩ = some (.int .i64 (x : Int)) := by
  obtain ⟨a', c', he, h0 | ⟨b, off, rfl, hb, hc⟩⟩ := h
  · rw [h0] at hk; cases hk
  · exact ⟨b, off, (Value.slice.inj he).1, hc k x hk⟩
theorem NatsAt.len {w : World} {a : Option Addr} {len c : Nat} {l : List Nat} (h : NatsAt w (.slice a len c) l) : len = l.length := by
  obtain ⟨a', c', he, -⟩ := h
  exact (Value.slice.inj he).2.1
def Rows3At (w : World) (v : Value) (lll : List (List (List Nat))) (N : Nat → Prop) : Prop :=
  ∃ a cap, v = .slice a lll.length cap ∧ (lll = [] ∨ ∃ b off, a = some ⟨b, off, none⟩ ∧ b < w.heap.size ∧ N b ∧ ∀ (j : Nat) (ll : List (List Nat)), lll[j]? = some ll → ∃ u, w.cell? ⟨b, off + j, none⟩ = some u ∧ RowsAt w u ll N)
theorem Rows3At.same {w w' : World} {v : Value} {lll : List (List (List Nat))} {N : Nat → Prop} (h : Rows3At w v lll N) (hs : Same N w w') : Rows3At w' v lll N := by
  obtain ⟨a, cap, rfl, h0 | ⟨b, off, rfl, hb, hN, hc⟩⟩ := h
  · exact ⟨a, cap, rfl, .inl h0⟩
  · refine ⟨_, cap, rfl, .inr ⟨b, off, rfl, by have := hs.1; omega, hN, fun j ll hj => ?_⟩⟩
    obtain ⟨u, hu, hl⟩ := hc j ll hj
    exact ⟨u, (World.cell?_of_block (hs.2 b hb hN)).trans hu, hl.same hs⟩

/-! rows of the call's own, that grow one by one -/
structure Inner (w : World) (B g cap many : Nat) (us : List Value) (F : Nat → List Nat) : Prop where
  row : w.ownsRow B 23 1 (.slice (some ⟨g, 0, none⟩) many cap) many us
  own : ∀ m, m < many → ∃ u, us[m]? = some u ∧ w.ownsRow B 3 1 u (F m).length (natCells (F m))
  apart : ∀ (m m' : Nat) (u u' : Value), m ≠ m' → us[m]? = some u → us[m']? = some u' → ∀ k, u.ownBlock = some k → u'.ownBlock ≠ some k
  off : ∀ (m : Nat) (u : Value), us[m]? = some u → u.ownBlock ≠ some g
theorem Inner.start {w : World} {B g cap many : Nat} {us : List Value} (h : w.ownsRow B 23 1 (.slice (some ⟨g, 0, none⟩) many cap) many us) (hu : ∀ (m : Nat) (u : Value), us[m]? = some u → u = .slice none 0 0) : Inner w B g cap many us fun _ => [] := by
  refine ⟨h, fun m hm => ?_, fun m m' u u' _ h1 _ k hk => ?_, fun m u h1 hk => ?_⟩
  · have hl : us.length = many := by have := h.1; omega
    have h1 : us[m]? = some (us[m]'(by omega)) := List.getElem?_eq_getElem (by omega)
    refine ⟨_, h1, ?_⟩
    rw [hu m _ h1]
    exact World.ownsRow_nil _ _ _ _
  · rw [hu m u h1] at hk; cases hk
  · rw [hu m u h1] at hk; cases hk
/-- one row got one more -/
theorem Inner.step {w w' : World} {B g cap many m : Nat} {us : List Value} {F : Nat → List Nat} {v x : Value} {n : Nat} (h : Inner w B g cap many us F) (hm : m < many) (hv : us[m]? = some v) (hz : w.heap.size ≤ w'.heap.size)
    (hs : ∀ k, k < w.heap.size → k ≠ g → v.ownBlock ≠ some k → w'.heap[k]? = w.heap[k]?) (hrow : w'.ownsRow B 23 1 (.slice (some ⟨g, 0, none⟩) many cap) many (us.set m x))
    (hx : w'.ownsRow B 3 1 x ((F m).length + 1) (natCells (F m) ++ [.int .i64 (n : Int)])) (hat : ∀ k, x.ownBlock = some k → v.ownBlock = some k ∨ w.heap.size ≤ k) :
    Inner w' B g cap many (us.set m x) fun i => if i = m then F m ++ [n] else F i := by
  have hgl : g < w.heap.size := own_lt h.row rfl
  have lt : ∀ (i : Nat) (u : Value), us[i]? = some u → ∀ k, u.ownBlock = some k → k < w.heap.size := fun i u hu k hk => by
    have hl : us.length = many := by have := h.row.1; omega
    have hi : i < many := by have := (List.getElem?_eq_some_iff.1 hu).1; omega
    obtain ⟨u', h1, h2⟩ := h.own i hi
    obtain rfl := Option.some.inj (h1.symm.trans hu)
    exact own_lt h2 hk
  have get : ∀ (i : Nat) (u : Value), (us.set m x)[i]? = some u → (i = m ∧ u = x) ∨ (i ≠ m ∧ us[i]? = some u) := fun i u hu => by
    rw [List.getElem?_set] at hu
    by_cases e : m = i
    · subst e
      rw [if_pos rfl] at hu
      split at hu
      · exact .inl ⟨rfl, (Option.some.inj hu).symm⟩
      · cases hu
    · rw [if_neg e] at hu
      exact .inr ⟨fun e2 => e e2.symm, hu⟩
  have xg : x.ownBlock ≠ some g := fun e => by
    rcases hat g e with h1 | h1
    · exact h.off m v hv h1
    · omega
  refine ⟨hrow, fun i hi => ?_, fun i j u u' hij h1 h2 k hk hk' => ?_, fun i u h1 hk => ?_⟩
  · by_cases e : i = m
    · subst e
      refine ⟨x, ?_, ?_⟩
      · have hl : us.length = many := by have := h.row.1; omega
        rw [List.getElem?_set, if_pos rfl, if_pos (by omega)]
      · simp only [if_pos]
        rw [natCells_snoc, List.length_append]
        exact hx
    · obtain ⟨u, h1, h2⟩ := h.own i hi
      refine ⟨u, by rw [List.getElem?_set, if_neg (fun e2 => e e2.symm)]; exact h1, ?_⟩
      rw [if_neg e]
      refine ⟨h2.1, ?_⟩
      rcases h2.2 with h0 | ⟨g', cap', cur, rfl, hb, hg, h3⟩
      · exact .inl h0
      · exact .inr ⟨g', cap', cur, rfl, hb, (hs g' (lt i _ h1 g' rfl) (fun e2 => h.off i _ h1 (congrArg some e2)) (fun e2 => h.apart i m _ v e h1 hv g' rfl e2)).trans hg, h3⟩
  · rcases get i u h1 with ⟨rfl, rfl⟩ | ⟨e1, h1'⟩
    · rcases get j u' h2 with ⟨rfl, rfl⟩ | ⟨e2, h2'⟩
      · exact hij rfl
      · rcases hat k hk with h3 | h3
        · exact h.apart i j v u' hij hv h2' k h3 hk'
        · have := lt j u' h2' k hk'; omega
    · rcases get j u' h2 with ⟨rfl, rfl⟩ | ⟨e2, h2'⟩
      · rcases hat k hk' with h3 | h3
        · exact h.apart i j u v hij h1' hv k hk h3
        · have := lt i u h1' k hk; omega
      · exact h.apart i j u u' hij h1' h2' k hk hk'
  · rcases get i u h1 with ⟨rfl, rfl⟩ | ⟨e1, h1'⟩
    · exact xg hk
    · exact h.off i u h1' hk
theorem Inner.rows {w : World} {B g cap many : Nat} {us : List Value} {F : Nat → List Nat} {N : Nat → Prop} (h : Inner w B g cap many us F) (hN : ∀ k, B ≤ k → k < w.heap.size → N k) : RowsAt w (.slice (some ⟨g, 0, none⟩) many cap) ((List.range many).map F) N := by
  refine ⟨_, cap, by simp, .inr ⟨g, 0, rfl, own_lt h.row rfl, hN g (h.row.lt g rfl).1 (h.row.lt g rfl).2, fun j l hj => ?_⟩⟩
  have hjm : j < many := by have := (List.getElem?_eq_some_iff.1 hj).1; simpa using this
  rw [List.getElem?_map, List.getElem?_range hjm] at hj
  obtain rfl := Option.some.inj hj
  obtain ⟨u, h1, h2⟩ := h.own j hjm
  refine ⟨u, ?_, .of_own h2, fun k hk => ⟨(h2.lt k hk).2, hN k (h2.lt k hk).1 (h2.lt k hk).2⟩⟩
  rw [Nat.zero_add, h.row.cellAt j (by omega), h1]
end Go.Proofs.YtgkpgjbgcimijaaDoor
