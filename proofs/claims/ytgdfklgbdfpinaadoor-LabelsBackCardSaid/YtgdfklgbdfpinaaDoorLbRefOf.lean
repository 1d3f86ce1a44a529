/-
  The walk of the reference's Of: the least name first, as long as there is one. Conditions: the labels lie as Go's; texts no longer than texts can be.
-/
import Derived.Test.YtgdfklgbdfpinaaDoorLbOf
namespace Go.Proofs.YtgdfklgbdfpinaaDoor
set_option linter.unusedVariables false
set_option linter.unusedSimpArgs false
open Go.RowKit Go.Maps Go.Sort Go.ChangeShapes Go.WideShapes

theorem lt_tri (x y : List UInt8) : x < y ∨ x = y ∨ y < x := by
  rcases cmpL_is x y with ⟨_, h⟩ | ⟨_, h⟩ | ⟨_, h⟩
  · exact .inl h
  · exact .inr (.inl h)
  · exact .inr (.inr h)
theorem lt_no {x y : List UInt8} (h : x < y) : ¬ y < x := fun h2 => List.lt_irrefl _ (List.lt_trans h h2)
/-- what was chosen up to a name -/
structure Sel (l : List Lab) (last : List UInt8) (ch : List Lab) : Prop where
  sorted : ch.Pairwise (fun a b => nm a < nm b)
  mem : ∀ x, x ∈ ch ↔ x ∈ l ∧ ¬ last < nm x
def keepL (ch : List Lab) : List Lab := ch.filter fun x => decide (x.2.size ≠ 0)
theorem Sel.start {l : List Lab} (h : ∀ x ∈ l, nm x ≠ []) : Sel l [] [] := by
  refine ⟨List.Pairwise.nil, fun x => ⟨fun hx => (by cases hx), fun hh => ?_⟩⟩
  exfalso
  rcases lt_tri [] (nm x) with h1 | h1 | h1
  · exact hh.2 h1
  · exact h x hh.1 h1.symm
  · exact List.not_lt_nil _ h1
theorem Sel.next {l : List Lab} {last : List UInt8} {ch : List Lab} (h : Sel l last ch) (hnd : (names l).Nodup) {y : Lab} (hy : y ∈ l) (hl : last < nm y) (hmin : ∀ x ∈ l, last < nm x → ¬ nm x < nm y) : Sel l (nm y) (ch ++ [y]) := by
  have below : ∀ x, ¬ last < nm x → nm x < nm y := fun x hx => by
    rcases lt_tri last (nm x) with h1 | h1 | h1
    · exact absurd h1 hx
    · rw [← h1]; exact hl
    · exact List.lt_trans h1 hl
  refine ⟨?_, fun x => ?_⟩
  · rw [List.pairwise_append]
    refine ⟨h.sorted, List.pairwise_singleton _ _, fun a ha b hb => ?_⟩
    simp at hb
    subst hb
    exact below a ((h.mem a).1 ha).2
  · rw [List.mem_append, h.mem x]
    constructor
    · rintro (⟨hx, hn⟩ | hx)
      · exact ⟨hx, lt_no (below x hn)⟩
      · simp at hx
        subst hx
        exact ⟨hy, List.lt_irrefl _⟩
    · rintro ⟨hx, hn⟩
      by_cases hlx : last < nm x
      · right
        rcases lt_tri (nm x) (nm y) with h1 | h1 | h1
        · exact absurd h1 (hmin x hx hlx)
        · simp [same_name hnd hx hy h1]
        · exact absurd h1 hn
      · exact .inl ⟨hx, hlx⟩
theorem Sel.isOf {l : List Lab} {last : List UInt8} {ch : List Lab} (h : Sel l last ch) (ha : ∀ x ∈ l, ¬ last < nm x) : IsOf l (keepL ch) := by
  refine ⟨h.sorted.filter _, fun x => ?_⟩
  rw [keepL, List.mem_filter, h.mem x, decide_eq_true_eq]
  exact ⟨fun ⟨⟨h1, _⟩, h3⟩ => ⟨h1, h3⟩, fun ⟨h1, h3⟩ => ⟨⟨h1, ha x h1⟩, h3⟩⟩
theorem Sel.full {l : List Lab} {last : List UInt8} {ch : List Lab} (h : Sel l last ch) (hnd : (names l).Nodup) (hn : ch.length = l.length) : ∀ x ∈ l, ¬ last < nm x := by
  have n1 : ch.Nodup := h.sorted.imp fun {x y} hxy e => by subst e; exact List.lt_irrefl _ hxy
  have n2 : l.Nodup := (List.pairwise_map.1 hnd).imp fun {a b} hab e => hab (by rw [e])
  have hp : ch.Perm (l.filter fun x => decide (¬ last < nm x)) := (List.perm_ext_iff_of_nodup n1 (n2.filter _)).2 fun x => by
    rw [h.mem x, List.mem_filter, decide_eq_true_eq]
  have hlen := hp.length_eq
  rw [hn] at hlen
  intro x hx
  have := List.length_filter_eq_length_iff.1 hlen.symm x hx
  exact of_decide_eq_true this
theorem keepL_snoc (ch : List Lab) (y : Lab) : keepL (ch ++ [y]) = if y.2.size ≠ 0 then keepL ch ++ [y] else keepL ch := by
  unfold keepL
  rw [List.filter_append]
  by_cases h : y.2.size ≠ 0
  · rw [if_pos h, List.filter_cons_of_pos (p := fun x : Lab => decide (x.2.size ≠ 0)) (decide_eq_true h)]; rfl
  · rw [if_neg h, List.filter_cons_of_neg (p := fun x : Lab => decide (x.2.size ≠ 0)) (by simpa only [decide_eq_true_eq] using h), List.filter_nil, List.append_nil]
theorem keepL_len (ch : List Lab) : (keepL ch).length ≤ ch.length := List.length_filter_le _ _
/-- the least one so far -/
def Best (l : List Lab) (last : List UInt8) (i : Nat) (b : Int) : Prop :=
  (b = -1 ∧ ∀ x ∈ l.take i, ¬ last < nm x) ∨ ∃ (k : Nat) (y : Lab), b = k ∧ l[k]? = some y ∧ last < nm y ∧ ∀ x ∈ l.take i, last < nm x → ¬ nm x < nm y
theorem mem_next {l : List Lab} {i : Nat} {x y : Lab} (h : l[i]? = some x) : y ∈ l.take (i + 1) ↔ y ∈ l.take i ∨ y = x := by
  rw [take_next h]; simp
theorem Best.pass {l : List Lab} {last : List UInt8} {i : Nat} {b : Int} {x : Lab} (h : Best l last i b) (hx : l[i]? = some x) (hn : ¬ last < nm x) : Best l last (i + 1) b := by
  rcases h with ⟨rfl, ha⟩ | ⟨k, y, rfl, hk, hy, ha⟩
  · exact .inl ⟨rfl, fun z hz => ((mem_next hx).1 hz).elim (ha z) (fun e => e ▸ hn)⟩
  · exact .inr ⟨k, y, rfl, hk, hy, fun z hz hl => ((mem_next hx).1 hz).elim (fun hz => ha z hz hl) (fun e => absurd (e ▸ hl) hn)⟩
theorem Best.first {l : List Lab} {last : List UInt8} {i : Nat} {x : Lab} (h : ∀ x ∈ l.take i, ¬ last < nm x) (hx : l[i]? = some x) (hn : last < nm x) : Best l last (i + 1) i :=
  .inr ⟨i, x, rfl, hx, hn, fun z hz hl => ((mem_next hx).1 hz).elim (fun hz => absurd hl (h z hz)) (fun e => e ▸ List.lt_irrefl _)⟩
theorem Best.better {l : List Lab} {last : List UInt8} {i : Nat} {x y : Lab} (h : ∀ z ∈ l.take i, last < nm z → ¬ nm z < nm y) (hx : l[i]? = some x) (hn : last < nm x) (hxy : nm x < nm y) : Best l last (i + 1) i :=
  .inr ⟨i, x, rfl, hx, hn, fun z hz hl => ((mem_next hx).1 hz).elim (fun hz h2 => h z hz hl (List.lt_trans h2 hxy)) (fun e => e ▸ List.lt_irrefl _)⟩
theorem Best.worse {l : List Lab} {last : List UInt8} {i k : Nat} {x y : Lab} (h : ∀ z ∈ l.take i, last < nm z → ¬ nm z < nm y) (hk : l[k]? = some y) (hy : last < nm y) (hx : l[i]? = some x) (hxy : ¬ nm x < nm y) : Best l last (i + 1) k :=
  .inr ⟨k, y, rfl, hk, hy, fun z hz hl => ((mem_next hx).1 hz).elim (fun hz => h z hz hl) (fun e => e ▸ hxy)⟩
theorem cmp_gt (a b : ByteArray) : decide (0 < cmpS a b) = decide (b.data.toList < a.data.toList) := by
  rw [← toList_data, ← toList_data]
  rcases cmpS_is a b with ⟨e, h⟩ | ⟨e, h⟩ | ⟨e, h⟩
  · rw [e, decide_eq_false (lt_no h)]; rfl
  · subst h; rw [e, decide_eq_false (List.lt_irrefl _)]; rfl
  · rw [e, decide_eq_true h]; rfl
theorem cmp_lt (a b : ByteArray) : decide (cmpS a b < 0) = decide (a.data.toList < b.data.toList) := by
  rw [← toList_data, ← toList_data]
  rcases cmpS_is a b with ⟨e, h⟩ | ⟨e, h⟩ | ⟨e, h⟩
  · rw [e, decide_eq_true h]; rfl
  · subst h; rw [e, decide_eq_false (List.lt_irrefl _)]; rfl
  · rw [e, decide_eq_false (lt_no h)]; rfl
theorem nodup_next {l : List Lab} {j : Nat} {x : Lab} (h : l[j]? = some x) : (names (l.take (j + 1))).Nodup ↔ (names (l.take j)).Nodup ∧ nm x ∉ names (l.take j) := by
  rw [names_next h, List.nodup_append]
  constructor
  · rintro ⟨h1, _, h3⟩
    exact ⟨h1, fun hm => h3 _ hm _ (by simp) rfl⟩
  · rintro ⟨h1, h2⟩
    refine ⟨h1, by simp, fun a ha b hb e => ?_⟩
    simp at hb
    subst e
    subst hb
    exact h2 ha
/-- is a name there twice? -/
def twiceB (l : List Lab) (i : Nat) : Bool := decide (¬ (names (l.take i)).Nodup)
theorem twice_next {l : List Lab} {j : Nat} {x : Lab} (h : l[j]? = some x) : twiceB l (j + 1) = (twiceB l j || decide (nm x ∈ names (l.take j))) := by
  unfold twiceB
  have := nodup_next h
  by_cases h1 : (names (l.take j)).Nodup <;> by_cases h2 : nm x ∈ names (l.take j) <;> simp [h1, h2, this]
end Go.Proofs.YtgdfklgbdfpinaaDoor
