/-
  The map of labels keeps what each name has; what is right is its own map: plain laws. Conditions: none but what each says.
-/
import Derived.Test.YtgdfklgbdfpinaaDoorLbMakes
namespace Go.Proofs.YtgdfklgbdfpinaaDoor
set_option linter.unusedVariables false
set_option linter.unusedSimpArgs false
open Go.RowKit Go.Sort

theorem ofErr_ok {l : List Lab} (h : ofErr l = 0) : l.length ≤ 32 ∧ (∀ x ∈ l, oneE x = 0) ∧ (names l).Nodup := by
  unfold ofErr at h
  by_cases h1 : 32 < l.length
  · rw [if_pos h1] at h; cases h
  rw [if_neg h1] at h
  cases hf : l.find? badB with
  | some x =>
    rw [hf] at h
    simp only at h
    have := List.find?_some hf
    rw [badB] at this
    exact absurd h (of_decide_eq_true this)
  | none =>
    rw [hf] at h
    simp only at h
    by_cases hn : (names l).Nodup
    · refine ⟨by omega, fun x hx => ?_, hn⟩
      have h2 := List.find?_eq_none.1 hf x hx
      simpa [badB] using h2
    · rw [if_neg hn] at h; cases h
theorem ofErr_zero {l : List Lab} (h1 : l.length ≤ 32) (h2 : ∀ x ∈ l, oneE x = 0) (h3 : (names l).Nodup) : ofErr l = 0 := by
  rw [ofErr, if_neg (by omega)]
  have : l.find? badB = none := List.find?_eq_none.2 fun x hx => by rw [badB, h2 x hx]; simp
  rw [this]
  exact if_pos h3
theorem getL_mem {l : List Lab} (hn : (names l).Nodup) {x : Lab} (hx : x ∈ l) : getL l x.1 = x.2 := by
  rw [getL]
  cases hf : l.find? (hasN x.1) with
  | none => exact absurd (List.find?_eq_none.1 hf x hx) (by simp [hasN])
  | some y =>
    have h1 := List.find?_some hf
    have h2 := List.mem_of_find?_eq_some hf
    have h3 : y.1 = x.1 := of_decide_eq_true h1
    rw [same_name hn h2 hx (by rw [nm, nm, h3])]
theorem getL_not {l : List Lab} {n : ByteArray} (h : ∀ x ∈ l, x.1 ≠ n) : getL l n = .empty := by
  rw [getL]
  have : l.find? (hasN n) = none := List.find?_eq_none.2 fun x hx => by rw [hasN, decide_eq_false (h x hx)]; simp
  rw [this]
theorem empty_of_zero {s : ByteArray} (h : s.size = 0) : s = .empty := by
  have h2 : s.data.toList.length = 0 := by rw [← size_list]; exact h
  have h3 := List.eq_nil_of_length_eq_zero h2
  rw [← txt_data s, h3]
  rfl
theorem keep_get {l m : List Lab} (hn : (names l).Nodup) (h : IsOf l m) (n : ByteArray) : getL m n = getL l n := by
  have hnm : (names m).Nodup := by
    rw [names, List.nodup_iff_pairwise_ne, List.pairwise_map]
    exact h.sorted.imp fun {x y} hxy e => by rw [e] at hxy; exact List.lt_irrefl _ hxy
  by_cases hx : ∃ x ∈ l, x.1 = n
  · obtain ⟨x, hx, rfl⟩ := hx
    rw [getL_mem hn hx]
    by_cases hz : x.2.size = 0
    · rw [empty_of_zero hz]
      refine getL_not fun y hy e => ?_
      have h2 := (h.mem y).1 hy
      have h3 := same_name hn h2.1 hx (by rw [nm, nm, e])
      subst h3
      exact h2.2 hz
    · exact getL_mem hnm ((h.mem x).2 ⟨hx, hz⟩)
  · rw [getL_not (l := l) fun x hx' e => hx ⟨x, hx', e⟩]
    exact getL_not fun y hy e => hx ⟨y, ((h.mem y).1 hy).1, e⟩
theorem keep_all {l m : List Lab} (h0 : ofErr l = 0) (h : IsOf l m) {x : Lab} (hx : x ∈ l) : getL m x.1 = x.2 := by
  rw [keep_get (ofErr_ok h0).2.2 h, getL_mem (ofErr_ok h0).2.2 hx]

/-! what is right -/
theorem rightK_zero (l : List Lab) : ∀ k i, rightK l k i = 0 ↔ ∀ j, i ≤ j → j < i + k → stepR l j = 0
  | 0, i => ⟨fun _ j h1 h2 => by omega, fun _ => rfl⟩
  | k + 1, i => by
    rw [rightK]
    by_cases h : stepR l i = 0
    · rw [if_pos h, rightK_zero l k (i + 1)]
      constructor
      · intro h2 j h3 h4
        by_cases e : j = i
        · subst e; exact h
        · exact h2 j (by omega) (by omega)
      · intro h2 j h3 h4
        exact h2 j (by omega) (by omega)
    · rw [if_neg h]
      exact ⟨fun h2 => absurd h2 h, fun h2 => absurd (h2 i (by omega) (by omega)) h⟩
theorem rightE_zero (l : List Lab) : rightE l = 0 ↔ l.length ≤ 32 ∧ ∀ j, j < l.length → stepR l j = 0 := by
  rw [rightE]
  by_cases h : 32 < l.length
  · rw [if_pos h]
    exact ⟨fun h2 => (by cases h2), fun h2 => (by omega)⟩
  · rw [if_neg h, rightK_zero]
    exact ⟨fun h2 => ⟨by omega, fun j hj => h2 j (by omega) (by omega)⟩, fun h2 j _ hj => h2.2 j (by omega)⟩
theorem stepR_zero {l : List Lab} {i : Nat} {x : Lab} (hx : l[i]? = some x) : stepR l i = 0 ↔ oneE x = 0 ∧ x.2.size ≠ 0 ∧ (∀ p, 0 < i → l[i - 1]? = some p → nm p < nm x) := by
  rw [stepR, hx]
  simp only
  by_cases h1 : oneE x ≠ 0
  · rw [if_pos h1]
    exact ⟨fun h => absurd h h1, fun h => absurd h.1 h1⟩
  rw [if_neg h1]
  have h1' : oneE x = 0 := by simpa using h1
  by_cases h2 : x.2.size = 0
  · rw [if_pos h2]
    exact ⟨fun h => (by cases h), fun h => absurd h2 h.2.1⟩
  rw [if_neg h2]
  by_cases h3 : i = 0
  · rw [if_pos h3]
    exact ⟨fun _ => ⟨h1', h2, fun p hp _ => by omega⟩, fun _ => rfl⟩
  rw [if_neg h3]
  have hi : i < l.length := (List.getElem?_eq_some_iff.1 hx).1
  have hp : l[i - 1]? = some (l[i - 1]'(by omega)) := List.getElem?_eq_getElem (by omega)
  generalize l[i - 1]'(by omega) = p at hp
  rw [hp]
  simp only
  have hc := cmpS_is p.1 x.1
  rw [toList_data, toList_data] at hc
  by_cases h4 : p.1 = x.1
  · rw [if_pos h4]
    refine ⟨fun h => (by cases h), fun h => ?_⟩
    have := h.2.2 p (by omega) rfl
    rw [nm, nm, h4] at this
    exact absurd this (List.lt_irrefl _)
  rw [if_neg h4]
  rcases hc with ⟨e, hlt⟩ | ⟨e, heq⟩ | ⟨e, hgt⟩
  · rw [if_neg (by rw [e]; decide)]
    exact ⟨fun _ => ⟨h1', h2, fun p' _ hp' => by obtain rfl := Option.some.inj hp'; exact hlt⟩, fun _ => rfl⟩
  · exact absurd (nm_inj (by first | exact heq | (rw [← toList_data, ← toList_data, heq]))) h4
  · rw [if_pos e]
    refine ⟨fun h => (by cases h), fun h => ?_⟩
    have := h.2.2 p (by omega) rfl
    exact absurd (List.lt_trans this hgt) (List.lt_irrefl _)
theorem right_sorted {l : List Lab} (h : rightE l = 0) : ∀ (d i : Nat) (x y : Lab), l[i]? = some x → l[i + (d + 1)]? = some y → nm x < nm y
  | 0, i, x, y, hx, hy => by
    have hj : i + 1 < l.length := (List.getElem?_eq_some_iff.1 hy).1
    exact ((stepR_zero hy).1 (((rightE_zero l).1 h).2 _ hj)).2.2 x (by omega) hx
  | d + 1, i, x, y, hx, hy => by
    have hj : i + (d + 1 + 1) < l.length := (List.getElem?_eq_some_iff.1 hy).1
    have hz : l[i + (d + 1)]? = some (l[i + (d + 1)]'(by omega)) := List.getElem?_eq_getElem (by omega)
    refine List.lt_trans (right_sorted h d i x _ hx hz) ?_
    exact ((stepR_zero hy).1 (((rightE_zero l).1 h).2 _ hj)).2.2 _ (by omega) hz
theorem right_of {l : List Lab} (h : rightE l = 0) : ofErr l = 0 ∧ IsOf l l := by
  obtain ⟨h1, h2⟩ := (rightE_zero l).1 h
  have hall : ∀ x ∈ l, oneE x = 0 ∧ x.2.size ≠ 0 := fun x hx => by
    obtain ⟨j, hj⟩ := List.getElem?_of_mem hx
    have := (stepR_zero hj).1 (h2 j (List.getElem?_eq_some_iff.1 hj).1)
    exact ⟨this.1, this.2.1⟩
  have hs : l.Pairwise (fun a b => nm a < nm b) := by
    rw [List.pairwise_iff_getElem]
    intro i j hi hj hij
    have := right_sorted h (j - i - 1) i (l[i]'hi) (l[j]'hj) (List.getElem?_eq_getElem hi) (by rw [show i + (j - i - 1 + 1) = j by omega]; exact List.getElem?_eq_getElem hj)
    exact this
  have hn : (names l).Nodup := by
    rw [names, List.nodup_iff_pairwise_ne, List.pairwise_map]
    exact hs.imp fun {x y} hxy e => by rw [e] at hxy; exact List.lt_irrefl _ hxy
  exact ⟨ofErr_zero h1 (fun x hx => (hall x hx).1) hn, hs, fun x => ⟨fun hx => ⟨hx, (hall x hx).2⟩, fun hx => hx.1⟩⟩
theorem of_right {l m : List Lab} (h : ofErr l = 0) (hm : IsOf l m) : rightE m = 0 := by
  obtain ⟨h1, h2, h3⟩ := ofErr_ok h
  rw [rightE_zero]
  refine ⟨by have := hm.len; omega, fun j hj => ?_⟩
  have hx : m[j]? = some (m[j]'hj) := List.getElem?_eq_getElem hj
  have hmem := (hm.mem _).1 (List.mem_of_getElem? hx)
  rw [stepR_zero hx]
  refine ⟨h2 _ hmem.1, hmem.2, fun p h0 hp => ?_⟩
  obtain ⟨hj1, rfl⟩ := List.getElem?_eq_some_iff.1 hp
  exact List.pairwise_iff_getElem.1 hm.sorted (j - 1) j hj1 hj (by omega)
end Go.Proofs.YtgdfklgbdfpinaaDoor
