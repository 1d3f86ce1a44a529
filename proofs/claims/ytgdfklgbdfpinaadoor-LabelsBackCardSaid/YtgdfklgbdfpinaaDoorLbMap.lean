/-
  The map of places: how it reads, what a store makes of it; the sorted keys; what Of's map is, in plain words. Conditions: names no longer than a text can be.
-/
import Derived.Test.YtgdfklgbdfpinaaDoorLbGet
import Derived.Test.YtgdfklgbdfpinaaDoorLbIter
import Derived.Test.YtgdfklgbdfpinaaDoorChecked
import Derived.Lib.SmallJoins
import Derived.MapViews
import Derived.DeepKeys4
namespace Go.Proofs.YtgdfklgbdfpinaaDoor
set_option linter.unusedVariables false
set_option linter.unusedSimpArgs false
open Go.RowKit Go.Maps Go.Sort Go.ChangeShapes Go.WideShapes Go.Joins

theorem lawS : Keyed Tryd.prog 9 := string_keyed Tryd.underlying9
theorem str_key (s : ByteArray) (hs : s.size ≤ maxLen) : keyOf Tryd.prog 9 (.string s) = some (.string s.data.toList) := WideMaps.keyOf_string_mk Tryd.underlying9 hs
theorem zeroI (w : World) : (zeroValue 3).run Tryd.prog w = .ok (.int .i64 0) w := by kernel_rfl

def nm (x : Lab) : List UInt8 := x.1.data.toList
def names (l : List Lab) : List (List UInt8) := l.map nm
theorem nm_inj {a b : ByteArray} (h : a.data.toList = b.data.toList) : a = b := by rw [← txt_data a, ← txt_data b, h]
/-- the places of the names of the first labels -/
structure Places (D : DataW Unit) (l : List Lab) (j : Nat) : Prop where
  mem : ∀ x : List UInt8, has D (.string x) = decide (x ∈ names (l.take j))
  look : ∀ (x : List UInt8) (z : DataW Unit), x ∈ names (l.take j) → ∃ i : Nat, i < j ∧ D.atKey (.string x) z = .lit (.int .i64 i) ∧ ∃ y, l[i]? = some y ∧ nm y = x
  all : (names (l.take j)).Nodup → size D = j
  less : ¬ (names (l.take j)).Nodup → size D < j
theorem places_none (l : List Lab) : Places (.map []) l 0 :=
  ⟨fun x => by simp [names]; rfl, fun x z h => by simp [names] at h, fun _ => rfl, fun h => absurd (by simp [names]) h⟩
theorem names_next {l : List Lab} {j : Nat} {x : Lab} (h : l[j]? = some x) : names (l.take (j + 1)) = names (l.take j) ++ [nm x] := by
  rw [take_next h, names, List.map_append]; rfl
theorem Places.put {D : DataW Unit} {l : List Lab} {j : Nat} (h : Places D l j) (hT : Tidy D) {x : Lab} (hx : l[j]? = some x) (hs : x.1.size ≤ maxLen) :
    Places (D.put (.string x.1.data.toList) (.lit (.int .i64 j))) l (j + 1) := by
  have hM := hT.isMap
  have hk := lawS.key (str_key x.1 hs)
  have hhas : has D (.string x.1.data.toList) = decide (nm x ∈ names (l.take j)) := h.mem (nm x)
  have hsz := size_put (k := .string x.1.data.toList) hT (.lit (.int .i64 j))
  rw [hhas] at hsz
  have hnd : (names (l.take (j + 1))).Nodup ↔ (names (l.take j)).Nodup ∧ nm x ∉ names (l.take j) := by
    rw [names_next hx, List.nodup_append]
    constructor
    · rintro ⟨h1, _, h3⟩
      exact ⟨h1, fun hm => h3 _ hm _ (by simp) rfl⟩
    · rintro ⟨h1, h2⟩
      refine ⟨h1, by simp, fun a ha b hb e => ?_⟩
      simp at hb
      subst e
      subst hb
      exact h2 ha
  refine ⟨fun y => ?_, fun y z hy => ?_, fun hn => ?_, fun hn => ?_⟩
  · rw [names_next hx]
    by_cases e : y = nm x
    · subst e
      exact (has_put_same hM hk _).trans (by simp)
    · have hne : (Lit.string y) ≠ .string x.1.data.toList := fun e' => e (by injection e')
      rw [has_put_other hne, h.mem y]
      simp [e]
  · by_cases e : y = nm x
    · subst e
      exact ⟨j, by omega, atKey_put_same hM hk _ _, x, hx, rfl⟩
    · have hne : (Lit.string y) ≠ .string x.1.data.toList := fun e' => e (by injection e')
      rw [names_next hx] at hy
      have hy2 : y ∈ names (l.take j) := by simpa [e] using hy
      obtain ⟨i, hi, hat, hl⟩ := h.look y z hy2
      exact ⟨i, by omega, (atKey_put_other hne _ _).trans hat, hl⟩
  · obtain ⟨h1, h2⟩ := hnd.1 hn
    rw [decide_eq_false h2] at hsz
    have := h.all h1
    simp at hsz
    omega
  · by_cases h1 : (names (l.take j)).Nodup
    · have h2 : nm x ∈ names (l.take j) := Decidable.byContradiction fun h2 => hn (hnd.2 ⟨h1, h2⟩)
      rw [decide_eq_true h2] at hsz
      have := h.all h1
      simp at hsz
      omega
    · have := h.less h1
      split at hsz <;> omega
theorem place_look {w : World} {m k : Nat} {D : DataW Unit} {l : List Lab} {j : Nat} (h : w.ownsMap Tryd.prog 9 (plainElem Tryd.prog 3) m k D) (hs : Places D l j) (s : ByteArray) (hss : s.size ≤ maxLen) (hm : s.data.toList ∈ names (l.take j)) :
    ∃ (i : Nat) (y : Lab), i < j ∧ l[i]? = some y ∧ y.1 = s ∧ (Instr.lookup 43 (.map (some m)) (.string s) false).run Tryd.prog w = .ok (.int .i64 i) w := by
  obtain ⟨c, hrun, hat2, -⟩ := h.lookup_int lawS Tryd.underlying43 Tryd.underlying3 (zeroI w) (str_key s hss)
  obtain ⟨i, hi, hat, y, hy, hny⟩ := hs.look s.data.toList (.lit (.int .i64 0)) hm
  rw [hat] at hat2
  simp only [DataW.lit.injEq, Lit.int.injEq, true_and] at hat2
  rw [← hat2] at hrun
  exact ⟨i, y, hi, hy, nm_inj hny, hrun⟩

/-! the sorted keys -/
theorem lt_of_not {x y : List UInt8} (h : x ≤ y) (hne : x ≠ y) : x < y := by
  rcases cmpL_is x y with ⟨_, k⟩ | ⟨_, k⟩ | ⟨_, k⟩
  · exact k
  · exact absurd k hne
  · exact absurd k (List.not_lt.2 h)
theorem keys_sorted {w : World} {m k : Nat} {D : DataW Unit} {l : List Lab} (h : w.ownsMap Tryd.prog 9 (plainElem Tryd.prog 3) m k D) (hs : Places D l l.length) (hnd : (names l).Nodup) {ss : List (List UInt8)} (hp : ss.Perm (strKeys D)) :
    ss.length = l.length ∧ (ss.mergeSort (fun x y => decide (x ≤ y))).Pairwise (· < ·) ∧ ∀ x, x ∈ ss.mergeSort (fun x y => decide (x ≤ y)) ↔ x ∈ names l := by
  obtain ⟨es, hD, hpw⟩ := h.tidy lawS
  obtain ⟨es', hD', hko⟩ := h.keysOf
  rw [hD] at hD'
  obtain rfl : es = es' := by injection hD'
  have hperm : (names l).Perm (strKeys D) := by
    rw [hD]
    refine perm_strKeys hpw (fun p hp' => ?_) hnd (fun x => ?_)
    · obtain ⟨v, hv⟩ := hko p hp'
      obtain ⟨x, _, hx, _⟩ := Maps.keyOf_str Tryd.underlying9 hv
      exact ⟨x, hx⟩
    · rw [← hD, hs.mem x, List.take_of_length_le (Nat.le_refl _), decide_eq_true_eq]
  have hsn : ss.Perm (names l) := hp.trans hperm.symm
  have hms := List.mergeSort_perm ss (fun x y => decide (x ≤ y))
  have tr : ∀ a b c : List UInt8, leB a b = true → leB b c = true → leB a c = true := fun a b c h1 h2 => by simp only [leB, decide_eq_true_eq] at *; exact List.le_trans h1 h2
  have to : ∀ a b : List UInt8, (leB a b || leB b a) = true := fun a b => by simp only [leB, Bool.or_eq_true, decide_eq_true_eq]; exact List.le_total a b
  have hpw2 : (ss.mergeSort leB).Pairwise (fun a b => leB a b = true) := List.pairwise_mergeSort tr to ss
  have hnd2 : (ss.mergeSort leB).Nodup := ((hms.trans hsn).nodup_iff).2 hnd
  refine ⟨by rw [hsn.length_eq]; simp [names], ?_, fun x => (hms.trans hsn).mem_iff⟩
  refine (List.pairwise_and_iff.2 ⟨hpw2, hnd2⟩).imp fun {a b} hab => ?_
  exact lt_of_not (by simpa [leB] using hab.1) hab.2

/-! what Of's map is -/
def badB (x : Lab) : Bool := decide (oneE x ≠ 0)
def ofErr (l : List Lab) : Int := if 32 < l.length then 3 else match l.find? badB with
  | some x => oneE x
  | none => if (names l).Nodup then 0 else 5
structure IsOf (l out : List Lab) : Prop where
  sorted : out.Pairwise (fun a b => nm a < nm b)
  mem : ∀ x, x ∈ out ↔ x ∈ l ∧ x.2.size ≠ 0
theorem IsOf.unique {l a b : List Lab} (ha : IsOf l a) (hb : IsOf l b) : a = b := by
  have nd : ∀ {c : List Lab}, IsOf l c → c.Nodup := fun {c} h => h.sorted.imp fun {x y} hxy e => by subst e; exact List.lt_irrefl _ hxy
  have hp : a.Perm b := (List.perm_ext_iff_of_nodup (nd ha) (nd hb)).2 fun x => (ha.mem x).trans (hb.mem x).symm
  refine hp.eq_of_pairwise (le := fun x y => nm x < nm y) (fun x y _ _ h1 h2 => ?_) ha.sorted hb.sorted
  exact absurd (List.lt_trans h1 h2) (List.lt_irrefl _)
def pick (l : List Lab) (k : List UInt8) : Option Lab := match l.find? (fun y => decide (nm y = k)) with
  | some y => if y.2.size ≠ 0 then some y else none
  | none => none
theorem names_mem {l : List Lab} {k : List UInt8} : k ∈ names l ↔ ∃ x ∈ l, nm x = k := by simp [names]
theorem same_name {l : List Lab} (hnd : (names l).Nodup) {x y : Lab} (hx : x ∈ l) (hy : y ∈ l) (h : nm x = nm y) : x = y := by
  obtain ⟨i, hi⟩ := List.getElem?_of_mem hx
  obtain ⟨j, hj⟩ := List.getElem?_of_mem hy
  have h1 : (names l)[i]? = some (nm x) := by rw [names, List.getElem?_map, hi]; rfl
  have h2 : (names l)[j]? = some (nm y) := by rw [names, List.getElem?_map, hj]; rfl
  have hil : i < (names l).length := (List.getElem?_eq_some_iff.1 h1).1
  have : i = j := (List.getElem?_inj hil hnd).1 (by rw [h1, h2, h])
  subst this
  rw [hi] at hj
  exact Option.some.inj hj
theorem pick_at {l : List Lab} (hnd : (names l).Nodup) {y : Lab} (hy : y ∈ l) : pick l (nm y) = if y.2.size ≠ 0 then some y else none := by
  unfold pick
  cases hf : l.find? (fun z => decide (nm z = nm y)) with
  | none =>
    have := List.find?_eq_none.1 hf y hy
    simp at this
  | some z =>
    have hz := List.find?_some hf
    have hzl := List.mem_of_find?_eq_some hf
    obtain rfl := same_name hnd hzl hy (by simpa using hz)
    rfl
theorem pick_some {l : List Lab} {k : List UInt8} {x : Lab} (h : pick l k = some x) : x ∈ l ∧ nm x = k ∧ x.2.size ≠ 0 := by
  unfold pick at h
  cases hf : l.find? (fun z => decide (nm z = k)) with
  | none => rw [hf] at h; cases h
  | some z =>
    rw [hf] at h
    simp only at h
    split at h
    · obtain rfl := Option.some.inj h
      exact ⟨List.mem_of_find?_eq_some hf, by simpa using List.find?_some hf, by assumption⟩
    · cases h
theorem isOf_keys {l : List Lab} (hnd : (names l).Nodup) {ks : List (List UInt8)} (hs : ks.Pairwise (· < ·)) (hm : ∀ x, x ∈ ks ↔ x ∈ names l) : IsOf l (ks.filterMap (pick l)) := by
  refine ⟨?_, fun x => ?_⟩
  · refine List.pairwise_filterMap.2 (hs.imp fun {a b} hab x hx y hy => ?_)
    rw [(pick_some hx).2.1, (pick_some hy).2.1]
    exact hab
  · rw [List.mem_filterMap]
    constructor
    · rintro ⟨k, _, hk⟩
      exact ⟨(pick_some hk).1, (pick_some hk).2.2⟩
    · rintro ⟨hx, hv⟩
      exact ⟨nm x, (hm _).2 (names_mem.2 ⟨x, hx, rfl⟩), by rw [pick_at hnd hx, if_pos hv]⟩

/-! a list of labels as cells -/
def labCells (l : List Lab) : List Value := l.flatMap fun x => [.string x.1, .string x.2]
theorem labCells_snoc (l : List Lab) (x : Lab) : labCells (l ++ [x]) = labCells l ++ [.string x.1, .string x.2] := by simp [labCells]
theorem labCells_at : ∀ (l : List Lab) (j : Nat) (x : Lab), l[j]? = some x → (labCells l)[j * 2]? = some (.string x.1) ∧ (labCells l)[j * 2 + 1]? = some (.string x.2)
  | y :: l, 0, x, h => by
    simp at h
    subst h
    exact ⟨rfl, rfl⟩
  | y :: l, j + 1, x, h => by
    have h2 := labCells_at l j x (by simpa using h)
    have e : labCells (y :: l) = .string y.1 :: .string y.2 :: labCells l := rfl
    rw [e, show (j + 1) * 2 = j * 2 + 1 + 1 by omega]
    exact h2
theorem isLab_row {w : World} {base : Nat} {v : Value} {l : List Lab} (h : w.ownsRow base 42 2 v l.length (labCells l)) : ∃ A c, v = .slice A l.length c ∧ IsLab w w.heap.size A l := by
  rcases Nat.eq_zero_or_pos l.length with h0 | h0
  · obtain rfl := List.eq_nil_of_length_eq_zero h0
    rcases h.2 with ⟨rfl, _⟩ | ⟨g, cap, cur, rfl, _⟩
    · exact ⟨none, 0, rfl, .inl rfl⟩
    · exact ⟨_, _, rfl, .inl rfl⟩
  · obtain ⟨g, cap, hv, _, hlt⟩ := h.form h0
    subst hv
    refine ⟨_, _, rfl, .inr ⟨g, 0, rfl, hlt, fun j x hx => ?_⟩⟩
    obtain ⟨c0, c1⟩ := labCells_at l j x hx
    have k0 := h.cells (g := g) rfl _ _ c0
    have k1 := h.cells (g := g) rfl _ _ c1
    rw [Addr.add_lit] at k0 k1
    refine ⟨by simpa using k0, by simpa [Nat.add_assoc] using k1⟩
end Go.Proofs.YtgdfklgbdfpinaaDoor
