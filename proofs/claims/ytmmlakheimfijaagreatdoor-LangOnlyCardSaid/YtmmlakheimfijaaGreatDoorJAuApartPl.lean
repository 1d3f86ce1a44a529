/-
  Pairs of states that one text leads to, found in order of their texts: plain law. Conditions: both automata are right.
-/
import Derived.Test.YtmmlakheimfijaaGreatDoorJDfa
namespace Go.Proofs.YtmmlakheimfijaaGreatDoor
set_option linter.unusedVariables false
set_option linter.unusedSimpArgs false

/-! texts out of numbers -/
def txN (u : List Nat) : ByteArray := ⟨(u.map UInt8.ofNat).toArray⟩
theorem txN_size (u : List Nat) : (txN u).size = u.length := by show (u.map UInt8.ofNat).toArray.size = _; simp
theorem txN_bytes {u : List Nat} (h : Bytes u) : bytesTo (txN u) (txN u).size = u := by
  rw [txN_size]
  refine List.ext_getElem? fun j => ?_
  unfold bytesTo
  rw [List.getElem?_map]
  by_cases hj : j < u.length
  · rw [List.getElem?_range hj, List.getElem?_eq_getElem hj]
    simp only [Option.map_some]
    congr 1
    have hs : j < (txN u).size := by rw [txN_size]; exact hj
    rw [← byt_at (txN u) j hs]
    have e : (txN u)[j]'hs = UInt8.ofNat u[j] := by
      show (u.map UInt8.ofNat).toArray[j]'(by simpa using hj) = _
      simp
    rw [e]
    have := h _ (List.getElem_mem hj)
    simp [UInt8.toNat_ofNat']
    omega
  · rw [List.getElem?_eq_none (by simp; omega), List.getElem?_eq_none (by omega)]
    rfl
theorem txN_snoc (u : List Nat) (b : Nat) : txN (u ++ [b]) = txN u ++ ⟨#[UInt8.ofNat b]⟩ := by
  apply ByteArray.ext
  rw [ByteArray.data_append]
  simp [txN]

/-! the pairs -/
def pa (A B : DfaI) (u : List Nat) : Nat × Nat := (A.aut.at_ A.blk u, B.aut.at_ B.blk u)
def stp (A : DfaI) (p b : Nat) : Nat := A.aut.nx p (A.blk b)
theorem pa_snoc (A B : DfaI) (u : List Nat) (b : Nat) : pa A B (u ++ [b]) = (stp A (pa A B u).1 b, stp B (pa A B u).2 b) := by
  unfold pa stp
  rw [Aut.at_app, Aut.at_app]
structure PairsI (A B : DfaI) (Z : List (List Nat)) (i c : Nat) : Prop where
  bytes : ∀ u ∈ Z, Bytes u
  nodup : (Z.map (pa A B)).Nodup
  head : ∃ t, Z = [] :: t
  short : ∀ (j : Nat) (u : List Nat), Z[j]? = some u → u.length ≤ j
  fin : ∀ (j : Nat) (u : List Nat), j < i → Z[j]? = some u → langD A u = langD B u
  clo : ∀ (j : Nat) (u : List Nat) (b : Nat), (j < i ∨ (j = i ∧ b < c)) → b < 256 → Z[j]? = some u → pa A B (u ++ [b]) ∈ Z.map (pa A B)
section
variable {A B : DfaI} {Z : List (List Nat)} {i c : Nat}
theorem PairsI.start : PairsI A B [[]] 0 0 where
  bytes := fun u hu => by obtain rfl := List.mem_singleton.1 hu; exact .nil
  nodup := by simp
  head := ⟨[], rfl⟩
  short := fun j u hj => by
    obtain rfl := List.mem_singleton.1 (List.mem_of_getElem? hj)
    exact Nat.zero_le _
  fin := fun j u hj => by omega
  clo := fun j u b hj => by omega
theorem PairsI.old (h : PairsI A B Z i c) {u : List Nat} (hu : Z[i]? = some u) (ho : pa A B (u ++ [c]) ∈ Z.map (pa A B)) : PairsI A B Z i (c + 1) :=
  ⟨h.bytes, h.nodup, h.head, h.short, h.fin, fun j v b hj hb hv => by
      by_cases e : j = i ∧ b = c
      · obtain ⟨rfl, rfl⟩ := e
        rw [hu] at hv
        obtain rfl := Option.some.inj hv
        exact ho
      · exact h.clo j v b (by omega) hb hv⟩
theorem PairsI.new (h : PairsI A B Z i c) {u : List Nat} (hu : Z[i]? = some u) (hc : c < 256) (ho : ¬ pa A B (u ++ [c]) ∈ Z.map (pa A B)) : PairsI A B (Z ++ [u ++ [c]]) i (c + 1) := by
  have hi := (List.getElem?_eq_some_iff.1 hu).1
  have hat : ∀ {j : Nat} {v : List Nat}, j ≤ i → (Z ++ [u ++ [c]])[j]? = some v → Z[j]? = some v := fun {j v} hj hv => by
    rwa [List.getElem?_append_left (by omega)] at hv
  refine ⟨fun v hv => ?_, ?_, ?_, fun j v hj => ?_, fun j v hj hv => h.fin j v hj (hat (by omega) hv), fun j v b hj hb hv => ?_⟩
  · rcases List.mem_append.1 hv with hv | hv
    · exact h.bytes v hv
    · obtain rfl := List.mem_singleton.1 hv
      exact (h.bytes u (List.mem_of_getElem? hu)).app (.one hc)
  · rw [List.map_append, List.nodup_append]
    refine ⟨h.nodup, by simp, fun x hx y hy e => ?_⟩
    simp at hy
    subst hy
    subst e
    exact ho hx
  · obtain ⟨t, ht⟩ := h.head
    exact ⟨t ++ [u ++ [c]], by rw [ht]; rfl⟩
  · by_cases e : j < Z.length
    · rw [List.getElem?_append_left e] at hj
      exact h.short j v hj
    · rw [List.getElem?_append_right (by omega)] at hj
      have hz := List.mem_singleton.1 (List.mem_of_getElem? hj)
      subst hz
      have := h.short i u hu
      simp
      omega
  · rw [List.map_append, List.mem_append]
    by_cases e : j = i ∧ b = c
    · obtain ⟨rfl, rfl⟩ := e
      have := hat (Nat.le_refl _) hv
      rw [hu] at this
      obtain rfl := Option.some.inj this
      right; simp
    · left
      exact h.clo j v b (by omega) hb (hat (by omega) hv)
theorem PairsI.next (h : PairsI A B Z i 256) {u : List Nat} (hu : Z[i]? = some u) (hf : langD A u = langD B u) : PairsI A B Z (i + 1) 0 :=
  ⟨h.bytes, h.nodup, h.head, h.short, fun j v hj hv => by
      by_cases e : j = i
      · subst e
        rw [hu] at hv
        obtain rfl := Option.some.inj hv
        exact hf
      · exact h.fin j v (by omega) hv, fun j v b hj hb hv => h.clo j v b (by omega) hb hv⟩
theorem PairsI.all (h : PairsI A B Z Z.length 0) : ∀ (n : Nat) (w : List Nat), w.length = n → Bytes w → pa A B w ∈ Z.map (pa A B)
  | 0, w, hn, hw => by
    obtain rfl := List.eq_nil_of_length_eq_zero hn
    obtain ⟨t, ht⟩ := h.head
    rw [ht]; simp
  | n + 1, w, hn, hw => by
    have hne : w ≠ [] := by intro e; rw [e] at hn; cases hn
    have e : w = w.dropLast ++ [w.getLast hne] := (List.dropLast_concat_getLast hne).symm
    have hd : Bytes w.dropLast := fun b hb => hw b (List.dropLast_subset w hb)
    have hc := hw _ (List.getLast_mem hne)
    have ih := h.all n w.dropLast (by simp [hn]) hd
    obtain ⟨v, hv, hve⟩ := List.mem_map.1 ih
    obtain ⟨j, hj⟩ := List.getElem?_of_mem hv
    have := h.clo j v _ (.inl (List.getElem?_eq_some_iff.1 hj).1) hc hj
    rw [pa_snoc, hve, ← pa_snoc, ← e] at this
    exact this
theorem PairsI.end_ (h : PairsI A B Z Z.length 0) {u : List Nat} (hu : Bytes u) : langD A u = langD B u := by
  obtain ⟨v, hv, hve⟩ := List.mem_map.1 (h.all _ u rfl hu)
  obtain ⟨j, hj⟩ := List.getElem?_of_mem hv
  have := h.fin j v (List.getElem?_eq_some_iff.1 hj).1 hj
  unfold pa at hve
  injection hve with h1 h2
  unfold langD Aut.lang at this ⊢
  rw [← h1, ← h2]
  exact this
theorem PairsI.lt (h : PairsI A B Z i c) (hA : RightD A) (hB : RightD B) {u : List Nat} (hu : u ∈ Z) : (pa A B u).1 < A.next.length ∧ (pa A B u).2 < B.next.length := by
  have hb := h.bytes u hu
  have h1 := Aut.at_lt hA.ok hA.blk.1.blk hb
  have h2 := Aut.at_lt hB.ok hB.blk.1.blk hb
  have e1 : A.aut.many = A.next.length := A.nx_len
  have e2 : B.aut.many = B.next.length := B.nx_len
  rw [e1] at h1
  rw [e2] at h2
  exact ⟨h1, h2⟩
theorem PairsI.size (h : PairsI A B Z i c) (hA : RightD A) (hB : RightD B) (ha : A.next.length ≤ 200) (hb : B.next.length ≤ 200) : Z.length ≤ 40000 := by
  have := nodup_sub ((Z.map (pa A B)).map fun x => x.1 * 200 + x.2) (List.range 40000) ?_ ?_
  · simpa using this
  · rw [List.nodup_iff_pairwise_ne, List.pairwise_map]
    have hn := h.nodup
    rw [List.nodup_iff_pairwise_ne] at hn
    refine hn.imp_of_mem fun {x y} hx hy hne e => hne ?_
    obtain ⟨u, hu, rfl⟩ := List.mem_map.1 hx
    obtain ⟨v, hv, rfl⟩ := List.mem_map.1 hy
    have h1 := h.lt hA hB hu
    have h2 := h.lt hA hB hv
    generalize pa A B u = x at *
    generalize pa A B v = y at *
    obtain ⟨x1, x2⟩ := x
    obtain ⟨y1, y2⟩ := y
    simp only at e h1 h2
    have : x1 = y1 := by omega
    have : x2 = y2 := by omega
    simp_all
  · intro x hx
    obtain ⟨y, hy, rfl⟩ := List.mem_map.1 hx
    obtain ⟨u, hu, rfl⟩ := List.mem_map.1 hy
    have h1 := h.lt hA hB hu
    simp
    omega
end
/-- is the pair among the first k? -/
def oldP (A B : DfaI) (Z : List (List Nat)) (x : Nat × Nat) (k : Nat) : Bool := (Z.take k).any fun u => decide (pa A B u = x)
theorem oldP_succ (A B : DfaI) {Z : List (List Nat)} {k : Nat} {u : List Nat} (h : Z[k]? = some u) (x : Nat × Nat) : oldP A B Z x (k + 1) = (oldP A B Z x k || decide (pa A B u = x)) := by
  unfold oldP
  rw [List.take_add_one, h]
  simp
theorem oldP_all (A B : DfaI) (Z : List (List Nat)) (x : Nat × Nat) : oldP A B Z x Z.length = true ↔ x ∈ Z.map (pa A B) := by
  unfold oldP
  rw [List.take_length]
  simp
end Go.Proofs.YtmmlakheimfijaaGreatDoor
