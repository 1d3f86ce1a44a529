/-
  The least text of each state, met one by one: plain words. Conditions: each lemma says its own.
-/
import Derived.Test.YtmmlakheimfijaaGreatDoorJDfa
namespace Go.Proofs.YtmmlakheimfijaaGreatDoor
set_option linter.unusedVariables false
set_option linter.unusedSimpArgs false

/-- shortlex -/
def slx : List Nat → List Nat → Bool
  | u, v => decide (u.length < v.length) || (decide (u.length = v.length) && lexB u v)
where lexB : List Nat → List Nat → Bool
  | a :: u, b :: v => decide (a < b) || (decide (a = b) && lexB u v)
  | _, _ => false
theorem lexB_irrefl : ∀ u, slx.lexB u u = false
  | [] => rfl
  | a :: u => by simp [slx.lexB, lexB_irrefl u]
theorem lexB_app : ∀ (u v : List Nat) (a b : Nat), u.length = v.length → slx.lexB u v = true → slx.lexB (u ++ [a]) (v ++ [b]) = true
  | [], [], a, b, _, h => by simp [slx.lexB] at h
  | x :: u, y :: v, a, b, hl, h => by
    simp only [slx.lexB, Bool.or_eq_true, decide_eq_true_eq, Bool.and_eq_true, List.cons_append] at h ⊢
    rcases h with h | ⟨h, h'⟩
    · exact .inl h
    · exact .inr ⟨h, lexB_app u v a b (by simpa using hl) h'⟩
theorem lexB_last : ∀ (u : List Nat) (a b : Nat), a < b → slx.lexB (u ++ [a]) (u ++ [b]) = true
  | [], a, b, h => by simp [slx.lexB, h]
  | x :: u, a, b, h => by simp [slx.lexB, lexB_last u a b h]
theorem slx_iff {u v : List Nat} : slx u v = true ↔ u.length < v.length ∨ (u.length = v.length ∧ slx.lexB u v = true) := by
  unfold slx
  simp
theorem slx_app {u v : List Nat} (a b : Nat) (h : slx u v = true) : slx (u ++ [a]) (v ++ [b]) = true := by
  rw [slx_iff] at h ⊢
  rcases h with h | ⟨h, h'⟩
  · left; simp; omega
  · right; exact ⟨by simp [h], lexB_app u v a b h h'⟩
theorem slx_last (u : List Nat) {a b : Nat} (h : a < b) : slx (u ++ [a]) (u ++ [b]) = true := slx_iff.2 (.inr ⟨by simp, lexB_last u a b h⟩)
theorem slx_grow (u : List Nat) (a : Nat) : slx u (u ++ [a]) = true := slx_iff.2 (.inl (by simp))
theorem lexB_trans : ∀ {u v t : List Nat}, slx.lexB u v = true → slx.lexB v t = true → slx.lexB u t = true
  | a :: u, b :: v, c :: t, h, h' => by
    simp only [slx.lexB, Bool.or_eq_true, decide_eq_true_eq, Bool.and_eq_true] at h h' ⊢
    rcases h with h | ⟨rfl, h⟩
    · rcases h' with h' | ⟨rfl, h'⟩
      · left; omega
      · left; omega
    · rcases h' with h' | ⟨rfl, h'⟩
      · left; omega
      · right; exact ⟨rfl, lexB_trans h h'⟩
  | [], v, t, h, _ => by cases v <;> simp [slx.lexB] at h
  | _ :: _, [], t, h, _ => by simp [slx.lexB] at h
  | _ :: _, _ :: _, [], _, h' => by simp [slx.lexB] at h'
theorem slx_trans {u v t : List Nat} (h : slx u v = true) (h' : slx v t = true) : slx u t = true := by
  rw [slx_iff] at h h' ⊢
  rcases h with h | ⟨h, h1⟩
  · rcases h' with h' | ⟨h', _⟩ <;> (left; omega)
  · rcases h' with h' | ⟨h', h2⟩
    · left; omega
    · right; exact ⟨by omega, lexB_trans h1 h2⟩
theorem lexB_total : ∀ (u v : List Nat), u.length = v.length → slx.lexB u v = true ∨ u = v ∨ slx.lexB v u = true
  | [], [], _ => .inr (.inl rfl)
  | a :: u, b :: v, h => by
    simp only [slx.lexB, Bool.or_eq_true, decide_eq_true_eq, Bool.and_eq_true, List.cons.injEq]
    have ih := lexB_total u v (by simpa using h)
    by_cases h1 : a < b
    · exact .inl (.inl h1)
    · by_cases h2 : b < a
      · exact .inr (.inr (.inl h2))
      · have : a = b := by omega
        subst this
        rcases ih with ih | rfl | ih
        · exact .inl (.inr ⟨rfl, ih⟩)
        · exact .inr (.inl ⟨rfl, rfl⟩)
        · exact .inr (.inr (.inr ⟨rfl, ih⟩))
theorem slx_total (u v : List Nat) : slx u v = true ∨ u = v ∨ slx v u = true := by
  simp only [slx_iff]
  by_cases h1 : u.length < v.length
  · exact .inl (.inl h1)
  · by_cases h2 : v.length < u.length
    · exact .inr (.inr (.inl h2))
    · have h : u.length = v.length := by omega
      rcases lexB_total u v h with h' | h' | h'
      · exact .inl (.inr ⟨h, h'⟩)
      · exact .inr (.inl h')
      · exact .inr (.inr (.inr ⟨h.symm, h'⟩))
theorem slx_irrefl (u : List Nat) : slx u u = false := by
  cases h : slx u u with
  | false => rfl
  | true =>
    rcases slx_iff.1 h with h | ⟨_, h⟩
    · omega
    · rw [lexB_irrefl] at h; cases h

abbrev SW := Nat × List Nat
def eqS (a b : SW) : Bool := decide (a.1 = b.1)
def stepSW (f : Nat → Nat → Nat) (wide : Nat) (x : SW) : List SW := (List.range wide).map fun k => (f x.1 k, x.2 ++ [k])
def Srt (o : List SW) : Prop := o.Pairwise fun a b => slx a.2 b.2 = true
theorem addR_srt {o : List SW} {x : SW} (h : Srt o) (hx : ∀ y ∈ o, slx y.2 x.2 = true) : Srt (addR eqS o x) := by
  unfold addR
  split
  · exact h
  · exact List.pairwise_append.2 ⟨h, List.pairwise_singleton _ _, fun a ha b hb => by
      rw [List.mem_singleton.1 hb]; exact hx a ha⟩
theorem addR_memS {E : SW → SW → Bool} {o : List SW} {x y : SW} (h : y ∈ addR E o x) : y ∈ o ∨ y = x := by
  unfold addR at h
  split at h
  · exact .inl h
  · rcases List.mem_append.1 h with h | h
    · exact .inl h
    · exact .inr (List.mem_singleton.1 h)
theorem fold_srt (f : Nat → Nat → Nat) (x : SW) {o : List SW} (h : Srt o) (hx : ∀ y ∈ o, ∀ k, slx y.2 (x.2 ++ [k]) = true) :
    ∀ n, Srt ((stepSW f n x).foldl (addR eqS) o) ∧ ∀ y ∈ (stepSW f n x).foldl (addR eqS) o, y ∈ o ∨ ∃ k, k < n ∧ y = (f x.1 k, x.2 ++ [k])
  | 0 => ⟨by simpa [stepSW] using h, fun y hy => .inl (by simpa [stepSW] using hy)⟩
  | n + 1 => by
    have e : stepSW f (n + 1) x = stepSW f n x ++ [(f x.1 n, x.2 ++ [n])] := by simp [stepSW, List.range_succ]
    obtain ⟨h1, h2⟩ := fold_srt f x h hx n
    rw [e, List.foldl_append]
    refine ⟨addR_srt h1 fun y hy => ?_, fun y hy => ?_⟩
    · rcases h2 y hy with h3 | ⟨k, hk, rfl⟩
      · exact hx y h3 n
      · exact slx_last x.2 hk
    · rcases addR_memS hy with h3 | rfl
      · rcases h2 y h3 with h4 | ⟨k, hk, h4⟩
        · exact .inl h4
        · exact .inr ⟨k, by omega, h4⟩
      · exact .inr ⟨n, by omega, rfl⟩
def FromL (i : Nat) (o : List SW) : Prop := ∀ y ∈ o, y.2 = [] ∨ ∃ j x k, j < i ∧ o[j]? = some x ∧ y.2 = x.2 ++ [k]
theorem Srt.lt {o : List SW} (h : Srt o) {i j : Nat} {x y : SW} (hij : i < j) (hx : o[i]? = some x) (hy : o[j]? = some y) : slx x.2 y.2 = true := by
  obtain ⟨h1, rfl⟩ := List.getElem?_eq_some_iff.1 hx
  obtain ⟨h2, rfl⟩ := List.getElem?_eq_some_iff.1 hy
  exact List.pairwise_iff_getElem.1 h i j h1 h2 hij
theorem FromL.before {i : Nat} {o : List SW} (h : FromL i o) (hs : Srt o) {x : SW} (hx : o[i]? = some x) : ∀ y ∈ o, ∀ k, slx y.2 (x.2 ++ [k]) = true := fun y hy k => by
  rcases h y hy with h | ⟨j, z, k', hj, hz, h⟩
  · rw [h]; exact slx_iff.2 (.inl (by simp))
  · rw [h]; exact slx_app k' k (hs.lt hj hz hx)
theorem srt_step (f : Nat → Nat → Nat) (wide : Nat) {i : Nat} {o : List SW} (h : FromL i o) (hs : Srt o) {x : SW} (hx : o[i]? = some x) :
    FromL (i + 1) ((stepSW f wide x).foldl (addR eqS) o) ∧ Srt ((stepSW f wide x).foldl (addR eqS) o) := by
  obtain ⟨h1, h2⟩ := fold_srt f x hs (h.before hs hx) wide
  obtain ⟨t, ht⟩ := foldR_pre eqS (stepSW f wide x) o
  refine ⟨fun y hy => ?_, h1⟩
  have hi := (List.getElem?_eq_some_iff.1 hx).1
  have up : ∀ {j : Nat} {z : SW}, o[j]? = some z → ((stepSW f wide x).foldl (addR eqS) o)[j]? = some z := fun {j z} hz => by
    rw [ht, List.getElem?_append_left (List.getElem?_eq_some_iff.1 hz).1]; exact hz
  rcases h2 y hy with h3 | ⟨k, hk, rfl⟩
  · rcases h y h3 with h4 | ⟨j, z, k, hj, hz, h4⟩
    · exact .inl h4
    · exact .inr ⟨j, z, k, by omega, up hz, h4⟩
  · exact .inr ⟨i, x, k, by omega, up hx, rfl⟩
theorem srt_bfs (f : Nat → Nat → Nat) (wide : Nat) : ∀ (n i : Nat) (o : List SW), FromL i o → Srt o → Srt (bfs (addR eqS) (stepSW f wide) n i o)
  | 0, i, o, _, hs => hs
  | n + 1, i, o, h, hs => by
    rw [bfs]
    cases hx : o[i]? with
    | none => exact hs
    | some x =>
      obtain ⟨h1, h2⟩ := srt_step f wide h hs hx
      exact srt_bfs f wide n (i + 1) _ h1 h2
def LeAt (o : List SW) (q : Nat) (u : List Nat) : Prop := ∃ z ∈ o, z.1 = q ∧ (z.2 = u ∨ slx z.2 u = true)
theorem fold_le (f : Nat → Nat → Nat) (x : SW) {o : List SW} (h : Srt o) (hx : ∀ y ∈ o, ∀ k, slx y.2 (x.2 ++ [k]) = true) :
    ∀ n k, k < n → LeAt ((stepSW f n x).foldl (addR eqS) o) (f x.1 k) (x.2 ++ [k])
  | 0, k, hk => by omega
  | n + 1, k, hk => by
    have e : stepSW f (n + 1) x = stepSW f n x ++ [(f x.1 n, x.2 ++ [n])] := by simp [stepSW, List.range_succ]
    rw [e, List.foldl_append]
    show LeAt (addR eqS _ _) _ _
    by_cases hkn : k = n
    · subst hkn
      unfold addR
      split
      · rename_i ha
        obtain ⟨z, hz, hzq⟩ := List.any_eq_true.1 ha
        refine ⟨z, hz, (of_decide_eq_true hzq).symm, .inr ?_⟩
        rcases (fold_srt f x h hx k).2 z hz with h3 | ⟨j, hj, rfl⟩
        · exact hx z h3 k
        · exact slx_last x.2 hj
      · exact ⟨_, List.mem_append.2 (.inr (List.mem_singleton.2 rfl)), rfl, .inl rfl⟩
    · obtain ⟨z, hz, h1, h2⟩ := fold_le f x h hx n k (by omega)
      obtain ⟨t, ht⟩ := addR_pre eqS ((stepSW f n x).foldl (addR eqS) o) (f x.1 n, x.2 ++ [n])
      exact ⟨z, by rw [ht]; exact List.mem_append.2 (.inl hz), h1, h2⟩
theorem LeAt.pre {o : List SW} {q : Nat} {u : List Nat} (h : LeAt o q u) (t : List SW) : LeAt (o ++ t) q u :=
  let ⟨z, hz, h1⟩ := h
  ⟨z, List.mem_append.2 (.inl hz), h1⟩
def HLe (f : Nat → Nat → Nat) (wide i : Nat) (o : List SW) : Prop := ∀ j x, j < i → o[j]? = some x → ∀ k, k < wide → LeAt o (f x.1 k) (x.2 ++ [k])
theorem hle_bfs (f : Nat → Nat → Nat) (wide : Nat) : ∀ (n i : Nat) (o : List SW), HLe f wide i o → FromL i o → Srt o → i ≤ o.length → (bfs (addR eqS) (stepSW f wide) n i o).length < i + n →
    HLe f wide (bfs (addR eqS) (stepSW f wide) n i o).length (bfs (addR eqS) (stepSW f wide) n i o)
  | 0, i, o, h, h1, h2, hi, hl => by simp [bfs] at hl; omega
  | n + 1, i, o, h, h1, h2, hi, hl => by
    rw [bfs] at hl ⊢
    cases ho : o[i]? with
    | none =>
      have := List.getElem?_eq_none_iff.1 ho
      obtain rfl : i = o.length := by omega
      exact h
    | some x =>
      rw [ho] at hl
      simp only at hl ⊢
      have hi' := (List.getElem?_eq_some_iff.1 ho).1
      obtain ⟨s1, s2⟩ := srt_step f wide h1 h2 ho
      have hle := fold_le f x h2 (h1.before h2 ho) wide
      obtain ⟨t, ht⟩ := foldR_pre eqS (stepSW f wide x) o
      refine hle_bfs f wide n (i + 1) _ (fun j y hj hy k hk => ?_) s1 s2 (by rw [ht]; simp; omega) (by omega)
      by_cases e : j = i
      · subst e
        rw [ht, List.getElem?_append_left hi', ho] at hy
        cases hy
        exact hle k hk
      · rw [ht, List.getElem?_append_left (by omega)] at hy
        have := (h j y (by omega) hy k hk).pre t
        rwa [← ht] at this
theorem le_all (f : Nat → Nat → Nat) (wide s0 : Nat) {L : List SW} (hL : HLe f wide L.length L) (h0 : (s0, []) ∈ L) : ∀ (n : Nat) (ws : List Nat), ws.length = n → (∀ k ∈ ws, k < wide) → LeAt L (ws.foldl f s0) ws
  | 0, ws, hn, _ => by
    obtain rfl := List.eq_nil_of_length_eq_zero hn
    exact ⟨_, h0, rfl, .inl rfl⟩
  | n + 1, ws, hn, hw => by
    rcases List.eq_nil_or_concat ws with rfl | ⟨v, k, rfl⟩
    · simp at hn
    · rw [List.concat_eq_append] at hn hw ⊢
      obtain ⟨x, hx, h1, h2⟩ := le_all f wide s0 hL h0 n v (by simpa using hn) fun j hj => hw j (by simp [hj])
      obtain ⟨j, hj⟩ := List.getElem?_of_mem hx
      obtain ⟨z, hz, h3, h4⟩ := hL j x (List.getElem?_eq_some_iff.1 hj).1 hj k (hw k (by simp))
      refine ⟨z, hz, by rw [h3, h1]; simp, ?_⟩
      rcases h2 with h2 | h2
      · rw [h2] at h4; exact h4
      · have h5 := slx_app k k h2
        rcases h4 with h4 | h4
        · rw [h4]; exact .inr h5
        · exact .inr (slx_trans h4 h5)
theorem first_least {F : Nat → Bool} {L : List SW} (hs : Srt L) {z : SW} (hz : L.find? (fun z => F z.1) = some z) {q : Nat} {ws : List Nat} (h : LeAt L q ws) (hq : F q = true) : z.2 = ws ∨ slx z.2 ws = true := by
  obtain ⟨hzF, l1, l2, rfl, has⟩ := List.find?_eq_some_iff_append.1 hz
  obtain ⟨y, hy, rfl, h2⟩ := h
  have hp := (List.pairwise_append.1 hs).2.1
  rcases List.mem_append.1 hy with hy | hy
  · have := has y hy
    simp [hq] at this
  · rcases List.mem_cons.1 hy with rfl | hy
    · exact h2
    · have h3 := (List.pairwise_cons.1 hp).1 y hy
      rcases h2 with h2 | h2
      · rw [← h2]; exact .inr h3
      · exact .inr (slx_trans h3 h2)
theorem first_none {F : Nat → Bool} {L : List SW} (hz : L.find? (fun z => F z.1) = none) {q : Nat} {ws : List Nat} (h : LeAt L q ws) : F q = false := by
  obtain ⟨y, hy, rfl, -⟩ := h
  have := List.find?_eq_none.1 hz y hy
  simpa using this
/-- the least byte of a block -/
def fbyte (z : Nat → Int) (k : Nat) : Nat := (List.range 256).findIdx fun b => decide (blkF z b = k)
theorem fbyte_lt {z : Nat → Int} {wide : Nat} (h : BlkOk z wide) {k : Nat} (hk : k < wide) : fbyte z k < 256 ∧ blkF z (fbyte z k) = k := by
  obtain ⟨b, hb, hz⟩ := ok_onto (z := z) 256 k (by omega) (by have := h.wide; omega)
  have h1 : fbyte z k < (List.range 256).length := List.findIdx_lt_length.2 ⟨b, by simpa using hb, by simp [blkF, hz]⟩
  have h2 := List.findIdx_getElem (w := h1)
  simp at h1
  have h3 : ∀ (n i : Nat) (hi : i < (List.range n).length), (List.range n)[i] = i := fun n i hi => List.getElem_range hi
  have h4 := of_decide_eq_true h2
  exact ⟨h1, (congrArg (blkF z) (h3 256 _ _)).symm.trans h4⟩
theorem fbyte_le {z : Nat → Int} {b : Nat} (hb : b < 256) : fbyte z (blkF z b) ≤ b := by
  refine Nat.le_of_not_lt fun h => ?_
  have h1 := List.not_of_lt_findIdx h
  have h3 : ∀ (n i : Nat) (hi : i < (List.range n).length), (List.range n)[i] = i := fun n i hi => List.getElem_range hi
  rw [h3] at h1
  simp at h1
theorem fbyte_rise {z : Nat → Int} {wide : Nat} (h : BlkOk z wide) {k k' : Nat} (hk : k < k') (hk' : k' < wide) : fbyte z k < fbyte z k' := by
  obtain ⟨h1, h2⟩ := fbyte_lt h hk'
  obtain ⟨h3, h4⟩ := ok_at h.ok h1
  unfold blkF at h2
  obtain ⟨b, hb, hz⟩ := ok_onto (z := z) (fbyte z k') k (by omega) (by omega)
  have h5 := fbyte_le (z := z) (b := b) (by omega)
  have h6 : blkF z b = k := by unfold blkF; omega
  rw [h6] at h5
  omega
theorem lexB_map {g : Nat → Nat} {n : Nat} (hg : ∀ j k, j < k → k < n → g j < g k) : ∀ (u v : List Nat), (∀ k ∈ u, k < n) → (∀ k ∈ v, k < n) → slx.lexB u v = true → slx.lexB (u.map g) (v.map g) = true
  | a :: u, b :: v, hu, hv, h => by
    simp only [slx.lexB, Bool.or_eq_true, decide_eq_true_eq, Bool.and_eq_true, List.map_cons] at h ⊢
    rcases h with h | ⟨rfl, h⟩
    · exact .inl (hg a b h (hv b (by simp)))
    · exact .inr ⟨rfl, lexB_map hg u v (fun k hk => hu k (by simp [hk])) (fun k hk => hv k (by simp [hk])) h⟩
  | [], v, _, _, h => by cases v <;> simp [slx.lexB] at h
  | _ :: _, [], _, _, h => by simp [slx.lexB] at h
theorem slx_map {g : Nat → Nat} {n : Nat} (hg : ∀ j k, j < k → k < n → g j < g k) {u v : List Nat} (hu : ∀ k ∈ u, k < n) (hv : ∀ k ∈ v, k < n) (h : slx u v = true) : slx (u.map g) (v.map g) = true := by
  rw [slx_iff] at h ⊢
  simp only [List.length_map]
  rcases h with h | ⟨h, h'⟩
  · exact .inl h
  · exact .inr ⟨h, lexB_map hg u v hu hv h'⟩
theorem least_bytes {z : Nat → Int} : ∀ (u : List Nat), Bytes u → (u.map (blkF z)).map (fbyte z) = u ∨ slx.lexB ((u.map (blkF z)).map (fbyte z)) u = true
  | [], _ => .inl rfl
  | b :: u, hu => by
    have h1 := fbyte_le (z := z) (hu b (by simp))
    simp only [List.map_cons, slx.lexB, Bool.or_eq_true, decide_eq_true_eq, Bool.and_eq_true, List.cons.injEq]
    by_cases h2 : fbyte z (blkF z b) < b
    · exact .inr (.inl h2)
    · have h3 : fbyte z (blkF z b) = b := by omega
      rcases least_bytes u (fun c hc => hu c (by simp [hc])) with h | h
      · exact .inl ⟨h3, h⟩
      · exact .inr (.inr ⟨h3, h⟩)

/-! the states of an automaton, each with its least word -/
noncomputable def swD (d : Aut) : List SW := bfs (addR eqS) (stepSW d.nx d.wide) fuelL 0 [(d.start, [])]
theorem swD_in {d : Aut} : ∀ z ∈ swD d, d.Word z.2 ∧ d.run d.start z.2 = z.1 := by
  refine bfs_in (S := fun z : SW => d.Word z.2 ∧ d.run d.start z.2 = z.1) (fun x hx y hy => ?_) _ _ _ fun y hy => ?_
  · obtain ⟨k, hk, rfl⟩ := List.mem_map.1 hy
    refine ⟨fun j hj => ?_, by show d.run d.start (x.2 ++ [k]) = _; rw [Aut.run_app, hx.2]; rfl⟩
    rcases List.mem_append.1 hj with hj | hj
    · exact hx.1 j hj
    · obtain rfl := List.mem_singleton.1 hj
      simpa using hk
  · obtain rfl := List.mem_singleton.1 hy
    exact ⟨fun k hk => absurd hk List.not_mem_nil, rfl⟩
theorem swD_srt (d : Aut) : Srt (swD d) := srt_bfs _ _ _ _ _ (fun y hy => .inl (by rw [List.mem_singleton.1 hy])) (List.pairwise_singleton _ _)
theorem swD_states (d : Aut) : (swD d).map (·.1) = metD d := by
  unfold swD metD
  rw [metF_addR]
  have hf : ∀ x : SW, True → (stepSW d.nx d.wide x).map (fun z : SW => z.1) = (fun n => (List.range d.wide).map (d.nx n)) ((fun z : SW => z.1) x) := fun x _ => by
    simp only [stepSW, List.map_map]
    rfl
  exact bfs_map (E := eqS) (E' := fun a b : Nat => decide (a = b)) (fun z : SW => z.1) (S := fun _ => True) (fun x y _ _ => rfl) (f := stepSW d.nx d.wide) (f' := fun n => (List.range d.wide).map (d.nx n)) (fun x _ y _ => trivial) hf fuelL 0 [(d.start, [])] (fun y _ => trivial)
theorem swD_len {d : Aut} (hd : d.Ok) : (swD d).length ≤ d.many := by
  have := metD_len hd
  rw [← swD_states] at this
  simpa using this
theorem swD_le {d : Aut} (hd : d.Ok) (hm : d.many ≤ 4096) {ws : List Nat} (hw : d.Word ws) : LeAt (swD d) (d.run d.start ws) ws := by
  have hl := swD_len hd
  have hf := fuelL_eq
  have hh := hle_bfs d.nx d.wide fuelL 0 [(d.start, [])] (fun j x hj => by omega) (fun y hy => .inl (by rw [List.mem_singleton.1 hy])) (List.pairwise_singleton _ _) (by omega) (by
    show (swD d).length < _
    omega)
  refine le_all d.nx d.wide d.start hh ?_ ws.length ws rfl hw
  obtain ⟨t, ht⟩ := bfs_pre eqS (stepSW d.nx d.wide) fuelL 0 [(d.start, [])]
  rw [ht]
  simp
/-- the least text -/
def IsLeastT (L : Lang) (t : List Nat) : Prop := Bytes t ∧ L t = true ∧ ∀ u, Bytes u → L u = true → t = u ∨ slx t u = true
theorem IsLeastT.eq {L : Lang} {t u : List Nat} (h : IsLeastT L t) (h' : IsLeastT L u) : t = u := by
  rcases h.2.2 u h'.1 h'.2.1 with h1 | h1
  · exact h1
  · rcases h'.2.2 t h.1 h.2.1 with h2 | h2
    · exact h2.symm
    · have := slx_trans h1 h2
      rw [slx_irrefl] at this
      cases this
noncomputable def firstD (D : DfaI) : Option (List Nat) := ((swD D.aut).find? fun z => D.aut.fin z.1).map fun z => z.2.map (fbyte D.z)
theorem firstD_none {D : DfaI} (hR : RightD D) (h : firstD D = none) {u : List Nat} (hu : Bytes u) : langD D u = false := by
  have h1 : (swD D.aut).find? (fun z => D.aut.fin z.1) = none := by simpa [firstD] using h
  have hm : D.aut.many ≤ 4096 := by have := hR.m2; have := D.nx_len; show D.nx.length ≤ 4096; omega
  exact first_none h1 (swD_le hR.ok hm (Aut.word_of hR.blk.1.blk hu))
theorem fbyte_word {D : DfaI} (hR : RightD D) : ∀ {ws : List Nat}, D.aut.Word ws → Bytes (ws.map (fbyte D.z)) ∧ (ws.map (fbyte D.z)).map D.blk = ws
  | [], _ => ⟨fun b hb => absurd hb List.not_mem_nil, rfl⟩
  | k :: ws, h => by
    obtain ⟨h1, h2⟩ := fbyte_word hR (ws := ws) fun j hj => h j (by simp [hj])
    obtain ⟨h3, h4⟩ := fbyte_lt hR.blk.1 (h k (by simp))
    refine ⟨fun b hb => ?_, ?_⟩
    · rcases List.mem_cons.1 hb with rfl | hb
      · exact h3
      · exact h1 b hb
    · simp only [List.map_cons, h2]
      exact congrArg (· :: ws) h4
theorem firstD_some {D : DfaI} (hR : RightD D) {t : List Nat} (h : firstD D = some t) : IsLeastT (langD D) t := by
  obtain ⟨z, hz, rfl⟩ := Option.map_eq_some_iff.1 h
  have hm : D.aut.many ≤ 4096 := by have := hR.m2; have := D.nx_len; show D.nx.length ≤ 4096; omega
  obtain ⟨hw, hr⟩ := swD_in z (List.mem_of_find?_eq_some hz)
  obtain ⟨h1, h2⟩ := fbyte_word hR hw
  refine ⟨h1, ?_, fun u hu hl => ?_⟩
  · show D.aut.fin (D.aut.run D.aut.start ((z.2.map (fbyte D.z)).map D.blk)) = true
    rw [h2, hr]
    simpa using List.find?_some hz
  · have hwu := Aut.word_of hR.blk.1.blk hu
    have h3 : z.2 = u.map D.blk ∨ slx z.2 (u.map D.blk) = true := first_least (F := fun q => D.aut.fin q) (swD_srt _) hz (swD_le hR.ok hm hwu) hl
    have h4 : z.2.map (fbyte D.z) = (u.map D.blk).map (fbyte D.z) ∨ slx (z.2.map (fbyte D.z)) ((u.map D.blk).map (fbyte D.z)) = true := by
      rcases h3 with h3 | h3
      · exact .inl (by rw [h3])
      · exact .inr (slx_map (n := D.aut.wide) (fun j k hj hk => fbyte_rise hR.blk.1 hj hk) hw hwu h3)
    have h5 : (u.map D.blk).map (fbyte D.z) = u ∨ slx ((u.map D.blk).map (fbyte D.z)) u = true := by
      rcases least_bytes (z := D.z) u hu with h5 | h5
      · exact .inl h5
      · exact .inr (slx_iff.2 (.inr ⟨by simp, h5⟩))
    rcases h4 with h4 | h4
    · rw [h4]; exact h5
    · rcases h5 with h5 | h5
      · rw [h5] at h4; exact .inr h4
      · exact .inr (slx_trans h4 h5)
end Go.Proofs.YtmmlakheimfijaaGreatDoor
