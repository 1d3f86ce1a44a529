/-
  Things met one by one, those that are alike only once: plain words. Conditions: each lemma says its own.
-/
import Derived.Test.YtgkpgjbgcimijaaDoorAuEqv
namespace Go.Proofs.YtgkpgjbgcimijaaDoor
set_option linter.unusedVariables false
set_option linter.unusedSimpArgs false

section
variable {α β : Type}
def addR (E : α → α → Bool) (o : List α) (x : α) : List α := if o.any (E x) = true then o else o ++ [x]
def idxR (E : α → α → Bool) (o : List α) (x : α) : Nat := o.findIdx (E x)
def bfs (add : List α → α → List α) (f : α → List α) : Nat → Nat → List α → List α
  | 0, _, o => o
  | n + 1, i, o => match o[i]? with
    | none => o
    | some x => bfs add f n (i + 1) ((f x).foldl add o)

theorem addR_pre (E : α → α → Bool) (o : List α) (x : α) : ∃ t, addR E o x = o ++ t := by
  unfold addR; split
  · exact ⟨[], by simp⟩
  · exact ⟨[x], rfl⟩
theorem foldR_pre (E : α → α → Bool) : ∀ (l o : List α), ∃ t, l.foldl (addR E) o = o ++ t
  | [], o => ⟨[], by simp⟩
  | x :: l, o => by
    obtain ⟨t, ht⟩ := addR_pre E o x
    obtain ⟨t', ht'⟩ := foldR_pre E l (addR E o x)
    exact ⟨t ++ t', by rw [List.foldl_cons, ht', ht, List.append_assoc]⟩
theorem bfs_pre (E : α → α → Bool) (f : α → List α) : ∀ (n i : Nat) (o : List α), ∃ t, bfs (addR E) f n i o = o ++ t
  | 0, i, o => ⟨[], by simp [bfs]⟩
  | n + 1, i, o => by
    rw [bfs]
    cases ho : o[i]? with
    | none => exact ⟨[], by simp⟩
    | some x =>
      simp only
      obtain ⟨t, ht⟩ := foldR_pre E (f x) o
      obtain ⟨t', ht'⟩ := bfs_pre E f n (i + 1) ((f x).foldl (addR E) o)
      exact ⟨t ++ t', by rw [ht', ht, List.append_assoc]⟩
/-- who was in is found again at the same place -/
theorem idxR_pre {E : α → α → Bool} {o : List α} {x : α} (t : List α) (h : o.any (E x) = true) : idxR E (o ++ t) x = idxR E o x := by
  have hl : o.findIdx (E x) < o.length := List.findIdx_lt_length.2 (by simpa using List.any_eq_true.1 h)
  unfold idxR
  rw [List.findIdx_append, if_pos hl]
theorem idxR_lt {E : α → α → Bool} {o : List α} {x : α} (h : o.any (E x) = true) : idxR E o x < o.length :=
  List.findIdx_lt_length.2 (by simpa using List.any_eq_true.1 h)
theorem idxR_at {E : α → α → Bool} {o : List α} {x y : α} (h : o.any (E x) = true) (hy : o[idxR E o x]? = some y) : E x y = true := by
  obtain ⟨h1, rfl⟩ := List.getElem?_eq_some_iff.1 hy
  exact List.findIdx_getElem (w := h1)
theorem idxR_new {E : α → α → Bool} {o : List α} {x : α} (hx : E x x = true) (t : List α) (h : ¬ o.any (E x) = true) : idxR E (o ++ x :: t) x = o.length := by
  have hl : o.findIdx (E x) = o.length := List.findIdx_eq_length.2 fun y hy => by
    cases he : E x y with
    | false => rfl
    | true => exact absurd (List.any_eq_true.2 ⟨y, hy, he⟩) h
  unfold idxR
  rw [List.findIdx_append, if_neg (by omega), List.findIdx_cons, hx]
  simp
theorem addR_any {E : α → α → Bool} {o : List α} {x : α} (hx : E x x = true) : (addR E o x).any (E x) = true := by
  unfold addR; split
  · assumption
  · simp [hx]
theorem any_pre {o : List α} {p : α → Bool} (t : List α) (h : o.any p = true) : (o ++ t).any p = true := by
  rw [List.any_append, h]; rfl
theorem foldR_any {E : α → α → Bool} (hE : ∀ x, E x x = true) : ∀ (l o : List α), ∀ x ∈ l, (l.foldl (addR E) o).any (E x) = true
  | y :: l, o, x, hx => by
    rw [List.foldl_cons]
    rcases List.mem_cons.1 hx with rfl | hx
    · obtain ⟨t, ht⟩ := foldR_pre E l (addR E o x)
      rw [ht]; exact any_pre t (addR_any (hE x))
    · exact foldR_any hE l _ x hx
/-- the first i are handled -/
def Handled (E : α → α → Bool) (f : α → List α) (i : Nat) (o : List α) : Prop := ∀ j x, j < i → o[j]? = some x → ∀ y ∈ f x, o.any (E y) = true
theorem Handled.pre {E : α → α → Bool} {f : α → List α} {i : Nat} {o : List α} (h : Handled E f i o) (hi : i ≤ o.length) (t : List α) : Handled E f i (o ++ t) := fun j x hj hx y hy => by
  rw [List.getElem?_append_left (by omega)] at hx
  exact any_pre t (h j x hj hx y hy)
theorem Handled.step {E : α → α → Bool} (hE : ∀ x, E x x = true) {f : α → List α} {i : Nat} {o : List α} {x : α} (h : Handled E f i o) (hx : o[i]? = some x) : Handled E f (i + 1) ((f x).foldl (addR E) o) := by
  have hi := (List.getElem?_eq_some_iff.1 hx).1
  obtain ⟨t, ht⟩ := foldR_pre E (f x) o
  intro j y hj hy z hz
  by_cases e : j = i
  · subst e
    rw [ht, List.getElem?_append_left hi, hx] at hy
    obtain rfl := Option.some.inj hy
    exact foldR_any hE _ _ z hz
  · rw [ht] at hy ⊢
    exact h.pre (by omega) t j y (by omega) hy z hz
/-- enough steps: all are handled -/
theorem bfs_handled {E : α → α → Bool} (hE : ∀ x, E x x = true) (f : α → List α) : ∀ (n i : Nat) (o : List α), Handled E f i o → i ≤ o.length → (bfs (addR E) f n i o).length < i + n →
    Handled E f (bfs (addR E) f n i o).length (bfs (addR E) f n i o)
  | 0, i, o, h, hi, hl => by simp [bfs] at hl; omega
  | n + 1, i, o, h, hi, hl => by
    rw [bfs] at hl ⊢
    cases ho : o[i]? with
    | none =>
      have := List.getElem?_eq_none_iff.1 ho
      obtain rfl : i = o.length := by omega
      exact h
    | some x =>
      rw [ho] at hl
      simp only at hl ⊢
      have hi' := (List.getElem?_eq_some_iff.1 ho).1
      obtain ⟨t, ht⟩ := foldR_pre E (f x) o
      exact bfs_handled hE f n (i + 1) _ (h.step hE ho) (by rw [ht]; simp; omega) (by omega)
/-- more steps change nothing -/
theorem bfs_more {add : List α → α → List α} (f : α → List α) : ∀ (n m i : Nat) (o : List α), (∀ l o : List α, o.length ≤ (l.foldl add o).length) → i ≤ o.length → (bfs add f n i o).length < i + n → bfs add f (n + m) i o = bfs add f n i o
  | 0, m, i, o, hadd, hi, hl => by simp [bfs] at hl; omega
  | n + 1, m, i, o, hadd, hi, hl => by
    rw [show n + 1 + m = (n + m) + 1 by omega, bfs, bfs]
    rw [bfs] at hl
    cases ho : o[i]? with
    | none => rfl
    | some x =>
      rw [ho] at hl
      simp only at hl ⊢
      have hi' := (List.getElem?_eq_some_iff.1 ho).1
      exact bfs_more f n m (i + 1) _ hadd (by have := hadd (f x) o; omega) (by omega)
theorem foldR_len (E : α → α → Bool) (l o : List α) : o.length ≤ (l.foldl (addR E) o).length := by
  obtain ⟨t, ht⟩ := foldR_pre E l o
  rw [ht]; simp

/-! the same, seen through a map -/
theorem addR_map {E : α → α → Bool} {E' : β → β → Bool} (g : α → β) {o : List α} {x : α} (h : ∀ y ∈ o, E x y = E' (g x) (g y)) : (addR E o x).map g = addR E' (o.map g) (g x) := by
  have : o.any (E x) = (o.map g).any (E' (g x)) := by
    rw [List.any_map]
    apply Bool.eq_iff_iff.2
    simp only [List.any_eq_true, Function.comp]
    exact ⟨fun ⟨y, h1, h2⟩ => ⟨y, h1, by rw [← h y h1]; exact h2⟩, fun ⟨y, h1, h2⟩ => ⟨y, h1, by rw [h y h1]; exact h2⟩⟩
  unfold addR
  rw [← this]
  split
  · rfl
  · simp
theorem addR_in {E : α → α → Bool} {S : α → Prop} {o : List α} {x : α} (ho : ∀ y ∈ o, S y) (hx : S x) : ∀ y ∈ addR E o x, S y := by
  unfold addR; split
  · exact ho
  · intro y hy
    rcases List.mem_append.1 hy with h | h
    · exact ho y h
    · obtain rfl := List.mem_singleton.1 h; exact hx
theorem foldR_in {E : α → α → Bool} {S : α → Prop} : ∀ (l o : List α), (∀ y ∈ o, S y) → (∀ y ∈ l, S y) → ∀ y ∈ l.foldl (addR E) o, S y
  | [], o, ho, _ => ho
  | x :: l, o, ho, hl => foldR_in l _ (addR_in ho (hl x (by simp))) fun y hy => hl y (by simp [hy])
theorem foldR_map {E : α → α → Bool} {E' : β → β → Bool} (g : α → β) {S : α → Prop} (h : ∀ x y, S x → S y → E x y = E' (g x) (g y)) : ∀ (l o : List α), (∀ y ∈ o, S y) → (∀ y ∈ l, S y) → (l.foldl (addR E) o).map g = (l.map g).foldl (addR E') (o.map g)
  | [], o, _, _ => rfl
  | x :: l, o, ho, hl => by
    have hx := hl x (by simp)
    rw [List.foldl_cons, List.map_cons, List.foldl_cons, foldR_map g h l _ (addR_in ho hx) fun y hy => hl y (by simp [hy]), addR_map g fun y hy => h x y hx (ho y hy)]
theorem bfs_in {E : α → α → Bool} {S : α → Prop} {f : α → List α} (hf : ∀ x, S x → ∀ y ∈ f x, S y) : ∀ (n i : Nat) (o : List α), (∀ y ∈ o, S y) → ∀ y ∈ bfs (addR E) f n i o, S y
  | 0, i, o, ho => ho
  | n + 1, i, o, ho => by
    rw [bfs]
    cases hx : o[i]? with
    | none => exact ho
    | some x => exact bfs_in hf n (i + 1) _ (foldR_in _ _ ho (hf x (ho x (List.mem_of_getElem? hx))))
theorem bfs_map {E : α → α → Bool} {E' : β → β → Bool} (g : α → β) {S : α → Prop} (h : ∀ x y, S x → S y → E x y = E' (g x) (g y)) {f : α → List α} {f' : β → List β} (hf : ∀ x, S x → ∀ y ∈ f x, S y) (hff : ∀ x, S x → (f x).map g = f' (g x)) :
    ∀ (n i : Nat) (o : List α), (∀ y ∈ o, S y) → (bfs (addR E) f n i o).map g = bfs (addR E') f' n i (o.map g)
  | 0, i, o, ho => rfl
  | n + 1, i, o, ho => by
    rw [bfs, bfs, List.getElem?_map]
    cases hx : o[i]? with
    | none => rfl
    | some x =>
      have hS := ho x (List.mem_of_getElem? hx)
      simp only [Option.map_some]
      rw [bfs_map g h hf hff n (i + 1) _ (foldR_in _ _ ho (hf x hS)), foldR_map g h _ _ ho (hf x hS), hff x hS]
theorem idxR_map {E : α → α → Bool} {E' : β → β → Bool} (g : α → β) {o : List α} {x : α} (h : ∀ y ∈ o, E x y = E' (g x) (g y)) : idxR E' (o.map g) (g x) = idxR E o x := by
  unfold idxR
  rw [List.findIdx_map]
  induction o with
  | nil => rfl
  | cons a o ih =>
    rw [List.findIdx_cons, List.findIdx_cons, ih fun y hy => h y (by simp [hy]), Function.comp, h a (by simp)]
/-- no two of them are alike -/
theorem addR_apart {E : α → α → Bool} {o : List α} {x : α} (h : o.Pairwise fun a b => E b a = false) : (addR E o x).Pairwise fun a b => E b a = false := by
  unfold addR; split
  · exact h
  · rename_i hx
    rw [List.pairwise_append]
    refine ⟨h, List.pairwise_singleton _ _, fun a ha b hb => ?_⟩
    obtain rfl := List.mem_singleton.1 hb
    cases he : E b a with
    | false => rfl
    | true => exact absurd (List.any_eq_true.2 ⟨a, ha, he⟩) hx
theorem foldR_apart {E : α → α → Bool} : ∀ (l o : List α), (o.Pairwise fun a b => E b a = false) → (l.foldl (addR E) o).Pairwise fun a b => E b a = false
  | [], o, h => h
  | x :: l, o, h => foldR_apart l _ (addR_apart h)
theorem bfs_apart {E : α → α → Bool} (f : α → List α) : ∀ (n i : Nat) (o : List α), (o.Pairwise fun a b => E b a = false) → (bfs (addR E) f n i o).Pairwise fun a b => E b a = false
  | 0, i, o, h => h
  | n + 1, i, o, h => by
    rw [bfs]
    cases hx : o[i]? with
    | none => exact h
    | some x => exact bfs_apart f n (i + 1) _ (foldR_apart _ _ h)
end
end Go.Proofs.YtgkpgjbgcimijaaDoor
