/-
  Which automata have texts without bound: plain words. Conditions: the automaton is right.
-/
import Derived.Test.YtmmlakheimfijaaGreatDoorJLgFirstPl
namespace Go.Proofs.YtmmlakheimfijaaGreatDoor
set_option linter.unusedVariables false
set_option linter.unusedSimpArgs false

theorem pigeon {m : Nat} (f : Nat → Nat) (h : ∀ i, i ≤ m → f i < m) : ∃ i j, i < j ∧ j ≤ m ∧ f i = f j := by
  refine Classical.byContradiction fun hn => ?_
  have hnd : ((List.range (m + 1)).map f).Nodup := by
    rw [List.nodup_iff_pairwise_ne, List.pairwise_map]
    exact List.Pairwise.imp_of_mem (fun {a b} ha hb hab e => hn ⟨a, b, hab, by have := List.mem_range.1 hb; omega, e⟩) List.pairwise_lt_range
  have := nodup_sub _ (List.range m) hnd fun x hx => by
    obtain ⟨i, hi, rfl⟩ := List.mem_map.1 hx
    exact List.mem_range.2 (h i (by have := List.mem_range.1 hi; omega))
  simp at this
  omega
theorem at_cat {d : Aut} {blk : Nat → Nat} (u v : List Nat) : d.at_ blk (u ++ v) = d.run (d.at_ blk u) (v.map blk) := by simp [Aut.at_, Aut.run_app]
theorem Bytes.of_app {u v : List Nat} (h : Bytes (u ++ v)) : Bytes u ∧ Bytes v := ⟨fun b hb => h b (List.mem_append.2 (.inl hb)), fun b hb => h b (List.mem_append.2 (.inr hb))⟩
/-- texts without bound? -/
def FinL (L : Lang) : Prop := ∃ n, ∀ u, Bytes u → L u = true → u.length < n
section
variable {d : Aut} {blk : Nat → Nat}
theorem pump (hd : d.Ok) (hb : d.Blk blk) {u : List Nat} (hu : Bytes u) (hl : d.many ≤ u.length) :
    ∃ x y z, u = x ++ y ++ z ∧ 0 < y.length ∧ y.length ≤ d.many ∧ d.at_ blk (x ++ y) = d.at_ blk x := by
  obtain ⟨i, j, hij, hj, e⟩ := pigeon (m := d.many) (fun i => d.at_ blk (u.take i)) fun i hi => Aut.at_lt hd hb fun b hb => hu b (List.mem_of_mem_take hb)
  have h1 : u.take j = u.take i ++ (u.drop i).take (j - i) := by
    rw [← List.take_add]; congr 1; omega
  refine ⟨u.take i, (u.drop i).take (j - i), u.drop j, ?_, by simp; omega, by simp; omega, ?_⟩
  · rw [← h1, List.take_append_drop]
  · rw [← h1]; exact e.symm
theorem cut_one (hd : d.Ok) (hb : d.Blk blk) {u : List Nat} (hu : Bytes u) (hL : d.lang blk u = true) (hl : d.many ≤ u.length) :
    ∃ v, Bytes v ∧ d.lang blk v = true ∧ v.length < u.length ∧ u.length ≤ v.length + d.many := by
  obtain ⟨x, y, z, rfl, h1, h2, h3⟩ := pump hd hb hu hl
  refine ⟨x ++ z, (hu.of_app.1.of_app.1).app hu.of_app.2, ?_, by simp; omega, by simp; omega⟩
  unfold Aut.lang at hL ⊢
  rw [at_cat] at hL ⊢
  rw [← h3]; exact hL
theorem short_one (hd : d.Ok) (hb : d.Blk blk) : ∀ (n : Nat) (u : List Nat), u.length ≤ n → Bytes u → d.lang blk u = true → ∃ v, Bytes v ∧ d.lang blk v = true ∧ v.length < d.many
  | 0, u, hn, hu, hL => ⟨u, hu, hL, by have := hd.st; omega⟩
  | n + 1, u, hn, hu, hL => by
    by_cases h : u.length < d.many
    · exact ⟨u, hu, hL, h⟩
    · obtain ⟨v, h1, h2, h3, -⟩ := cut_one hd hb hu hL (by omega)
      exact short_one hd hb n v (by omega) h1 h2
theorem cut_to (hd : d.Ok) (hb : d.Blk blk) : ∀ (n : Nat) (u : List Nat), u.length ≤ n → Bytes u → d.lang blk u = true → d.many ≤ u.length → ∃ v, Bytes v ∧ d.lang blk v = true ∧ d.many ≤ v.length ∧ v.length < 2 * d.many
  | 0, u, hn, hu, hL, hl => by have := hd.st; omega
  | n + 1, u, hn, hu, hL, hl => by
    by_cases h : u.length < 2 * d.many
    · exact ⟨u, hu, hL, hl, h⟩
    · obtain ⟨v, h1, h2, h3, h4⟩ := cut_one hd hb hu hL hl
      exact cut_to hd hb n v (by omega) h1 h2 (by omega)
def repL (k : Nat) (y : List Nat) : List Nat := (List.replicate k y).flatten
theorem grow_one (hd : d.Ok) (hb : d.Blk blk) {u : List Nat} (hu : Bytes u) (hL : d.lang blk u = true) (hl : d.many ≤ u.length) (n : Nat) : ∃ v, Bytes v ∧ d.lang blk v = true ∧ n ≤ v.length := by
  obtain ⟨x, y, z, rfl, h1, h2, h3⟩ := pump hd hb hu hl
  have key : ∀ k, Bytes (x ++ repL k y) ∧ d.at_ blk (x ++ repL k y) = d.at_ blk x ∧ k ≤ (x ++ repL k y).length := by
    intro k
    induction k with
    | zero => exact ⟨by simpa [repL] using hu.of_app.1.of_app.1, by simp [repL], by simp⟩
    | succ k ih =>
      have e : x ++ repL (k + 1) y = (x ++ repL k y) ++ y := by simp [repL, List.replicate_succ']
      obtain ⟨i1, i2, i3⟩ := ih
      refine ⟨by rw [e]; exact i1.app hu.of_app.1.of_app.2, ?_, by rw [e, List.length_append]; omega⟩
      rw [e, at_cat, i2, ← at_cat, h3]
  obtain ⟨i1, i2, i3⟩ := key n
  refine ⟨x ++ repL n y ++ z, i1.app hu.of_app.2, ?_, by rw [List.length_append]; omega⟩
  unfold Aut.lang at hL ⊢
  rw [at_cat] at hL ⊢
  rw [i2, ← h3]; exact hL
theorem finL_iff (hd : d.Ok) (hb : d.Blk blk) : FinL (d.lang blk) ↔ ∀ u, Bytes u → d.lang blk u = true → ¬ (d.many ≤ u.length ∧ u.length < 2 * d.many) := by
  constructor
  · rintro ⟨n, h⟩ u hu hL ⟨h1, -⟩
    obtain ⟨v, h2, h3, h4⟩ := grow_one hd hb hu hL h1 n
    have := h v h2 h3
    omega
  · intro h
    refine ⟨d.many, fun u hu hL => ?_⟩
    refine Nat.lt_of_not_le fun hl => ?_
    obtain ⟨v, h1, h2, h3, h4⟩ := cut_to hd hb _ u (Nat.le_refl _) hu hL hl
    exact h v h1 h2 ⟨h3, h4⟩

/-! the reference: states behind texts of n bytes -/
def nowF (d : Aut) : Nat → Nat → Bool
  | 0, s => decide (s = d.start)
  | n + 1, m => (List.range d.many).any fun s => nowF d n s && (List.range d.wide).any fun k => decide (d.nx s k = m)
theorem nowF_iff (hd : d.Ok) (hb : d.Blk blk) : ∀ (n s : Nat), nowF d n s = true ↔ ∃ u, Bytes u ∧ u.length = n ∧ d.at_ blk u = s
  | 0, s => by
    simp only [nowF, decide_eq_true_eq]
    constructor
    · rintro rfl; exact ⟨[], .nil, rfl, rfl⟩
    · rintro ⟨u, -, h, rfl⟩
      obtain rfl := List.eq_nil_of_length_eq_zero h
      rfl
  | n + 1, m => by
    simp only [nowF, List.any_eq_true, Bool.and_eq_true, List.mem_range, decide_eq_true_eq]
    constructor
    · rintro ⟨s, hs, h1, k, hk, rfl⟩
      obtain ⟨u, hu, hl, rfl⟩ := (nowF_iff hd hb n s).1 h1
      obtain ⟨b, hb1, rfl⟩ := hb.onto k hk
      exact ⟨u ++ [b], hu.app (.one hb1), by simp [hl], Aut.at_app u b⟩
    · rintro ⟨u, hu, hl, rfl⟩
      rcases List.eq_nil_or_concat u with rfl | ⟨v, b, rfl⟩
      · cases hl
      · rw [List.concat_eq_append] at hu hl ⊢
        have hbb := hu b (by simp)
        exact ⟨d.at_ blk v, Aut.at_lt hd hb hu.of_app.1, (nowF_iff hd hb n _).2 ⟨v, hu.of_app.1, by simpa using hl, rfl⟩, blk b, hb.lt b hbb, (Aut.at_app v b).symm⟩
def badF (d : Aut) (n : Nat) : Bool := decide (d.many ≤ n) && (List.range d.many).any fun s => nowF d n s && d.fin s
def refFin (d : Aut) : Bool := !((List.range (2 * d.many)).any (badF d))
theorem refFin_iff (hd : d.Ok) (hb : d.Blk blk) : refFin d = true ↔ FinL (d.lang blk) := by
  rw [finL_iff hd hb]
  simp only [refFin, badF, Bool.not_eq_true', List.any_eq_false, List.mem_range, Bool.and_eq_true, decide_eq_true_eq, List.any_eq_true, not_and, not_exists]
  constructor
  · intro h u hu hL h1 h2
    exact h u.length h2 h1 _ (Aut.at_lt hd hb hu) ((nowF_iff hd hb _ _).2 ⟨u, hu, rfl, rfl⟩) hL
  · intro h n hn h1 s hs h2 h3
    obtain ⟨u, hu, rfl, rfl⟩ := (nowF_iff hd hb n s).1 h2
    exact h u hu h3 h1 hn

/-! what leads to a state that takes -/
def Useful (d : Aut) (p : Nat) : Prop := ∃ ws, d.Word ws ∧ d.fin (d.run p ws) = true
theorem Useful.back {p k : Nat} (hk : k < d.wide) (h : Useful d (d.nx p k)) : Useful d p := by
  obtain ⟨ws, hw, h⟩ := h
  exact ⟨k :: ws, fun j hj => by rcases List.mem_cons.1 hj with rfl | hj; exact hk; exact hw j hj, h⟩
theorem Useful.step {p : Nat} (h : Useful d p) : d.fin p = true ∨ ∃ k, k < d.wide ∧ Useful d (d.nx p k) := by
  obtain ⟨ws, hw, h⟩ := h
  cases ws with
  | nil => exact .inl h
  | cons k ws => exact .inr ⟨k, hw k (by simp), ws, fun j hj => hw j (by simp [hj]), h⟩
theorem Useful.text (hb : d.Blk blk) {u : List Nat} (hu : Bytes u) (h : Useful d (d.at_ blk u)) : ∃ v, Bytes v ∧ d.lang blk (u ++ v) = true := by
  obtain ⟨ws, hw, h⟩ := h
  obtain ⟨v, hv, rfl⟩ := Aut.word_to hb hw
  exact ⟨v, hv, by unfold Aut.lang; rw [at_cat]; exact h⟩
theorem Useful.of_text (hb : d.Blk blk) {u v : List Nat} (hv : Bytes v) (h : d.lang blk (u ++ v) = true) : Useful d (d.at_ blk u) := by
  unfold Aut.lang at h
  rw [at_cat] at h
  exact ⟨_, Aut.word_of hb hv, h⟩
/-- a table that holds the states that take, lies below, and is closed: it is the useful ones -/
theorem useful_closed (hd : d.Ok) {o : Nat → Bool} (h0 : ∀ p, p < d.many → d.fin p = true → o p = true) (h1 : ∀ p, p < d.many → o p = true → Useful d p) (h2 : ∀ p k, p < d.many → k < d.wide → o (d.nx p k) = true → o p = true) {p : Nat} (hp : p < d.many) :
    o p = true ↔ Useful d p := by
  refine ⟨h1 p hp, ?_⟩
  rintro ⟨ws, hw, h⟩
  induction ws generalizing p with
  | nil => exact h0 p hp h
  | cons k ws ih =>
    have hk := hw k (by simp)
    exact h2 p k hp hk (ih (hd.nxt p k hp hk) (fun j hj => hw j (by simp [hj])) h)
end
end Go.Proofs.YtmmlakheimfijaaGreatDoor
