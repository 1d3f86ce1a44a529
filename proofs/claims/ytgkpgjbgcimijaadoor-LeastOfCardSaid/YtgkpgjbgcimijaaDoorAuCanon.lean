/-
  The least automaton of a language of bytes, and that of an automaton: plain law. Conditions: the automaton is right; its blocks are reached.
-/
import Derived.Test.YtgkpgjbgcimijaaDoorAuBfs
import Derived.Test.YtgkpgjbgcimijaaDoorAuHop
namespace Go.Proofs.YtgkpgjbgcimijaaDoor
set_option linter.unusedVariables false
set_option linter.unusedSimpArgs false

abbrev Lang := List Nat → Bool
def Bytes (w : List Nat) : Prop := ∀ b ∈ w, b < 256
theorem Bytes.app {u v : List Nat} (hu : Bytes u) (hv : Bytes v) : Bytes (u ++ v) := fun b hb => (List.mem_append.1 hb).elim (hu b) (hv b)
theorem Bytes.one {b : Nat} (h : b < 256) : Bytes [b] := fun c hc => by obtain rfl := List.mem_singleton.1 hc; exact h
theorem Bytes.nil : Bytes [] := fun b hb => by cases hb
def EqL (L : Lang) (u v : List Nat) : Prop := ∀ w, Bytes w → L (u ++ w) = L (v ++ w)
def EqB (L : Lang) (b c : Nat) : Prop := ∀ u, Bytes u → EqL L (u ++ [b]) (u ++ [c])
open Classical in
noncomputable def eqL (L : Lang) (u v : List Nat) : Bool := decide (EqL L u v)
open Classical in
noncomputable def eqB (L : Lang) (b c : Nat) : Bool := decide (EqB L b c)
theorem eqL_iff {L : Lang} {u v : List Nat} : eqL L u v = true ↔ EqL L u v := by simp [eqL]
theorem eqB_iff {L : Lang} {b c : Nat} : eqB L b c = true ↔ EqB L b c := by simp [eqB]
theorem eqL_refl (L : Lang) (u : List Nat) : eqL L u u = true := eqL_iff.2 fun w _ => rfl
theorem eqB_refl (L : Lang) (b : Nat) : eqB L b b = true := eqB_iff.2 fun u _ w _ => rfl
/-- the bytes (hidden: the checker is not to count them) -/
noncomputable def byteN : Nat := Classical.choose (⟨256, rfl⟩ : ∃ n, n = 256)
theorem byteN_eq : byteN = 256 := Classical.choose_spec (⟨256, rfl⟩ : ∃ n, n = 256)
noncomputable def bytesL (L : Lang) : List Nat := (List.range byteN).foldl (addR (eqB L)) []
noncomputable def nextL (L : Lang) (u : List Nat) : List (List Nat) := (bytesL L).map fun b => u ++ [b]
/-- steps enough (hidden: the checker is not to count them) -/
noncomputable def fuelL : Nat := Classical.choose (⟨5000, rfl⟩ : ∃ n, n = 5000)
theorem fuelL_eq : fuelL = 5000 := Classical.choose_spec (⟨5000, rfl⟩ : ∃ n, n = 5000)
noncomputable def statesL (L : Lang) : List (List Nat) := bfs (addR (eqL L)) (nextL L) fuelL 0 [[]]
noncomputable def blockL (L : Lang) (b : Nat) : Nat := idxR (eqB L) (bytesL L) b
noncomputable def stepL (L : Lang) (i k : Nat) : Nat := idxR (eqL L) (statesL L) ((statesL L).getD i [] ++ [(bytesL L).getD k 0])
noncomputable def finL (L : Lang) (i : Nat) : Bool := L ((statesL L).getD i [])

theorem bytesL_in (L : Lang) : ∀ b ∈ bytesL L, b < 256 := foldR_in (S := fun b => b < 256) _ _ (fun b hb => by cases hb) fun b hb => by simpa [byteN_eq] using hb
theorem bytesL_any (L : Lang) {b : Nat} (hb : b < 256) : (bytesL L).any (eqB L b) = true := foldR_any (eqB_refl L) _ _ b (by simpa [byteN_eq] using hb)
theorem nextL_in (L : Lang) {u : List Nat} (hu : Bytes u) : ∀ v ∈ nextL L u, Bytes v := fun v hv => by
  obtain ⟨b, hb, rfl⟩ := List.mem_map.1 hv
  exact hu.app (.one (bytesL_in L b hb))
theorem statesL_in (L : Lang) : ∀ u ∈ statesL L, Bytes u := bfs_in (S := Bytes) (fun u hu => nextL_in L hu) _ _ _ fun u hu => by obtain rfl := List.mem_singleton.1 hu; exact .nil
theorem EqL.symm {L : Lang} {u v : List Nat} (h : EqL L u v) : EqL L v u := fun w hw => (h w hw).symm
theorem EqL.trans {L : Lang} {u v x : List Nat} (h : EqL L u v) (h' : EqL L v x) : EqL L u x := fun w hw => (h w hw).trans (h' w hw)
theorem EqL.app {L : Lang} {u v w : List Nat} (h : EqL L u v) (hw : Bytes w) : EqL L (u ++ w) (v ++ w) := fun x hx => by
  rw [List.append_assoc, List.append_assoc]; exact h _ (hw.app hx)

/-! an automaton over bytes -/
structure Aut.Blk (d : Aut) (blk : Nat → Nat) : Prop where
  lt : ∀ b, b < 256 → blk b < d.wide
  onto : ∀ k, k < d.wide → ∃ b, b < 256 ∧ blk b = k
namespace Aut
variable {d : Aut} {blk : Nat → Nat}
def at_ (d : Aut) (blk : Nat → Nat) (u : List Nat) : Nat := d.run d.start (u.map blk)
def lang (d : Aut) (blk : Nat → Nat) : Lang := fun u => d.fin (d.at_ blk u)
theorem word_of (hb : d.Blk blk) {u : List Nat} (hu : Bytes u) : d.Word (u.map blk) := fun k hk => by
  obtain ⟨b, h1, rfl⟩ := List.mem_map.1 hk
  exact hb.lt b (hu b h1)
theorem word_to (hb : d.Blk blk) : ∀ {ws : List Nat}, d.Word ws → ∃ u, Bytes u ∧ u.map blk = ws
  | [], _ => ⟨[], .nil, rfl⟩
  | k :: ws, h => by
    obtain ⟨u, h1, h2⟩ := word_to hb (ws := ws) fun j hj => h j (by simp [hj])
    obtain ⟨b, h3, h4⟩ := hb.onto k (h k (by simp))
    exact ⟨b :: u, fun c hc => by rcases List.mem_cons.1 hc with rfl | hc; exact h3; exact h1 c hc, by simp [h2, h4]⟩
theorem at_lt (hd : d.Ok) (hb : d.Blk blk) {u : List Nat} (hu : Bytes u) : d.at_ blk u < d.many := run_in hd _ _ hd.st (word_of hb hu)
theorem at_app (u : List Nat) (b : Nat) : d.at_ blk (u ++ [b]) = d.nx (d.at_ blk u) (blk b) := by simp [at_, run]
theorem eqv_at (hb : d.Blk blk) (u v : List Nat) : EqL (d.lang blk) u v ↔ d.Eqv (d.at_ blk u) (d.at_ blk v) := by
  constructor
  · intro h ws hw
    obtain ⟨w, h1, rfl⟩ := word_to hb hw
    have := h w h1
    simpa [lang, at_, run_app] using this
  · intro h w hw
    have := h _ (word_of hb hw)
    simpa [lang, at_, run_app] using this
theorem eqb_at (hb : d.Blk blk) (b c : Nat) : EqB (d.lang blk) b c ↔ ∀ u, Bytes u → d.Eqv (d.nx (d.at_ blk u) (blk b)) (d.nx (d.at_ blk u) (blk c)) := by
  unfold EqB
  constructor
  · intro h u hu
    have := (eqv_at hb _ _).1 (h u hu)
    rwa [at_app, at_app] at this
  · intro h u hu
    refine (eqv_at hb _ _).2 ?_
    rw [at_app, at_app]
    exact h u hu
/-- there are no more states than the automaton has -/
theorem states_le (hd : d.Ok) (hb : d.Blk blk) {l : List (List Nat)} (hl : ∀ u ∈ l, Bytes u) (ha : l.Pairwise fun a b => eqL (d.lang blk) b a = false) : l.length ≤ d.many := by
  have := nodup_sub (l.map (d.at_ blk)) (List.range d.many) ?_ ?_
  · simpa using this
  · rw [List.nodup_iff_pairwise_ne, List.pairwise_map]
    refine ha.imp fun {a b} h e => ?_
    have : EqL (d.lang blk) b a := (eqv_at hb b a).2 (by rw [e]; exact Eqv.refl _)
    rw [eqL_iff.2 this] at h
    cases h
  · intro n hn
    obtain ⟨u, hu, rfl⟩ := List.mem_map.1 hn
    simpa using at_lt hd hb (hl u hu)
theorem statesL_apart (L : Lang) : (statesL L).Pairwise fun a b => eqL L b a = false := bfs_apart _ _ _ _ (List.pairwise_singleton _ _)
theorem statesL_le (hd : d.Ok) (hb : d.Blk blk) : (statesL (d.lang blk)).length ≤ d.many := states_le hd hb (statesL_in _) (statesL_apart _)
end Aut

/-- the states are few -/
def Few (L : Lang) : Prop := (statesL L).length < 5000
theorem statesL_pre (L : Lang) : ∃ t, statesL L = [[]] ++ t := bfs_pre _ _ _ _ _
theorem statesL_pos (L : Lang) : 0 < (statesL L).length := by obtain ⟨t, ht⟩ := statesL_pre L; rw [ht]; simp
theorem statesL_handled {L : Lang} (h : Few L) : Handled (eqL L) (nextL L) (statesL L).length (statesL L) :=
  bfs_handled (eqL_refl L) _ _ _ _ (fun j x hj => by omega) (Nat.zero_le _) (by unfold Few statesL at h; rw [fuelL_eq] at h ⊢; omega)
theorem statesL_next {L : Lang} (h : Few L) {u : List Nat} (hu : u ∈ statesL L) {b : Nat} (hb : b ∈ bytesL L) : (statesL L).any (eqL L (u ++ [b])) = true := by
  obtain ⟨j, hj⟩ := List.getElem?_of_mem hu
  exact statesL_handled h j u (List.getElem?_eq_some_iff.1 hj).1 hj _ (List.mem_map.2 ⟨b, hb, rfl⟩)
/-- each word is alike to one of the states -/
theorem statesL_all {L : Lang} (h : Few L) : ∀ (n : Nat) (w : List Nat), w.length = n → Bytes w → ∃ u ∈ statesL L, EqL L w u
  | 0, w, hn, hw => by
    obtain rfl := List.eq_nil_of_length_eq_zero hn
    obtain ⟨t, ht⟩ := statesL_pre L
    exact ⟨[], by rw [ht]; simp, fun w _ => rfl⟩
  | n + 1, w, hn, hw => by
    have hne : w ≠ [] := fun e => by rw [e] at hn; cases hn
    have e : w = w.dropLast ++ [w.getLast hne] := (List.dropLast_concat_getLast hne).symm
    have hb : w.getLast hne < 256 := hw _ (List.getLast_mem hne)
    have hd : Bytes w.dropLast := fun b hb => hw b (List.dropLast_subset _ hb)
    obtain ⟨u, hu, hue⟩ := statesL_all h n w.dropLast (by simp [hn]) hd
    obtain ⟨c, hc, hce⟩ := List.any_eq_true.1 (bytesL_any L hb)
    obtain ⟨v, hv, hve⟩ := List.any_eq_true.1 (statesL_next h hu hc)
    refine ⟨v, hv, ?_⟩
    rw [e]
    exact (hue.app (.one hb)).trans ((eqB_iff.1 hce u (statesL_in L u hu)).trans (eqL_iff.1 hve))

/-- the least automaton -/
noncomputable def leastA (L : Lang) : Aut := { many := (statesL L).length, wide := (bytesL L).length, start := 0, fin := finL L, nx := stepL L }
theorem getD_mem {α : Type} {l : List α} {i : Nat} {a : α} (h : i < l.length) : l.getD i a ∈ l := by
  rw [List.getD_eq_getElem?_getD, List.getElem?_eq_getElem h]; exact List.getElem_mem h
theorem stepL_any {L : Lang} (h : Few L) {i k : Nat} (hi : i < (statesL L).length) (hk : k < (bytesL L).length) : (statesL L).any (eqL L ((statesL L).getD i [] ++ [(bytesL L).getD k 0])) = true :=
  statesL_next h (getD_mem hi) (getD_mem hk)
theorem stepL_lt {L : Lang} (h : Few L) {i k : Nat} (hi : i < (statesL L).length) (hk : k < (bytesL L).length) : stepL L i k < (statesL L).length := by
  have h1 := stepL_any h hi hk
  unfold stepL
  generalize (statesL L).getD i [] ++ [(bytesL L).getD k 0] = u at *
  generalize statesL L = o at *
  exact idxR_lt h1
theorem stepL_eq {L : Lang} (h : Few L) {i k : Nat} (hi : i < (statesL L).length) (hk : k < (bytesL L).length) : EqL L ((statesL L).getD i [] ++ [(bytesL L).getD k 0]) ((statesL L).getD (stepL L i k) []) := by
  have h1 := stepL_any h hi hk
  unfold stepL
  generalize (statesL L).getD i [] ++ [(bytesL L).getD k 0] = u at *
  generalize statesL L = o at *
  have h2 := idxR_lt h1
  refine eqL_iff.1 (idxR_at h1 ?_)
  rw [List.getD_eq_getElem?_getD, List.getElem?_eq_getElem h2]; rfl
theorem bytesL_pos (L : Lang) : 0 < (bytesL L).length := by
  have h := bytesL_any L (b := 0) (by omega)
  generalize bytesL L = o at *
  obtain ⟨x, hx, -⟩ := List.any_eq_true.1 h
  exact List.length_pos_of_mem hx
theorem leastA_ok {L : Lang} (h : Few L) : (leastA L).Ok :=
  { wide0 := bytesL_pos L
    st := statesL_pos L
    nxt := fun i k hi hk => stepL_lt h hi hk }
theorem blockL_lt (L : Lang) {b : Nat} (hb : b < 256) : blockL L b < (bytesL L).length := idxR_lt (bytesL_any L hb)
theorem blockL_at (L : Lang) {b : Nat} (hb : b < 256) : EqB L b ((bytesL L).getD (blockL L b) 0) := by
  have h1 := blockL_lt L hb
  refine eqB_iff.1 (idxR_at (bytesL_any L hb) ?_)
  rw [List.getD_eq_getElem?_getD, List.getElem?_eq_getElem h1]
  exact List.getElem?_eq_getElem h1
/-- where the least automaton is behind a word: at the state that is alike -/
theorem leastA_at {L : Lang} (h : Few L) : ∀ (n : Nat) (w : List Nat), w.length = n → Bytes w → (leastA L).at_ (blockL L) w < (statesL L).length ∧ EqL L w ((statesL L).getD ((leastA L).at_ (blockL L) w) [])
  | 0, w, hn, hw => by
    obtain rfl := List.eq_nil_of_length_eq_zero hn
    obtain ⟨t, ht⟩ := statesL_pre L
    refine ⟨statesL_pos L, ?_⟩
    show EqL L [] ((statesL L).getD 0 [])
    rw [ht]
    exact fun w _ => rfl
  | n + 1, w, hn, hw => by
    have hne : w ≠ [] := fun e => by rw [e] at hn; cases hn
    have e : w = w.dropLast ++ [w.getLast hne] := (List.dropLast_concat_getLast hne).symm
    have hb : w.getLast hne < 256 := hw _ (List.getLast_mem hne)
    have hd : Bytes w.dropLast := fun b hb => hw b (List.dropLast_subset _ hb)
    obtain ⟨h1, h2⟩ := leastA_at h n w.dropLast (by simp [hn]) hd
    rw [e, Aut.at_app]
    generalize w.dropLast = u at *
    generalize w.getLast hne = b at *
    generalize (leastA L).at_ (blockL L) u = i at *
    have hu := getD_mem (a := ([] : List Nat)) h1
    have hk := blockL_lt L hb
    exact ⟨stepL_lt h h1 hk, (h2.app (.one hb)).trans ((blockL_at L hb _ (statesL_in L _ hu)).trans (stepL_eq h h1 hk))⟩
theorem leastA_lang {L : Lang} (h : Few L) {w : List Nat} (hw : Bytes w) : (leastA L).lang (blockL L) w = L w := by
  have := (leastA_at h _ w rfl hw).2 [] .nil
  rw [List.append_nil, List.append_nil] at this
  exact this.symm
end Go.Proofs.YtgkpgjbgcimijaaDoor
