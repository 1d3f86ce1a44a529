/-
  What the program's way of making the least automaton makes is the canonical one: plain law. Conditions: classes that tell states apart as words do.
-/
import Derived.Test.YtgkpgjbgcimijaaDoorAuCanon
import Derived.Test.YtgkpgjbgcimijaaDoorAuHop2
import Derived.Test.YtgkpgjbgcimijaaDoorBlMath
namespace Go.Proofs.YtgkpgjbgcimijaaDoor
set_option linter.unusedVariables false
set_option linter.unusedSimpArgs false

/-! blocks that are numbered by their least bytes -/
section
variable {z : Nat → Int}
theorem top_le {a b : Nat} (h : a ≤ b) : Bl.top z a ≤ Bl.top z b := by
  induction b with
  | zero => have : a = 0 := by omega
            subst this; exact Int.le_refl _
  | succ b ih =>
    by_cases e : a = b + 1
    · subst e; exact Int.le_refl _
    · have := ih (by omega)
      rw [Bl.top_succ]
      split <;> omega
theorem ok_at {n j : Nat} (h : Bl.okTo z n = true) (hj : j < n) : 0 ≤ z j ∧ z j ≤ Bl.top z j := by
  have h1 := Bl.okTo_of_le z (show j + 1 ≤ n by omega) h
  rw [Bl.okTo_succ] at h1
  simp at h1
  omega
theorem ok_lt {n j : Nat} (h : Bl.okTo z n = true) (hj : j < n) : z j < Bl.top z n := by
  have h1 := ok_at h hj
  have h2 : Bl.top z (j + 1) ≤ Bl.top z n := top_le (by omega)
  rw [Bl.top_succ] at h2
  split at h2 <;> omega
theorem ok_onto : ∀ (n : Nat) (k : Int), 0 ≤ k → k < Bl.top z n → ∃ b, b < n ∧ z b = k
  | 0, k, h0, h1 => by have : Bl.top z 0 = 0 := rfl
                       omega
  | n + 1, k, h0, h1 => by
    rw [Bl.top_succ] at h1
    split at h1
    · by_cases e : k = z n
      · exact ⟨n, by omega, e.symm⟩
      · obtain ⟨b, hb, hz⟩ := ok_onto n k h0 (by omega)
        exact ⟨b, by omega, hz⟩
    · obtain ⟨b, hb, hz⟩ := ok_onto n k h0 h1
      exact ⟨b, by omega, hz⟩
theorem ok_fold {E : Nat → Nat → Bool} (hE : ∀ x, E x x = true) : ∀ n, Bl.okTo z n = true → ((List.range n).map fun b => (z b).toNat).foldl (addR E) [] = (List.range (Bl.top z n).toNat).foldl (addR E) []
  | 0, _ => rfl
  | n + 1, h => by
    have h1 := ok_at h (show n < n + 1 by omega)
    have h2 := Bl.top_nonneg z n
    have ih := ok_fold hE n (Bl.okTo_of_le z (Nat.le_succ _) h)
    rw [List.range_succ, List.map_append, List.foldl_append, ih, Bl.top_succ]
    simp only [List.map_cons, List.map_nil, List.foldl_cons, List.foldl_nil]
    by_cases e : z n = Bl.top z n
    · rw [if_pos e, e, show (Bl.top z n + 1).toNat = (Bl.top z n).toNat + 1 by omega, List.range_succ, List.foldl_append]
      rfl
    · rw [if_neg e]
      have := foldR_any hE (List.range (Bl.top z n).toNat) [] (z n).toNat (by simp; omega)
      rw [addR, if_pos this]
end
/-- right blocks, in plain words -/
structure BlkOk (z : Nat → Int) (wide : Nat) : Prop where
  ok : Bl.okTo z 256 = true
  wide : (wide : Int) = Bl.top z 256
def blkF (z : Nat → Int) (b : Nat) : Nat := (z b).toNat
theorem BlkOk.blk {z : Nat → Int} {d : Aut} (h : BlkOk z d.wide) : d.Blk (blkF z) where
  lt := fun b hb => by
    have h1 := ok_lt h.ok hb
    have h2 := ok_at h.ok hb
    have := h.wide
    unfold blkF; omega
  onto := fun k hk => by
    obtain ⟨b, hb, hz⟩ := ok_onto (z := z) 256 k (by omega) (by have := h.wide; omega)
    exact ⟨b, hb, by unfold blkF; omega⟩
theorem addN_addR (o : List Nat) (x : Nat) : addN o x = addR (fun a b => decide (a = b)) o x := by
  unfold addN addR
  have : (o.any fun b => decide (x = b)) = true ↔ x ∈ o := by simp
  by_cases h : x ∈ o
  · rw [if_pos h, if_pos (this.2 h)]
  · rw [if_neg h, if_neg fun h2 => h (this.1 h2)]
theorem addN_eq : addN = addR (fun a b => decide (a = b)) := funext fun o => funext fun x => addN_addR o x

/-- states that are reached -/
def Reach (d : Aut) (p : Nat) : Prop := ∃ ws, d.Word ws ∧ d.run d.start ws = p
theorem Reach.lt {d : Aut} (hd : d.Ok) {p : Nat} (h : Reach d p) : p < d.many := by
  obtain ⟨ws, hw, rfl⟩ := h
  exact Aut.run_in hd ws _ hd.st hw
theorem Reach.nx {d : Aut} {p k : Nat} (h : Reach d p) (hk : k < d.wide) : Reach d (d.nx p k) := by
  obtain ⟨ws, hw, rfl⟩ := h
  exact ⟨ws ++ [k], fun j hj => by rcases List.mem_append.1 hj with hj | hj; exact hw j hj; obtain rfl := List.mem_singleton.1 hj; exact hk, by rw [Aut.run_app]; rfl⟩
theorem Reach.start (d : Aut) : Reach d d.start := ⟨[], ⟨fun k hk => (List.not_mem_nil hk).elim, rfl⟩⟩
theorem reach_at {d : Aut} {blk : Nat → Nat} (hb : d.Blk blk) {u : List Nat} (hu : Bytes u) : Reach d (d.at_ blk u) := ⟨_, Aut.word_of hb hu, rfl⟩
theorem reach_to {d : Aut} {blk : Nat → Nat} (hb : d.Blk blk) {p : Nat} (h : Reach d p) : ∃ u, Bytes u ∧ d.at_ blk u = p := by
  obtain ⟨ws, hw, rfl⟩ := h
  obtain ⟨u, h1, rfl⟩ := Aut.word_to hb hw
  exact ⟨u, h1, rfl⟩

/-! the program's way -/
/-- classes and one state of each -/
structure ClsOk (d : Aut) (cls one : Nat → Nat) (many : Nat) : Prop where
  eqv : ∀ p q, Reach d p → Reach d q → (cls p = cls q ↔ d.Eqv p q)
  lt : ∀ p, Reach d p → cls p < many
  one : ∀ c, c < many → Reach d (one c) ∧ cls (one c) = c
section
variable {d : Aut} {cls one : Nat → Nat} {many : Nat} {z : Nat → Int}
def nextC (d : Aut) (cls one : Nat → Nat) (c k : Nat) : Nat := cls (d.nx (one c) k)
def colL (d : Aut) (cls one : Nat → Nat) (many k : Nat) : List Nat := (List.range many).map fun c => nextC d cls one c k
def eqC (d : Aut) (cls one : Nat → Nat) (many k j : Nat) : Bool := decide (colL d cls one many k = colL d cls one many j)
def blocksC (d : Aut) (cls one : Nat → Nat) (many n : Nat) : List Nat := (List.range n).foldl (addR (eqC d cls one many)) []
def mergedC (d : Aut) (cls one : Nat → Nat) (many n k : Nat) : Nat := idxR (eqC d cls one many) (blocksC d cls one many n) k
def stepC (d : Aut) (cls one : Nat → Nat) (bl : List Nat) (c k : Nat) : Nat := nextC d cls one c (bl.getD k 0)
noncomputable def orderC (d : Aut) (cls one : Nat → Nat) (bl : List Nat) : List Nat := bfs addN (fun c => (List.range bl.length).map (stepC d cls one bl c)) fuelL 0 [cls d.start]

theorem eqC_refl (k : Nat) : eqC d cls one many k k = true := by simp [eqC]
theorem eqC_iff {k j : Nat} : eqC d cls one many k j = true ↔ ∀ c, c < many → nextC d cls one c k = nextC d cls one c j := by
  unfold eqC colL
  simp only [decide_eq_true_eq]
  constructor
  · intro h c hc
    have := congrArg (fun l => l[c]?) h
    simpa [hc] using this
  · intro h
    exact List.map_congr_left fun c hc => h c (by simpa using hc)
/-- bytes are alike just if their blocks' columns are -/
theorem eqC_blk (hc : ClsOk d cls one many) (hb : BlkOk z d.wide) {b c : Nat} (h1 : b < 256) (h2 : c < 256) : eqB (d.lang (blkF z)) b c = eqC d cls one many (blkF z b) (blkF z c) := by
  have hk1 := hb.blk.lt b h1
  have hk2 := hb.blk.lt c h2
  apply Bool.eq_iff_iff.2
  rw [eqB_iff, Aut.eqb_at hb.blk, eqC_iff]
  constructor
  · intro h x hx
    obtain ⟨h3, h4⟩ := hc.one x hx
    obtain ⟨u, hu, e⟩ := reach_to hb.blk h3
    have := h u hu
    rw [e] at this
    exact (hc.eqv _ _ (h3.nx hk1) (h3.nx hk2)).2 this
  · intro h u hu
    have hr := reach_at hb.blk hu
    obtain ⟨h3, h4⟩ := hc.one _ (hc.lt _ hr)
    have he := (hc.eqv _ _ h3 hr).1 h4
    have := (hc.eqv _ _ (h3.nx hk1) (h3.nx hk2)).1 (h _ (hc.lt _ hr))
    exact ((he.next hk1).symm.trans this).trans (he.next hk2)
theorem blocksC_map (hc : ClsOk d cls one many) (hb : BlkOk z d.wide) : (bytesL (d.lang (blkF z))).map (blkF z) = blocksC d cls one many d.wide := by
  unfold bytesL blocksC
  rw [foldR_map (E' := eqC d cls one many) (blkF z) (S := fun b => b < 256) (fun x y hx hy => eqC_blk hc hb hx hy) _ _ (fun y hy => by cases hy) (fun y hy => by simpa [byteN_eq] using hy)]
  have h1 := ok_fold (E := eqC d cls one many) eqC_refl 256 hb.ok
  have h2 : (Bl.top z 256).toNat = d.wide := by have := hb.wide; omega
  rw [h2] at h1
  rw [byteN_eq]
  exact h1
theorem blocksC_len (hc : ClsOk d cls one many) (hb : BlkOk z d.wide) : (blocksC d cls one many d.wide).length = (bytesL (d.lang (blkF z))).length := by
  rw [← blocksC_map hc hb, List.length_map]
theorem mergedC_blk (hc : ClsOk d cls one many) (hb : BlkOk z d.wide) {b : Nat} (h : b < 256) : mergedC d cls one many d.wide (blkF z b) = blockL (d.lang (blkF z)) b := by
  unfold mergedC blockL
  rw [← blocksC_map hc hb]
  exact idxR_map (blkF z) fun y hy => eqC_blk hc hb h (bytesL_in _ y hy)
/-- the class behind a text -/
def clsU (d : Aut) (cls : Nat → Nat) (z : Nat → Int) (u : List Nat) : Nat := cls (d.at_ (blkF z) u)
theorem clsU_eq (hc : ClsOk d cls one many) (hb : BlkOk z d.wide) {u v : List Nat} (hu : Bytes u) (hv : Bytes v) : eqL (d.lang (blkF z)) u v = decide (clsU d cls z u = clsU d cls z v) := by
  apply Bool.eq_iff_iff.2
  rw [eqL_iff, Aut.eqv_at hb.blk]
  simp only [decide_eq_true_eq]
  exact (hc.eqv _ _ (reach_at hb.blk hu) (reach_at hb.blk hv)).symm
theorem clsU_step (hc : ClsOk d cls one many) (hb : BlkOk z d.wide) {u : List Nat} (hu : Bytes u) {b : Nat} (h : b < 256) : clsU d cls z (u ++ [b]) = nextC d cls one (clsU d cls z u) (blkF z b) := by
  have hk := hb.blk.lt b h
  have hr := reach_at hb.blk hu
  obtain ⟨h3, h4⟩ := hc.one _ (hc.lt _ hr)
  have he := (hc.eqv _ _ h3 hr).1 h4
  unfold clsU nextC
  rw [Aut.at_app]
  exact (hc.eqv _ _ (hr.nx hk) (h3.nx hk)).2 (he.symm.next hk)
theorem orderC_map (hc : ClsOk d cls one many) (hb : BlkOk z d.wide) : (statesL (d.lang (blkF z))).map (clsU d cls z) = orderC d cls one (blocksC d cls one many d.wide) := by
  unfold statesL orderC
  rw [addN_eq]
  refine (bfs_map (E' := fun a b => decide (a = b)) (clsU d cls z) (S := Bytes) (fun x y hx hy => clsU_eq hc hb hx hy) (fun u hu => nextL_in _ hu) (fun u hu => ?_) _ _ _ (fun u hu => by obtain rfl := List.mem_singleton.1 hu; exact .nil)).trans rfl
  rw [← blocksC_map hc hb]
  unfold nextL stepC
  rw [List.map_map, List.length_map]
  refine List.ext_getElem? fun k => ?_
  rw [List.getElem?_map, List.getElem?_map]
  by_cases hk : k < (bytesL (d.lang (blkF z))).length
  · have hm := List.getElem_mem hk
    rw [List.getElem?_eq_getElem hk, List.getElem?_range hk]
    simp only [Option.map_some, Function.comp]
    congr 1
    rw [clsU_step hc hb hu (bytesL_in _ _ hm)]
    congr 1
    rw [List.getD_eq_getElem?_getD, List.getElem?_map, List.getElem?_eq_getElem hk]
    rfl
  · rw [List.getElem?_eq_none (by omega), List.getElem?_eq_none (by simp; omega)]
    rfl
/-- a row of the least automaton -/
theorem rowC (hc : ClsOk d cls one many) (hb : BlkOk z d.wide) {i k : Nat} (hi : i < (statesL (d.lang (blkF z))).length) (hk : k < (bytesL (d.lang (blkF z))).length) :
    (orderC d cls one (blocksC d cls one many d.wide)).findIdx (fun y => decide (stepC d cls one (blocksC d cls one many d.wide) ((orderC d cls one (blocksC d cls one many d.wide)).getD i 0) k = y)) = stepL (d.lang (blkF z)) i k := by
  have h1 : (orderC d cls one (blocksC d cls one many d.wide)).getD i 0 = clsU d cls z ((statesL (d.lang (blkF z))).getD i []) := by
    rw [← orderC_map hc hb, List.getD_eq_getElem?_getD, List.getElem?_map, List.getElem?_eq_getElem hi, List.getD_eq_getElem?_getD, List.getElem?_eq_getElem hi]
    rfl
  have h2 : (blocksC d cls one many d.wide).getD k 0 = blkF z ((bytesL (d.lang (blkF z))).getD k 0) := by
    rw [← blocksC_map hc hb, List.getD_eq_getElem?_getD, List.getElem?_map, List.getElem?_eq_getElem hk, List.getD_eq_getElem?_getD, List.getElem?_eq_getElem hk]
    rfl
  have hu := statesL_in _ _ (getD_mem (a := ([] : List Nat)) hi)
  have hbk := bytesL_in _ _ (getD_mem (a := 0) hk)
  rw [h1]
  unfold stepC
  rw [h2, ← clsU_step hc hb hu hbk, ← orderC_map hc hb]
  unfold stepL
  exact idxR_map (E' := fun a b => decide (a = b)) (clsU d cls z) fun y hy => clsU_eq hc hb (hu.app (.one hbk)) (statesL_in _ y hy)
theorem finC (hc : ClsOk d cls one many) (hb : BlkOk z d.wide) {i : Nat} (hi : i < (statesL (d.lang (blkF z))).length) :
    d.fin (one ((orderC d cls one (blocksC d cls one many d.wide)).getD i 0)) = finL (d.lang (blkF z)) i := by
  have h1 : (orderC d cls one (blocksC d cls one many d.wide)).getD i 0 = clsU d cls z ((statesL (d.lang (blkF z))).getD i []) := by
    rw [← orderC_map hc hb, List.getD_eq_getElem?_getD, List.getElem?_map, List.getElem?_eq_getElem hi, List.getD_eq_getElem?_getD, List.getElem?_eq_getElem hi]
    rfl
  have hu := statesL_in _ _ (getD_mem (a := ([] : List Nat)) hi)
  have hr := reach_at hb.blk hu
  obtain ⟨h3, h4⟩ := hc.one _ (hc.lt _ hr)
  have he := (hc.eqv _ _ h3 hr).1 h4
  rw [h1]
  exact he.fin_
theorem orderC_len (hc : ClsOk d cls one many) (hb : BlkOk z d.wide) : (orderC d cls one (blocksC d cls one many d.wide)).length = (statesL (d.lang (blkF z))).length := by
  rw [← orderC_map hc hb, List.length_map]
theorem orderC_lt (hc : ClsOk d cls one many) (hb : BlkOk z d.wide) : ∀ c ∈ orderC d cls one (blocksC d cls one many d.wide), c < many := fun c h => by
  rw [← orderC_map hc hb] at h
  obtain ⟨u, hu, rfl⟩ := List.mem_map.1 h
  exact hc.lt _ (reach_at hb.blk (statesL_in _ u hu))
end
end Go.Proofs.YtgkpgjbgcimijaaDoor
