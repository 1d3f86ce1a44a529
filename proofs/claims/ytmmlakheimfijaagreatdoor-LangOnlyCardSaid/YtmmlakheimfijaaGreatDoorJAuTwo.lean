/-
  The canonical automaton of a language, taken as an automaton: it is right, has that language, and is its own canonical one: plain law. Conditions: the states are few enough.
  The automaton of a text of as, the chapter's example: its least automaton has two states, the first takes; it takes "aa" and not "ab". Conditions: none.
  Two automata in a law's own cells; the chapter's examples hold. Conditions: the table of powers lies as laid.
-/
import Derived.Test.YtmmlakheimfijaaGreatDoorJOfOut
import Derived.Test.YtmmlakheimfijaaGreatDoorJAuOf
import Derived.Test.YtmmlakheimfijaaGreatDoorJDfa
namespace Go.Proofs.YtmmlakheimfijaaGreatDoor
set_option linter.unusedVariables false
set_option linter.unusedSimpArgs false

/-! bytes numbered as they come -/
noncomputable def preB (L : Lang) (n : Nat) : List Nat := (List.range n).foldl (addR (eqB L)) []
theorem preB_succ (L : Lang) (n : Nat) : preB L (n + 1) = addR (eqB L) (preB L n) n := by simp [preB, List.range_succ]
theorem preB_pre (L : Lang) (k j : Nat) : ∃ t, preB L (k + j) = preB L k ++ t := by
  induction j with
  | zero => exact ⟨[], by simp⟩
  | succ j ih =>
    obtain ⟨t, ht⟩ := ih
    obtain ⟨t', ht'⟩ := addR_pre (eqB L) (preB L (k + j)) (k + j)
    exact ⟨t ++ t', by rw [← Nat.add_assoc, preB_succ, ht', ht, List.append_assoc]⟩
theorem preB_any (L : Lang) {k n : Nat} (h : k < n) : (preB L n).any (eqB L k) = true := foldR_any (eqB_refl L) _ _ k (by simpa using h)
theorem bytesL_pre (L : Lang) {k : Nat} (h : k ≤ 256) : ∃ t, bytesL L = preB L k ++ t := by
  have e : bytesL L = preB L (k + (256 - k)) := by unfold bytesL preB; rw [byteN_eq]; congr 2; omega
  rw [e]
  exact preB_pre L k _
theorem blockL_pre (L : Lang) {k : Nat} (h : k < 256) : blockL L k = idxR (eqB L) (preB L (k + 1)) k := by
  obtain ⟨t, ht⟩ := bytesL_pre L (show k + 1 ≤ 256 by omega)
  unfold blockL
  rw [ht, idxR_pre t (preB_any L (by omega))]
def zL (L : Lang) (f : Nat → Nat) (j : Nat) : Int := (f j : Int)
theorem blockL_ok (L : Lang) : ∀ n, n ≤ 256 → Bl.okTo (fun j => ((blockL L j : Nat) : Int)) n = true ∧ Bl.top (fun j => ((blockL L j : Nat) : Int)) n = ((preB L n).length : Int)
  | 0, _ => ⟨rfl, rfl⟩
  | n + 1, h => by
    obtain ⟨h1, h2⟩ := blockL_ok L n (by omega)
    have hb := blockL_pre L (show n < 256 by omega)
    rw [preB_succ] at hb
    rw [Bl.okTo_succ, Bl.top_succ, h1, h2, preB_succ]
    by_cases ha : (preB L n).any (eqB L n) = true
    · rw [addR, if_pos ha] at hb ⊢
      have := idxR_lt ha
      rw [← hb] at this
      refine ⟨?_, by rw [if_neg (by omega)]⟩
      simp only [Bool.true_and, Bool.and_eq_true, decide_eq_true_eq]
      omega
    · rw [addR, if_neg ha] at hb ⊢
      rw [idxR_new (eqB_refl L n) [] ha] at hb
      refine ⟨?_, by rw [if_pos (by omega)]; simp⟩
      simp only [Bool.true_and, Bool.and_eq_true, decide_eq_true_eq]
      omega

/-! the canonical automaton -/
section
variable {L : Lang}
theorem canonI_z {j : Nat} (h : j < 256) : (canonI L).z j = ((blockL L j : Nat) : Int) := by
  unfold DfaI.z canonI intsOf
  simp only [byteN_eq, List.map_map]
  rw [List.getD_eq_getElem?_getD, List.getElem?_map, List.getElem?_range h]
  rfl
theorem canonI_blen : (canonI L).block.length = 256 := by simp [canonI, intsOf, byteN_eq]
theorem canonI_many : (canonI L).next.length = (statesL L).length := by simp [canonI]
theorem canonI_fin : (canonI L).fin.length = (statesL L).length := by simp [canonI]
theorem canonI_wide : wideI (canonI L) = ((bytesL L).length : Int) := by
  obtain ⟨h1, h2⟩ := blockL_ok L 256 (Nat.le_refl _)
  obtain ⟨h3, h4⟩ := Bl.okTo_congr (canonI L).z (fun j => ((blockL L j : Nat) : Int)) 256 fun k hk => canonI_z hk
  rw [h1] at h3
  have hr : Bl.right (canonI L).z (canonI L).block.length = true := by
    unfold Bl.right
    rw [canonI_blen]
    simp [h3]
  unfold wideI countI
  rw [if_pos hr, Bl.most_top _ _ h3, h4, h2]
  have : preB L 256 = bytesL L := by unfold preB bytesL; rw [byteN_eq]
  rw [this]
theorem few_of_le (h : (statesL L).length ≤ 4096) : Few L := by unfold Few; omega
theorem canonI_row {r : List Int} (h : r ∈ (canonI L).next) : ∃ i, i < (statesL L).length ∧ r = intsOf ((List.range (bytesL L).length).map (stepL L i)) := by
  unfold canonI at h
  obtain ⟨i, hi, rfl⟩ := List.mem_map.1 h
  exact ⟨i, by simpa using hi, rfl⟩
theorem canonI_rightD (h : (statesL L).length ≤ 4096) : RightD (canonI L) where
  m1 := by rw [canonI_many]; exact statesL_pos L
  m2 := by rw [canonI_many]; exact h
  fin := by rw [canonI_many, canonI_fin]
  s0 := Int.le_refl _
  s1 := by rw [canonI_many]; have := statesL_pos L; show (0 : Int) < _; omega
  w0 := by rw [canonI_wide]; have := bytesL_pos L; omega
  rows := fun r hr => by
    obtain ⟨i, hi, rfl⟩ := canonI_row hr
    rw [canonI_wide, canonI_many]
    refine ⟨by simp [intsOf], fun n hn => ?_⟩
    unfold intsOf at hn
    obtain ⟨s, hs, rfl⟩ := List.mem_map.1 hn
    obtain ⟨k, hk, rfl⟩ := List.mem_map.1 hs
    have := stepL_lt (few_of_le h) hi (by simpa using hk)
    omega
theorem bytesL_len : (bytesL L).length ≤ 256 := by
  have h := (blockL_ok L 256 (Nat.le_refl _)).2
  have h2 := (Bl.top_nonneg (fun j => ((blockL L j : Nat) : Int)) 256).2
  have : preB L 256 = bytesL L := by unfold preB bytesL; rw [byteN_eq]
  rw [this] at h
  omega
theorem canonI_in (h : (statesL L).length ≤ 4096) : (canonI L).In where
  start := by show In64 0; unfold In64; omega
  fin := by rw [canonI_fin]; omega
  block := by
    refine ⟨by rw [canonI_blen]; omega, fun x hx => ?_⟩
    unfold canonI intsOf at hx
    obtain ⟨n, hn, rfl⟩ := List.mem_map.1 hx
    obtain ⟨b, hb, rfl⟩ := List.mem_map.1 hn
    have := blockL_lt L (b := b) (by simpa [byteN_eq] using hb)
    have := bytesL_len (L := L)
    unfold In64; omega
  many := by rw [canonI_many]; omega
  rows := fun r hr => by
    obtain ⟨i, hi, rfl⟩ := canonI_row hr
    have := bytesL_len (L := L)
    refine ⟨by simp [intsOf]; omega, fun n hn => ?_⟩
    unfold intsOf at hn
    obtain ⟨s, hs, rfl⟩ := List.mem_map.1 hn
    obtain ⟨k, hk, rfl⟩ := List.mem_map.1 hs
    have := stepL_lt (few_of_le h) hi (by simpa using hk)
    unfold In64; omega
theorem canonI_blk {b : Nat} (h : b < 256) : (canonI L).blk b = blockL L b := by
  unfold DfaI.blk blkF
  rw [canonI_z h]
  simp
theorem canonI_step {i k : Nat} (hi : i < (statesL L).length) (hk : k < (bytesL L).length) : (canonI L).aut.nx i k = stepL L i k := by
  show nxtF (canonI L).nx i k = _
  unfold nxtF DfaI.nx canonI
  simp only [List.map_map]
  rw [List.getD_eq_getElem?_getD, List.getD_eq_getElem?_getD, List.getElem?_map, List.getElem?_range hi]
  simp only [Option.map_some, Option.getD_some, Function.comp]
  rw [List.getElem?_map]
  unfold intsOf
  rw [List.getElem?_map, List.getElem?_map, List.getElem?_range hk]
  rfl
theorem canonI_run (h : Few L) : ∀ (ws : List Nat) (i : Nat), i < (statesL L).length → (∀ k ∈ ws, k < (bytesL L).length) → (canonI L).aut.run i ws = (leastA L).run i ws
  | [], i, _, _ => rfl
  | k :: ws, i, hi, hw => by
    have hk := hw k (by simp)
    show (canonI L).aut.run ((canonI L).aut.nx i k) ws = (leastA L).run ((leastA L).nx i k) ws
    rw [canonI_step hi hk]
    exact canonI_run h ws _ (stepL_lt h hi hk) fun j hj => hw j (by simp [hj])
theorem canonI_at (h : Few L) {u : List Nat} (hu : Bytes u) : (canonI L).aut.at_ (canonI L).blk u = (leastA L).at_ (blockL L) u := by
  have e : u.map (canonI L).blk = u.map (blockL L) := List.map_congr_left fun b hb => canonI_blk (hu b hb)
  show (canonI L).aut.run 0 _ = (leastA L).run 0 _
  rw [e]
  exact canonI_run h _ _ (statesL_pos L) fun k hk => by
    obtain ⟨b, hb, rfl⟩ := List.mem_map.1 hk
    exact blockL_lt L (hu b hb)
theorem canonI_lang (h : Few L) {u : List Nat} (hu : Bytes u) : langD (canonI L) u = L u := by
  rw [← leastA_lang h hu]
  show (canonI L).fin.getD _ false = finL L _
  rw [canonI_at h hu]
  have hlt := (leastA_at h _ u rfl hu).1
  generalize (leastA L).at_ (blockL L) u = i at *
  unfold canonI
  simp only
  rw [List.getD_eq_getElem?_getD, List.getElem?_map, List.getElem?_range hlt]
  rfl
end

/-! it leans on texts of bytes alone -/
section
variable {L L' : Lang}
theorem eqL_congr (h : ∀ u, Bytes u → L u = L' u) {u v : List Nat} (hu : Bytes u) (hv : Bytes v) : eqL L u v = eqL L' u v := by
  apply Bool.eq_iff_iff.2
  rw [eqL_iff, eqL_iff]
  constructor
  · intro he w hw
    rw [← h _ (hu.app hw), ← h _ (hv.app hw)]
    exact he w hw
  · intro he w hw
    rw [h _ (hu.app hw), h _ (hv.app hw)]
    exact he w hw
theorem eqB_congr (h : ∀ u, Bytes u → L u = L' u) {b c : Nat} (hb : b < 256) (hc : c < 256) : eqB L b c = eqB L' b c := by
  apply Bool.eq_iff_iff.2
  rw [eqB_iff, eqB_iff]
  unfold EqB
  constructor
  · intro he u hu
    exact eqL_iff.1 ((eqL_congr h (hu.app (.one hb)) (hu.app (.one hc))).symm.trans (eqL_iff.2 (he u hu)))
  · intro he u hu
    exact eqL_iff.1 ((eqL_congr h (hu.app (.one hb)) (hu.app (.one hc))).trans (eqL_iff.2 (he u hu)))
theorem bytesL_congr (h : ∀ u, Bytes u → L u = L' u) : bytesL L = bytesL L' := by
  have := foldR_map (E := eqB L) (E' := eqB L') id (S := fun b => b < 256) (fun x y hx hy => eqB_congr h hx hy) (List.range byteN) [] (fun y hy => by cases hy) (fun y hy => by simpa [byteN_eq] using hy)
  simpa [bytesL] using this
theorem statesL_congr (h : ∀ u, Bytes u → L u = L' u) : statesL L = statesL L' := by
  have hb := bytesL_congr h
  have := bfs_map (E := eqL L) (E' := eqL L') id (S := Bytes) (fun x y hx hy => eqL_congr h hx hy) (f := nextL L) (f' := nextL L') (fun u hu => nextL_in L hu) (fun u hu => by simp [nextL, hb]) fuelL 0 [[]] (fun u hu => by obtain rfl := List.mem_singleton.1 hu; exact .nil)
  simpa [statesL] using this
theorem canonI_congr (h : ∀ u, Bytes u → L u = L' u) : canonI L = canonI L' := by
  have hb := bytesL_congr h
  have hs := statesL_congr h
  unfold canonI
  congr 1
  · rw [hs]
    refine List.map_congr_left fun i hi => ?_
    unfold finL
    rw [hs]
    exact h _ (statesL_in L' _ (getD_mem (by simpa using hi)))
  · congr 1
    refine List.map_congr_left fun b hbb => ?_
    have hb256 : b < 256 := by simpa [byteN_eq] using hbb
    have := idxR_map (E := eqB L) (E' := eqB L') id (o := bytesL L) (x := b) fun y hy => eqB_congr h hb256 (bytesL_in L y hy)
    unfold blockL
    rw [← this, List.map_id, hb]
    rfl
  · rw [hs]
    refine List.map_congr_left fun i hi => ?_
    congr 1
    rw [hb]
    refine List.map_congr_left fun k hk => ?_
    unfold stepL
    rw [hs, hb]
    have hu : Bytes ((statesL L').getD i [] ++ [(bytesL L').getD k 0]) := (statesL_in L' _ (getD_mem (by simpa using hi))).app (.one (bytesL_in L' _ (getD_mem (by simpa using hk))))
    have := idxR_map (E := eqL L) (E' := eqL L') id (o := statesL L') fun y hy => eqL_congr h hu (statesL_in L' y hy)
    rw [← this, List.map_id]
    rfl
end

/-! what Of tells -/
theorem noD_not : rightD noD = false := by unfold rightD noD; simp
theorem noD_in : noD.In := ⟨by show In64 0; unfold In64; omega, by simp [noD], ⟨by simp [noD], fun x hx => by simp [noD] at hx⟩, by simp [noD], fun l hl => by simp [noD] at hl⟩
section
variable {D E : DfaI}
theorem RightD.states_le (h : RightD D) : (statesL (langD D)).length ≤ 4096 := by
  have := Aut.statesL_le h.ok h.blk.1.blk
  have h2 : D.aut.many = D.next.length := D.nx_len
  have := h.m2
  unfold langD DfaI.blk
  omega
theorem ofD_pos (h : RightD D) : ofD D = canonI (langD D) := by unfold ofD; rw [if_pos (rightD_iff.2 h)]
theorem ofD_neg (h : rightD D = false) : ofD D = noD := by unfold ofD; rw [if_neg (by rw [h]; decide)]
theorem ofD_right (h : RightD D) : RightD (ofD D) := by rw [ofD_pos h]; exact canonI_rightD h.states_le
theorem ofD_in (D : DfaI) : (ofD D).In := by
  cases hr : rightD D with
  | true => rw [ofD_pos (rightD_iff.1 hr)]; exact canonI_in (rightD_iff.1 hr).states_le
  | false => rw [ofD_neg hr]; exact noD_in
theorem ofD_lang (h : RightD D) {u : List Nat} (hu : Bytes u) : langD (ofD D) u = langD D u := by rw [ofD_pos h]; exact canonI_lang (few_of_le h.states_le) hu
theorem ofD_canon {L : Lang} (h : (statesL L).length ≤ 4096) : ofD (canonI L) = canonI L := by
  rw [ofD_pos (canonI_rightD h)]
  exact canonI_congr fun u hu => canonI_lang (few_of_le h) hu
theorem ofD_ofD (h : RightD D) : ofD (ofD D) = ofD D := by rw [ofD_pos h]; exact ofD_canon h.states_le
theorem ofD_eq_iff (h : RightD D) (h' : RightD E) : ofD D = ofD E ↔ ∀ u, Bytes u → langD D u = langD E u := by
  constructor
  · intro e u hu
    rw [← ofD_lang h hu, e, ofD_lang h' hu]
  · intro e
    rw [ofD_pos h, ofD_pos h']
    exact canonI_congr e
theorem ofD_len (h : RightD D) : (ofD D).next.length ≤ (reachD D).length := by
  have hb := h.blk.1.blk
  rw [ofD_pos h, canonI_many]
  have hr : reachD D = reachL D.aut := by unfold reachD; rw [if_pos (rightD_iff.2 h)]
  rw [hr]
  have := nodup_sub ((statesL (langD D)).map (D.aut.at_ D.blk)) (reachL D.aut) ?_ ?_
  · simpa using this
  · rw [List.nodup_iff_pairwise_ne, List.pairwise_map]
    refine (Aut.statesL_apart (langD D)).imp fun {a b} h e => ?_
    have : EqL (langD D) b a := (Aut.eqv_at hb b a).2 (by show D.aut.Eqv (D.aut.at_ D.blk b) (D.aut.at_ D.blk a); rw [e]; exact Aut.Eqv.refl _)
    rw [eqL_iff.2 this] at h
    cases h
  · intro n hn
    obtain ⟨u, hu, rfl⟩ := List.mem_map.1 hn
    exact (reachL_mem h.ok).2 (reach_at hb (statesL_in _ u hu))
theorem apart_idx {L : Lang} {i j : Nat} (hi : i < (statesL L).length) (hj : j < (statesL L).length) (h : EqL L ((statesL L).getD i []) ((statesL L).getD j [])) : i = j := by
  have hp := Aut.statesL_apart L
  rw [List.getD_eq_getElem?_getD, List.getElem?_eq_getElem hi, List.getD_eq_getElem?_getD, List.getElem?_eq_getElem hj] at h
  change EqL L (statesL L)[i] (statesL L)[j] at h
  rw [List.pairwise_iff_getElem] at hp
  rcases Nat.lt_trichotomy i j with hlt | he | hlt
  · have := hp i j hi hj hlt
    rw [eqL_iff.2 h.symm] at this
    cases this
  · exact he
  · have := hp j i hj hi hlt
    rw [eqL_iff.2 h] at this
    cases this
theorem canonI_reach {L : Lang} (h : (statesL L).length ≤ 4096) : (reachD (canonI L)).length = (canonI L).next.length := by
  have hR := canonI_rightD h
  have hf := few_of_le h
  have hr : reachD (canonI L) = reachL (canonI L).aut := by unfold reachD; rw [if_pos (rightD_iff.2 hR)]
  have hm : (canonI L).aut.many = (canonI L).next.length := (canonI L).nx_len
  rw [hr]
  have hall : ∀ i, i < (statesL L).length → Reach (canonI L).aut i := fun i hi => by
    have hu := statesL_in L _ (getD_mem (a := ([] : List Nat)) hi)
    obtain ⟨h1, h2⟩ := leastA_at hf _ _ rfl hu
    have he := apart_idx hi h1 h2
    have hrr := reach_at hR.blk.1.blk hu
    have e2 : (canonI L).aut.at_ (canonI L).blk ((statesL L).getD i []) = i := by rw [canonI_at hf hu]; exact he.symm
    change Reach _ ((canonI L).aut.at_ (canonI L).blk _) at hrr
    rw [e2] at hrr
    exact hrr
  refine Nat.le_antisymm (by rw [← hm]; exact reachL_len _) ?_
  have := nodup_sub (List.range (canonI L).next.length) (reachL (canonI L).aut) List.nodup_range fun i hi => (reachL_mem hR.ok).2 (hall i (by rw [canonI_many] at hi; simpa using hi))
  simpa using this
theorem ofD_reach (h : RightD D) : (reachD (ofD D)).length = (ofD D).next.length := by rw [ofD_pos h]; exact canonI_reach h.states_le
end
end Go.Proofs.YtmmlakheimfijaaGreatDoor
namespace Go.Proofs.YtmmlakheimfijaaGreatDoor
set_option linter.unusedVariables false
set_option linter.unusedSimpArgs false

def exB (j : Nat) : Nat := if j = 97 then 1 else 0
def exD : DfaI := ⟨0, [true, false, true], intsOf ((List.range 256).map exB), [[1, 2], [1, 1], [1, 2]]⟩
theorem exD_rightB : rightD exD = true := by kernel_rfl
theorem exD_right : RightD exD := rightD_iff.1 exD_rightB
theorem exD_in : exD.In := by
  refine ⟨by show In64 0; unfold In64; omega, by simp [exD], ⟨by simp [exD, intsOf], fun x hx => ?_⟩, by simp [exD], fun l hl => ?_⟩
  · unfold exD intsOf at hx
    obtain ⟨n, hn, rfl⟩ := List.mem_map.1 hx
    obtain ⟨b, hb, rfl⟩ := List.mem_map.1 hn
    unfold exB In64
    split <;> omega
  · simp [exD] at hl
    rcases hl with rfl | rfl | rfl <;> exact ⟨by simp, fun x hx => by simp at hx; unfold In64; omega⟩
def exC (p : Nat) : Nat := if p = 1 then 1 else 0
theorem exD_nx (p k : Nat) : p < 3 → k < 2 → exD.aut.nx p k = if p = 1 then 1 else if k = 0 then 1 else 2 := by
  intro hp hk
  match p, k, hp, hk with
  | 0, 0, _, _ => rfl
  | 0, 1, _, _ => rfl
  | 1, 0, _, _ => rfl
  | 1, 1, _, _ => rfl
  | 2, 0, _, _ => rfl
  | 2, 1, _, _ => rfl
theorem exD_wide : exD.aut.wide = 2 := by kernel_rfl
theorem exD_fin (p : Nat) (hp : p < 3) : exD.aut.fin p = !decide (p = 1) := by
  match p, hp with
  | 0, _ => rfl
  | 1, _ => rfl
  | 2, _ => rfl
theorem exD_cls : ClsOk exD.aut exC id 2 where
  eqv := fun p q hp hq => by
    have h1 : p < 3 := hp.lt exD_right.ok
    have h2 : q < 3 := hq.lt exD_right.ok
    constructor
    · intro h
      refine Aut.Eqv.of_stable (S := fun p q => p < 3 ∧ q < 3 ∧ exC p = exC q) (fun p q h => ?_) (fun p q k h hk => ?_) ⟨h1, h2, h⟩
      · rw [exD_fin p h.1, exD_fin q h.2.1]
        have := h.2.2
        unfold exC at this
        split at this <;> split at this <;> simp_all
      · rw [exD_wide] at hk
        rw [exD_nx p k h.1 hk, exD_nx q k h.2.1 hk]
        have := h.2.2
        unfold exC at this ⊢
        split at this <;> split at this <;> simp_all <;> split <;> simp
    · intro h
      have := h.fin_
      rw [exD_fin p h1, exD_fin q h2] at this
      unfold exC
      simp at this
      split <;> split <;> simp_all
  lt := fun p _ => by unfold exC; split <;> omega
  one := fun c hc => by
    match c, hc with
    | 0, _ => exact ⟨Reach.start _, rfl⟩
    | 1, _ => exact ⟨(Reach.start exD.aut).nx (k := 0) (by rw [exD_wide]; omega), rfl⟩
theorem exD_few : Few (exD.aut.lang (blkF exD.z)) := few_of_le exD_right.states_le
theorem exD_canon : ∃ o : List Nat, o = [0, 1] ∧ ofD exD = ⟨0, o.map fun c => exD.aut.fin (id c), intsOf ((List.range 256).map fun b => mergedC exD.aut exC id 2 exD.aut.wide (blkF exD.z b)), (o.map (rowO exD.aut exC id (blocksC exD.aut exC id 2 exD.aut.wide) o 2)).map intsOf⟩ := by
  have hb := exD_right.blk.1
  have hm := orderC_many exD_cls hb exD_few
  have hlt := orderC_lt exD_cls hb
  have hn : (orderC exD.aut exC id (blocksC exD.aut exC id 2 exD.aut.wide)).Nodup := orderC_nodup
  have h0 : ∃ t, orderC exD.aut exC id (blocksC exD.aut exC id 2 exD.aut.wide) = 0 :: t := by
    rw [← orderC_map exD_cls hb]
    obtain ⟨t, ht⟩ := statesL_pre (exD.aut.lang (blkF exD.z))
    rw [ht]
    exact ⟨_, rfl⟩
  refine ⟨orderC exD.aut exC id (blocksC exD.aut exC id 2 exD.aut.wide), ?_, (ofD_pos exD_right).trans (canon_eq exD_cls hb exD_right.ok exD_few rfl rfl hm)⟩
  obtain ⟨t, ht⟩ := h0
  rw [ht] at hm hlt hn ⊢
  match t, hm, hlt, hn with
  | [x], _, hlt, hn =>
    have := hlt x (by simp)
    simp at hn
    congr 1
    congr 1
    omega
theorem exO_next : (ofD exD).next.length = 2 := by
  obtain ⟨o, rfl, h⟩ := exD_canon
  rw [h]; rfl
theorem exO_fin : (ofD exD).fin = [true, false] := by
  obtain ⟨o, rfl, h⟩ := exD_canon
  rw [h]; rfl
theorem exO_right : RightD (ofD exD) := ofD_right exD_right
abbrev exAA : ByteArray := ⟨#[97, 97]⟩
abbrev exAB : ByteArray := ⟨#[97, 98]⟩
theorem exO_run (s : ByteArray) : runD (ofD exD) s = langD exD (bytesTo s s.size) := by
  unfold runD
  rw [rightD_iff.2 exO_right, ofD_lang exD_right (bytesTo_in s _)]
  rfl
theorem exO_aa : runD (ofD exD) exAA = true := by rw [exO_run]; kernel_rfl
theorem exO_ab : runD (ofD exD) exAB = false := by rw [exO_run]; kernel_rfl
end Go.Proofs.YtmmlakheimfijaaGreatDoor
namespace Go.Proofs.YtmmlakheimfijaaGreatDoor
set_option linter.unusedVariables false
set_option linter.unusedSimpArgs false
open Go.RowKit Go.Maps Go.Sort Go.ChangeShapes Go.WideShapes

structure TwoD (w W : World) (va vb : Array Value) (D E : DfaI) : Prop where
  a : DfaAt W (.agg va) D
  b : DfaAt W (.agg vb) E
  qa : Blk W w.heap.size 26 va
  qb : Blk W (w.heap.size + 1) 26 vb
  T : Pow10 W
  bl : Below w.heap.size w W
section
variable {w W W' : World} {ca cb : Array Value} {D E : DfaI}
theorem TwoD.below (h : TwoD w W ca cb D E) (hb : Below W.heap.size W W') : TwoD w W' ca cb D E :=
  ⟨h.a.below hb, h.b.below hb, h.qa.below hb h.qa.lt, h.qb.below hb h.qb.lt, h.T.below hb (Nat.le_refl _), h.bl.trans (hb.mono h.bl.size)⟩
theorem TwoD.mk_ (ha : DfaAt w (.agg ca) D) (hb : DfaAt w (.agg cb) E) (hT : Pow10 w) : TwoD w ((w.alloc (.cells ca 26)).alloc (.cells cb 26)) ca cb D E := by
  have hz0 : (w.alloc (.cells ca 26)).heap.size = w.heap.size + 1 := by simp
  have b0 := (Below.refl w.heap.size w).alloc (Nat.le_refl _) (.cells ca 26)
  have b1 := b0.alloc (by omega) (.cells cb 26)
  have hr := Blk.new (w.alloc (.cells ca 26)) 26 cb
  rw [hz0] at hr
  exact ⟨ha.below b1, hb.below b1, (Blk.new w 26 _).alloc _, hr, hT.below b1 (Nat.le_refl _), b1⟩
/-- what an automaton's value is -/
theorem DfaAt.form {v : Value} (h : DfaAt w v D) : ∃ (S : Int) (af ab an : Option Addr) (F B M cf cb cn : Nat), D.start = S ∧ D.fin.length = F ∧ D.block.length = B ∧ D.next.length = M ∧ v = .agg #[.int .i64 S, .slice af F cf, .slice ab B cb, .slice an M cn] := by
  obtain ⟨x1, x2, x3, rfl, ⟨a1, c1, rfl, -⟩, ⟨a2, c2, rfl, -⟩, ⟨a3, c3, rfl, -⟩⟩ := h
  exact ⟨_, _, _, _, _, _, _, _, _, _, rfl, rfl, rfl, rfl, rfl⟩
end

/-- a new variable that holds an automaton -/
abbrev boxW (w : World) (a0 a1 a2 a3 : Value) : World := w.alloc (.cells #[a0, a1, a2, a3] 26)
theorem box_lies {w : World} {D : DfaI} {a0 a1 a2 a3 : Value} (h : DfaAt w (.agg #[a0, a1, a2, a3]) D) :
    DfaAt (boxW w a0 a1 a2 a3) (.agg #[a0, a1, a2, a3]) D ∧ Blk (boxW w a0 a1 a2 a3) w.heap.size 26 #[a0, a1, a2, a3] ∧ Below w.heap.size w (boxW w a0 a1 a2 a3) := by
  have hb := (Below.refl w.heap.size w).alloc (Nat.le_refl _) (.cells #[a0, a1, a2, a3] 26)
  exact ⟨h.below hb, Blk.new w 26 _, hb⟩
end Go.Proofs.YtmmlakheimfijaaGreatDoor
