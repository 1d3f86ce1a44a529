/-
  Automata that count bytes: how many pairs two of them reach, and how many states what both take has. Conditions: the numbers are small.
  The walk of porterlaw20.round: an automaton that counts bytes. Conditions: the number is small.
  Automata in blocks of a call's own, one behind the other. Conditions: each lemma says its own.
-/
import Derived.Test.YtpcoijjcjamgiaaDoorJBoth
import Derived.Test.YtpcoijjcjamgiaaDoorJSet
import Derived.Test.YtpcoijjcjamgiaaDoorJRows
import Derived.Test.YtpcoijjcjamgiaaDoorJNot
namespace Go.Proofs.YtpcoijjcjamgiaaDoor
set_option linter.unusedVariables false
set_option linter.unusedSimpArgs false

def zerosN (k : Nat) : List Nat := List.replicate k 0
def zerosB : List Nat := zerosN 256
theorem zerosN_len (k : Nat) : (zerosN k).length = k := List.length_replicate ..
theorem zerosB_len : zerosB.length = 256 := zerosN_len 256
theorem zerosB_mem {x : Nat} (h : x ∈ zerosB) : x = 0 := List.eq_of_mem_replicate h
theorem zerosN_at {k j : Nat} (h : j < k) : (zerosN k)[j]? = some 0 := by unfold zerosN; rw [List.getElem?_replicate, if_pos h]
theorem zerosB_at {j : Nat} (h : j < 256) : zerosB[j]? = some 0 := zerosN_at h
def rowR (n i : Nat) : List Nat := [(i + 1) % n]
def roundD (n : Nat) : DfaI := ⟨0, (List.range n).map fun i => decide (i = 0), intsOf zerosB, (List.range n).map fun i => intsOf (rowR n i)⟩
theorem top_zero : ∀ k, Bl.okTo (fun _ => 0) k = true ∧ Bl.top (fun _ => 0) k = (if k = 0 then 0 else 1)
  | 0 => ⟨rfl, rfl⟩
  | k + 1 => by
    obtain ⟨h1, h2⟩ := top_zero k
    rw [Bl.okTo_succ, Bl.top_succ, h1, h2]
    by_cases h : k = 0
    · subst h; exact ⟨rfl, rfl⟩
    · rw [if_neg h, if_neg (by omega)]
      exact ⟨rfl, rfl⟩
theorem roundD_z {n j : Nat} (hj : j < 256) : (roundD n).z j = 0 := by
  unfold DfaI.z roundD intsOf
  simp only
  rw [List.getD_eq_getElem?_getD, List.getElem?_map, zerosB_at hj]
  rfl
theorem roundD_wide (n : Nat) : wideI (roundD n) = 1 := by
  have hl : (roundD n).block.length = 256 := by simp [roundD, intsOf, zerosB_len]
  obtain ⟨h1, h2⟩ := top_zero 256
  obtain ⟨h3, h4⟩ := Bl.okTo_congr (roundD n).z (fun _ => 0) 256 fun k hk => roundD_z hk
  have hr : Bl.right (roundD n).z (roundD n).block.length = true := by
    unfold Bl.right
    rw [hl, Bool.and_eq_true]
    exact ⟨by simp, by rw [h3]; exact h1⟩
  unfold wideI countI
  rw [if_pos hr, Bl.most_top _ _ (by rw [h3]; exact h1), h4, h2]
  rfl
theorem roundD_right {n : Nat} (h0 : 1 ≤ n) (h1 : n ≤ 4096) : RightD (roundD n) where
  m1 := by simp [roundD]; exact h0
  m2 := by simp [roundD]; exact h1
  fin := by simp [roundD]
  s0 := Int.le_refl _
  s1 := by
    show (0 : Int) < (((List.range n).map _).length : Int)
    simp
    omega
  w0 := by rw [roundD_wide]; decide
  rows := fun r hr => by
    unfold roundD at hr
    obtain ⟨i, hi, rfl⟩ := List.mem_map.1 hr
    rw [roundD_wide]
    refine ⟨by simp [intsOf, rowR], fun x hx => ?_⟩
    have hlt := Nat.mod_lt (i + 1) h0
    have e2 : (roundD n).next.length = n := by simp [roundD]
    rw [e2]
    simp only [intsOf, rowR, List.map_cons, List.map_nil, List.mem_cons, List.not_mem_nil, or_false] at hx
    subst hx
    omega
theorem roundD_in {n : Nat} (h0 : 1 ≤ n) (h1 : n ≤ 4096) : (roundD n).In where
  start := by show In64 0; unfold In64; omega
  fin := by simp [roundD]; omega
  block := by
    refine ⟨by simp [roundD, intsOf, zerosB_len], fun x hx => ?_⟩
    unfold roundD intsOf at hx
    obtain ⟨y, hy, rfl⟩ := List.mem_map.1 hx
    rw [zerosB_mem hy]
    unfold In64
    omega
  many := by simp [roundD]; omega
  rows := fun r hr => by
    unfold roundD at hr
    obtain ⟨i, hi, rfl⟩ := List.mem_map.1 hr
    refine ⟨by simp [intsOf, rowR], fun x hx => ?_⟩
    have hlt := Nat.mod_lt (i + 1) h0
    simp only [intsOf, rowR, List.map_cons, List.map_nil, List.mem_cons, List.not_mem_nil, or_false] at hx
    subst hx
    unfold In64
    omega
theorem roundD_nx {n i : Nat} (hi : i < n) : (roundD n).aut.nx i 0 = (i + 1) % n := by
  show nxtF (roundD n).nx i 0 = _
  unfold nxtF DfaI.nx roundD
  simp only [List.map_map]
  rw [List.getD_eq_getElem?_getD, List.getD_eq_getElem?_getD, List.getElem?_map, List.getElem?_range hi]
  rfl
theorem roundD_blk {n b : Nat} (hb : b < 256) : (roundD n).blk b = 0 := by
  unfold DfaI.blk blkF
  rw [roundD_z hb]
  rfl
theorem roundD_at {n : Nat} (h0 : 1 ≤ n) : ∀ (k : Nat) (u : List Nat), u.length = k → Bytes u → (roundD n).aut.at_ (roundD n).blk u = k % n
  | 0, u, hn, hu => by
    obtain rfl := List.eq_nil_of_length_eq_zero hn
    rw [Nat.zero_mod]
    rfl
  | k + 1, u, hn, hu => by
    have hne : u ≠ [] := by intro e; rw [e] at hn; cases hn
    have e : u = u.dropLast ++ [u.getLast hne] := (List.dropLast_concat_getLast hne).symm
    have hd : Bytes u.dropLast := fun b hb => hu b (List.dropLast_subset u hb)
    have hc := hu _ (List.getLast_mem hne)
    have ih := roundD_at h0 k u.dropLast (by simp [hn]) hd
    generalize u.dropLast = v at *
    generalize u.getLast hne = b at *
    subst e
    rw [Aut.at_app, ih, roundD_blk hc, roundD_nx (Nat.mod_lt _ h0), Nat.mod_add_mod]
theorem roundD_lang {n : Nat} (h0 : 1 ≤ n) {u : List Nat} (hu : Bytes u) : langD (roundD n) u = decide (u.length % n = 0) := by
  show (roundD n).fin.getD ((roundD n).aut.at_ (roundD n).blk u) false = _
  rw [roundD_at h0 _ u rfl hu]
  unfold roundD
  simp only
  rw [List.getD_eq_getElem?_getD, List.getElem?_map, List.getElem?_range (Nat.mod_lt _ h0)]
  rfl
section
variable {m : Nat} (h0 : 1 ≤ m)
theorem lcm_pos (h0 : 1 ≤ m) : 0 < Nat.lcm 64 m := Nat.lcm_pos (by omega) h0
theorem zeros_bytes (k : Nat) : Bytes (List.replicate k 0) := fun b hb => by rw [List.eq_of_mem_replicate hb]; omega
theorem paP_round (h0 : 1 ≤ m) {u : List Nat} (hu : Bytes u) : paP (roundD 64) (roundD m) u = (u.length % 64, u.length % m) := by
  unfold paP
  rw [roundD_at (by omega) _ u rfl hu, roundD_at h0 _ u rfl hu]
theorem pairs_round (h0 : 1 ≤ m) (h1 : m ≤ 80) : (pairsL (roundD 64) (roundD m)).length = Nat.lcm 64 m := by
  have hA : RightD (roundD 64) := roundD_right (by omega) (by omega)
  have hB : RightD (roundD m) := roundD_right h0 (by omega)
  have hm := mbP_meet (roundD 64) (roundD m)
  have hp := lcm_pos h0
  refine Nat.le_antisymm ?_ ?_
  · have := nodup_sub (pairsL (roundD 64) (roundD m)) ((List.range (Nat.lcm 64 m)).map fun k => (k % 64, k % m)) (pairsF_nodup _ _ _) fun p hpp => ?_
    · simpa using this
    · obtain ⟨u, hu, rfl⟩ := pairsF_reach hm p hpp
      rw [paP_round h0 hu, List.mem_map]
      refine ⟨u.length % Nat.lcm 64 m, by rw [List.mem_range]; exact Nat.mod_lt _ hp, ?_⟩
      rw [Nat.mod_mod_of_dvd _ (Nat.dvd_lcm_left 64 m), Nat.mod_mod_of_dvd _ (Nat.dvd_lcm_right 64 m)]
  · have := nodup_sub ((List.range (Nat.lcm 64 m)).map fun k => (k % 64, k % m)) (pairsL (roundD 64) (roundD m)) ?_ fun p hpp => ?_
    · simpa using this
    · rw [List.nodup_iff_pairwise_ne, List.pairwise_map]
      refine List.pairwise_lt_range.imp_of_mem fun {j k} hj hk hlt e => ?_
      rw [List.mem_range] at hj hk
      injection e with e1 e2
      have d1 : 64 ∣ k - j := Nat.dvd_of_mod_eq_zero (Nat.sub_mod_eq_zero_of_mod_eq e1.symm)
      have d2 : m ∣ k - j := Nat.dvd_of_mod_eq_zero (Nat.sub_mod_eq_zero_of_mod_eq e2.symm)
      have d3 := Nat.le_of_dvd (by omega) (Nat.lcm_dvd d1 d2)
      omega
    · obtain ⟨k, hk, rfl⟩ := List.mem_map.1 hpp
      have := paP_in hm (pairsL_all hA hB) (zeros_bytes k)
      rwa [paP_round h0 (zeros_bytes k), List.length_replicate] at this
theorem both_round_lang (h0 : 1 ≤ m) {u : List Nat} (hu : Bytes u) : opL andB (roundD 64) (roundD m) u = decide (u.length % Nat.lcm 64 m = 0) := by
  unfold opL andB
  rw [roundD_lang (by omega) hu, roundD_lang h0 hu, ← Bool.decide_and]
  congr 1
  apply propext
  rw [← Nat.dvd_iff_mod_eq_zero, ← Nat.dvd_iff_mod_eq_zero, ← Nat.dvd_iff_mod_eq_zero]
  exact ⟨fun h => Nat.lcm_dvd h.1 h.2, fun h => ⟨Nat.dvd_trans (Nat.dvd_lcm_left 64 m) h, Nat.dvd_trans (Nat.dvd_lcm_right 64 m) h⟩⟩
theorem states_round (h0 : 1 ≤ m) (h1 : m ≤ 80) (hl : Nat.lcm 64 m ≤ 4096) : (bothD andB (roundD 64) (roundD m)).next.length = Nat.lcm 64 m := by
  have hA : RightD (roundD 64) := roundD_right (by omega) (by omega)
  have hB : RightD (roundD m) := roundD_right h0 (by omega)
  have hp := pairs_round h0 h1
  have hpos := lcm_pos h0
  rw [(bothD_eq hA hB (by omega)).1, canonI_many]
  have hfew := opL_few (op := andB) hA hB (by omega)
  refine Nat.le_antisymm ?_ ?_
  · have hR := prodD_right (op := andB) (mbP_meet (roundD 64) (roundD m)) (pairsL_all hA hB) (by omega)
    have h2 := Aut.statesL_le hR.ok hR.blk.1.blk
    have h3 : (statesL (langD (prodD (roundD 64) (roundD m) andB (mbP (roundD 64) (roundD m)) (fsP (roundD 64) (roundD m)) (pairsL (roundD 64) (roundD m))))).length ≤ (pairsL (roundD 64) (roundD m)).length := by
      refine Nat.le_trans h2 ?_
      show (prodD _ _ _ _ _ _).nx.length ≤ _
      rw [DfaI.nx_len]
      simp [prodD]
    rw [statesL_congr fun u hu => prodD_lang (op := andB) (mbP_meet (roundD 64) (roundD m)) (pairsL_all hA hB) hu, hp] at h3
    exact h3
  · have hall := fun k => statesL_all (few_of_le hfew) k (List.replicate k 0) (by simp) (zeros_bytes k)
    have hne : ∀ j k, j < k → k < Nat.lcm 64 m → ¬ EqL (opL andB (roundD 64) (roundD m)) (List.replicate j 0) (List.replicate k 0) := fun j k hjk hk h => by
      have h2 := h (List.replicate (Nat.lcm 64 m - k) 0) (zeros_bytes _)
      rw [List.replicate_append_replicate, List.replicate_append_replicate, both_round_lang h0 (zeros_bytes _), both_round_lang h0 (zeros_bytes _), List.length_replicate, List.length_replicate] at h2
      have e1 : (k + (Nat.lcm 64 m - k)) % Nat.lcm 64 m = 0 := by rw [show k + (Nat.lcm 64 m - k) = Nat.lcm 64 m by omega, Nat.mod_self]
      have e2 : (j + (Nat.lcm 64 m - k)) % Nat.lcm 64 m = j + (Nat.lcm 64 m - k) := Nat.mod_eq_of_lt (by omega)
      rw [e1, e2] at h2
      simp at h2
      omega
    have hinj : ∀ j k, j < Nat.lcm 64 m → k < Nat.lcm 64 m → Classical.choose (hall j) = Classical.choose (hall k) → j = k := fun j k hj hk e => by
      have s1 := (Classical.choose_spec (hall j)).2
      have s2 := (Classical.choose_spec (hall k)).2
      rw [← e] at s2
      have s3 := s1.trans s2.symm
      rcases Nat.lt_trichotomy j k with h | h | h
      · exact absurd s3 (hne j k h hk)
      · exact h
      · exact absurd s3.symm (hne k j h hj)
    have := nodup_sub ((List.range (Nat.lcm 64 m)).map fun k => Classical.choose (hall k)) (statesL (opL andB (roundD 64) (roundD m))) ?_ fun u hu => ?_
    · simpa using this
    · rw [List.nodup_iff_pairwise_ne, List.pairwise_map]
      refine List.pairwise_lt_range.imp_of_mem fun {j k} hj hk hlt e => ?_
      rw [List.mem_range] at hj hk
      have := hinj j k hj hk e
      omega
    · obtain ⟨k, hk, rfl⟩ := List.mem_map.1 hu
      exact (Classical.choose_spec (hall k)).1
end
/-- the law's own search -/
theorem lcm_found {m t : Nat} (h0 : 1 ≤ m) (ht : 1 ≤ t) (hd : m * t % 64 = 0) (hno : ∀ s, 1 ≤ s → s < t → m * s % 64 ≠ 0) : m * t = Nat.lcm 64 m := by
  have h1 : Nat.lcm 64 m ∣ m * t := Nat.lcm_dvd (Nat.dvd_of_mod_eq_zero hd) (Nat.dvd_mul_right m t)
  obtain ⟨s, hs⟩ := Nat.dvd_lcm_right 64 m
  have hpos := lcm_pos h0
  have hs1 : 1 ≤ s := by
    rcases Nat.eq_zero_or_pos s with h | h
    · subst h; omega
    · exact h
  have hs2 : m * s % 64 = 0 := by rw [← hs]; exact Nat.mod_eq_zero_of_dvd (Nat.dvd_lcm_left 64 m)
  have h2 : Nat.lcm 64 m ≤ m * t := Nat.le_of_dvd (by rw [Nat.mul_comm]; exact Nat.mul_pos (by omega) (by omega)) h1
  have h3 : t ≤ s := by
    rcases Nat.lt_or_ge s t with h | h
    · exact absurd hs2 (hno s hs1 h)
    · exact h
  have h4 : m * t ≤ m * s := Nat.mul_le_mul_left m h3
  omega
end Go.Proofs.YtpcoijjcjamgiaaDoor
namespace Go.Proofs.YtpcoijjcjamgiaaDoor
set_option linter.unusedVariables false
set_option linter.unusedSimpArgs false
open Go.RowKit Go.Maps Go.Sort Go.ChangeShapes Go.WideShapes Go.Joins

def finG (fb : Nat → Bool) (k : Nat) : List Bool := (List.range k).map fb
theorem finG_snoc (fb : Nat → Bool) (k : Nat) : finG fb (k + 1) = finG fb k ++ [fb k] := by simp [finG, List.range_succ]
/-- an automaton as it is made: its blocks bl, its marks fb, its rows R -/
structure MakeAt (B : Nat) (w : World) (q : Nat) (bv : Value) (bl : List Nat) (fb : Nat → Bool) (R : Nat → List Nat) (kf kn : Nat) (fv nv : Value) (RS : List Value) : Prop where
  blk : Blk w q 26 #[.int .i64 0, fv, bv, nv]
  fin : w.ownsRow B 4 1 fv kf ((finG fb kf).map .bool)
  out : w.ownsRow B 23 1 nv kn RS
  rows : ∀ j, j < kn → ∃ v, RS[j]? = some v ∧ w.ownsRow B 3 1 v (R j).length (natCells (R j))
  bk : w.ownsRow B 3 1 bv bl.length (natCells bl)
section
variable {B q kf kn : Nat} {w w' : World} {bv fv nv : Value} {bl : List Nat} {fb : Nat → Bool} {R : Nat → List Nat} {RS : List Value}
theorem MakeAt.below (h : MakeAt B w q bv bl fb R kf kn fv nv RS) (hb : Below w.heap.size w w') : MakeAt B w' q bv bl fb R kf kn fv nv RS where
  blk := h.blk.below hb h.blk.lt
  fin := own_under h.fin hb fun g hg => own_lt h.fin hg
  out := own_under h.out hb fun g hg => own_lt h.out hg
  rows := fun j hj => by
    obtain ⟨v, hv, hr⟩ := h.rows j hj
    exact ⟨v, hv, own_under hr hb fun g hg => own_lt hr hg⟩
  bk := own_under h.bk hb fun g hg => own_lt h.bk hg
theorem MakeAt.pushN {rv nv' : Value} {n : Nat} (h : MakeAt B w q bv bl fb R kf kn fv nv RS) (hn : (R kn).length = n) (hr : w.ownsRow B 3 1 rv n (natCells (R kn)))
    (hown : w'.ownsRow B 23 1 nv' (kn + 1) (RS ++ [rv])) (hgrow : w.grownBy w' nv.ownBlock) : MakeAt B (w'.setCell ⟨q, 3, none⟩ nv') q bv bl fb R kf (kn + 1) fv nv' (RS ++ [rv]) := by
  subst hn
  have hlen : RS.length = kn := by have := h.out.1; omega
  have q5 := h.blk.grown hgrow (fun e => own_blk_ne h.out h.blk (by decide) e.symm)
  have q6 := q5.set_ 3 nv'
  have keep : ∀ {e : TypeId} {n : Nat} {v : Value} {xs : List Value}, w.ownsRow B e 1 v n xs → e ≠ 23 → e ≠ 26 → (w'.setCell ⟨q, 3, none⟩ nv').ownsRow B e 1 v n xs := fun {e n v xs} hv h1 h2 => by
    refine own_sameP hv fun g hg => ?_
    exact (Below.heap_setCell _ ⟨q, 3, none⟩ _ g (fun e => own_blk_ne hv h.blk h2 (by rw [hg, e]))).trans (hgrow.block g (own_lt hv hg) fun e => own_ne hv h.out h1 g hg e.symm)
  refine ⟨by simpa using q6, keep h.fin (by decide) (by decide), own_set hown nv' (a := ⟨q, 3, none⟩) (own_blk_ne hown q5 (by decide)), fun j hj => ?_, keep h.bk (by decide) (by decide)⟩
  by_cases e : j = kn
  · subst e
    exact ⟨rv, by rw [List.getElem?_append_right (by omega), hlen]; simp, keep hr (by decide) (by decide)⟩
  · obtain ⟨v, hv, hr'⟩ := h.rows j (by omega)
    exact ⟨v, by rw [List.getElem?_append_left (by omega)]; exact hv, keep hr' (by decide) (by decide)⟩
theorem MakeAt.pushF {fv' : Value} (h : MakeAt B w q bv bl fb R kf kn fv nv RS) (hown : w'.ownsRow B 4 1 fv' (kf + 1) ((finG fb kf).map .bool ++ [.bool (fb kf)])) (hgrow : w.grownBy w' fv.ownBlock) :
    MakeAt B (w'.setCell ⟨q, 1, none⟩ fv') q bv bl fb R (kf + 1) kn fv' nv RS := by
  have q5 := h.blk.grown hgrow (fun e => own_blk_ne h.fin h.blk (by decide) e.symm)
  have q6 := q5.set_ 1 fv'
  have keep : ∀ {e : TypeId} {n : Nat} {v : Value} {xs : List Value}, w.ownsRow B e 1 v n xs → e ≠ 4 → e ≠ 26 → (w'.setCell ⟨q, 1, none⟩ fv').ownsRow B e 1 v n xs := fun {e n v xs} hv h1 h2 => by
    refine own_sameP hv fun g hg => ?_
    exact (Below.heap_setCell _ ⟨q, 1, none⟩ _ g (fun e => own_blk_ne hv h.blk h2 (by rw [hg, e]))).trans (hgrow.block g (own_lt hv hg) fun e => own_ne hv h.fin h1 g hg e.symm)
  refine ⟨by simpa using q6, ?_, keep h.out (by decide) (by decide), fun j hj => ?_, keep h.bk (by decide) (by decide)⟩
  · have := own_set hown fv' (a := ⟨q, 1, none⟩) (own_blk_ne hown q5 (by decide))
    rw [finG_snoc, List.map_append]
    exact this
  · obtain ⟨v, hv, hr'⟩ := h.rows j hj
    exact ⟨v, hv, keep hr' (by decide) (by decide)⟩
theorem MakeAt.done (h : MakeAt B w q bv bl fb R kf kf fv nv RS) : DfaAt w (.agg #[.int .i64 0, fv, bv, nv]) ⟨0, finG fb kf, intsOf bl, (List.range kf).map fun i => intsOf (R i)⟩ := by
  have hlen : RS.length = kf := by have := h.out.1; omega
  have hb := boolsAt_own h.fin
  refine ⟨fv, bv, nv, rfl, hb, (NatsAt.of_own h.bk).intsAt, ?_⟩
  rcases h.out.2 with ⟨rfl, h0⟩ | ⟨g, cap, cur, rfl, hB, hg, -⟩
  · exact ⟨none, 0, by simp [h0], .inl (by simp [h0])⟩
  · refine ⟨_, cap, by simp, .inr ⟨g, 0, rfl, own_lt h.out rfl, fun j r hj => ?_⟩⟩
    have hjl : j < kf := by have := (List.getElem?_eq_some_iff.1 hj).1; simpa using this
    obtain ⟨v, hv, hr⟩ := h.rows j hjl
    refine ⟨v, ?_, ?_⟩
    · rw [Nat.zero_add, h.out.cellAt j (by omega)]
      exact hv
    · have e : r = intsOf (R j) := by
        simp only [List.getElem?_map, List.getElem?_range hjl, Option.map_some, Option.some.injEq] at hj
        exact hj.symm
      rw [e]
      exact (NatsAt.of_own hr).intsAt
theorem MakeAt.off {w2 : World} {g : Nat} (h : MakeAt B w q bv bl fb R kf kn fv nv RS) (hg : g < B) (hgq : g ≠ q) (h2 : ∀ k, k ≠ g → w2.heap[k]? = w.heap[k]?) (hq : B ≤ q) : MakeAt B w2 q bv bl fb R kf kn fv nv RS := by
  have hge : ∀ {e : TypeId} {n : Nat} {v : Value} {xs : List Value}, w.ownsRow B e 1 v n xs → w2.ownsRow B e 1 v n xs := fun {e n v xs} hv => own_sameP hv fun k hk => h2 k (by have := (hv.lt k hk).1; omega)
  exact ⟨(h2 q (by omega)).trans h.blk, hge h.fin, hge h.out, fun j hj => by
    obtain ⟨v, hv, hr⟩ := h.rows j hj
    exact ⟨v, hv, hge hr⟩, hge h.bk⟩
end
theorem one_row (w : World) (B : Nat) (hB : B ≤ w.heap.size) (x : Nat) : (w.alloc (.cells #[.int .i64 (x : Int)] 3)).ownsRow B 3 1 (.slice (some ⟨w.heap.size, 0, none⟩) 1 1) 1 (natCells [x]) :=
  World.ownsRow_lit (base := B) (e := 3) (size := 1) w #[.int .i64 (x : Int)] 1 hB (by decide) (by simp)
set_option maxHeartbeats 8000000 in
set_option maxRecDepth 1000000 in
theorem round_any (n : Nat) (h0 : 1 ≤ n) (h1 : n ≤ 80) (w : World) :
    Calls Tryd.prog 10 #[.int .i64 n] w fun e w' => ∃ rv, e = .returned rv ∧ DfaAt w' rv (roundD n) ∧ Below w.heap.size w w' := by
  have hb0 := (Below.refl w.heap.size w).alloc (Nat.le_refl _) (.cells #[.int .i64 0, .slice none 0 0, .slice none 0 0, .slice none 0 0] 26)
  have hq0 := Blk.new w 26 #[.int .i64 0, .slice none 0 0, .slice none 0 0, .slice none 0 0]
  have hz0 : (w.alloc (.cells #[.int .i64 0, .slice none 0 0, .slice none 0 0, .slice none 0 0] 26)).heap.size = w.heap.size + 1 := by simp
  have H := Lib.hid (And.intro hb0 hq0)
  clear hb0 hq0
  obtain ⟨i0, hi, hz9, hz1, hz2⟩ := info_parts infoInt
  have hmade : (madeCells (Value.int .i64 0).cells (256 * 1)).toList = natCells zerosB := (made_one _ 256).trans (by unfold zerosB zerosN natCells; rw [List.map_replicate]; rfl)
  have HM := Lib.hid hmade
  clear hmade
  go_enter Tryd.func10, Tryd.ntmps10
  go_wp2_with (first
    | (at_make; refine wpList_make_full _ rfl _ _ 23 rfl (w.heap.size + 1) 3 i0 (.int .i64 0) 1 Tryd.underlying23 hi hz9 hz1 .i64 .i64 256 256 256 rfl rfl rfl rfl (by rw [hz2]; decide) (by decide) (by simp) ?_; intro w1 hown1 hgrow1)
    | go_in)
  rw [HM.out, hz0] at hown1
  have hB1 := (Below.refl w.heap.size w).trans H.out.1
  have hBw : Below (w.heap.size + 1) (w.alloc (.cells #[.int .i64 0, .slice none 0 0, .slice none 0 0, .slice none 0 0] 26)) w1 := below_of_grown hgrow1 (by simp) (fun _ h => by cases h)
  have hq1 := H.out.2.below hBw (by omega)
  have hz1' : w.heap.size + 1 < w1.heap.size := (hown1.lt _ rfl).2
  have hal := (Below.refl w1.heap.size w1).alloc (Nat.le_refl _) (.cells #[.int .i64 0, .slice none 0 0, .slice (some ⟨w.heap.size + 1, 0, none⟩) 256 256, .slice none 0 0] 26)
  have hA : MakeAt (w.heap.size + 1) (w1.alloc (.cells #[.int .i64 0, .slice none 0 0, .slice (some ⟨w.heap.size + 1, 0, none⟩) 256 256, .slice none 0 0] 26)) w1.heap.size (.slice (some ⟨w.heap.size + 1, 0, none⟩) 256 256) zerosB (fun i => decide (i = 0)) (rowR n) 0 0 (.slice none 0 0) (.slice none 0 0) [] :=
    ⟨Blk.new w1 _ _, World.ownsRow_nil _ _ _ _, World.ownsRow_nil _ _ _ _, fun j hj => by omega, by rw [zerosB_len]; exact own_under hown1 hal fun g hg => own_lt hown1 hg⟩
  have HA := Lib.hid (And.intro hA (And.intro (hq1.below hal (by omega)) ((hB1.trans (hBw.mono (by omega))).trans (hal.mono (by omega)))))
  clear hB1 hBw hq1 hal hA hown1 hgrow1 hi hz9 hz1 hz2 HM H
  go_wp2_with fail
  obtain ⟨q, hq⟩ : ∃ q, w1.heap.size = q := ⟨_, rfl⟩
  generalize w1.alloc (.cells #[.int .i64 0, .slice none 0 0, .slice (some ⟨w.heap.size + 1, 0, none⟩) 256 256, .slice none 0 0] 26) = W at *
  try rw [hq] at HA
  try rw [hq]
  try rw [hq] at hz1'
  clear hq
  go_loopw [4] (fun c4 wr => ∃ (i : Nat) (fv nv : Value) (RS : List Value), c4 = .int .i64 i ∧ i ≤ n ∧ Hid (MakeAt (w.heap.size + 1) wr q (.slice (some ⟨w.heap.size + 1, 0, none⟩) 256 256) zerosB (fun i => decide (i = 0)) (rowR n) i i fv nv RS ∧ Blk wr w.heap.size 26 #[.int .i64 0, .slice none 0 0, .slice none 0 0, .slice none 0 0] ∧ Below w.heap.size w wr)) (fun c _ => n - (intOf c).toNat)
  case atStart => exact ⟨0, _, _, _, rfl, by omega, HA⟩
  case round =>
    obtain ⟨i, fv, nv, RS, rfl, hi, HS⟩ := hrel
    obtain ⟨af, cf, rfl⟩ := own_slice HS.out.1.fin
    obtain ⟨an, cn, rfl⟩ := own_slice HS.out.1.out
    have hzr := HS.out.1.blk.lt
    by_cases hlt : i < n
    · obtain ⟨⟨y0, y1, y2, y3⟩, f0, f1, f2, f3⟩ := HS.out.1.blk.c4
      obtain ⟨i1, hi1, hz10, hz11, hz12⟩ := info_parts infoBool
      obtain ⟨e, he⟩ : ∃ e, ((i : Int) == 0) = e := ⟨_, rfl⟩
      have HE := Lib.hid (show decide (i = 0) = e by rw [← he]; by_cases h : i = 0 <;> simp [h])
      have ha1 := (Below.refl wr.heap.size wr).alloc (Nat.le_refl _) (.cells #[.bool e] 4)
      have H1 := Lib.hid (And.intro (HS.out.1.below ha1) (And.intro (HS.out.2.1.below ha1 HS.out.2.1.lt) (HS.out.2.2.trans (ha1.mono HS.out.2.2.size))))
      have hown1 := H1.out.1.fin
      have hone1 := one_at (w := wr) (u := .bool e) (t := 4)
      have hzq : w.heap.size + 1 < q := by omega
      obtain ⟨r, hr⟩ : ∃ r, (i + 1) % n = r := ⟨_, rfl⟩
      have hrem : Int.tmod ((i : Int) + 1) (n : Int) = (r : Int) := by rw [Int.tmod_eq_emod_of_nonneg (by omega), ← hr]; push_cast; rfl
      have hrl : r < n := by rw [← hr]; exact Nat.mod_lt _ h0
      have hwi : IntKind.i64.wrap ((i : Int) + 1) = (i : Int) + 1 := IntWalk.i64_in _ (by omega)
      have hwr : IntKind.i64.wrap (r : Int) = (r : Int) := IntWalk.i64_in _ (by omega)
      have HRR := Lib.hid hr
      clear ha1 hr
      go_wp2_with (at_builtin; refine wpList_append_lies _ rfl _ _ 22 rfl (w.heap.size + 1) 4 i1 (.bool false) 1 1 Tryd.underlying22 hi1 hz10 hz11 hz12 rfl (by decide) _ _ _ rfl hown1 ⟨wr.heap.size, 0, none⟩ 1 1 [.bool e] rfl rfl hone1 (fun u hu => by simp at hu; subst hu; rfl) (by decide) (by unfold maxLen; omega) (by omega) (by simp; omega) _ rfl ?_; intro g10 cap10 w10 hown10 hgrow10 hat10 hlt10; have q10 := H1.out.1.blk.grown hgrow10 (fun e => own_blk_ne hown1 H1.out.1.blk (by decide) e.symm); have e1' : w10.cell? ⟨q, 1, none⟩ = some (.slice af i cf) := q10.cell 1; have fz1' := q10.frozen 1; have r10 := H1.out.2.1.grown hgrow10 (fun e => own_blk_ne hown1 H1.out.2.1 (by decide) e.symm); have HP := Lib.hid (And.intro (H1.out.1.pushF (fv' := .slice (some ⟨g10, 0, none⟩) (i + 1) cap10) (by show w10.ownsRow _ _ _ _ _ (_ ++ [Value.bool (decide (i = 0))]); rw [HE.out]; exact hown10) (show _ from hgrow10)) (And.intro (r10.far (p := ⟨q, 1, none⟩) (by show w.heap.size ≠ q; omega) (.slice (some ⟨g10, 0, none⟩) (i + 1) cap10)) ((H1.out.2.2.grown hgrow10 H1.out.2.2.size (fun j e => by have := (hown1.lt j e).1; omega)).setCell (p := ⟨q, 1, none⟩) (by show w.heap.size ≤ q; omega) (.slice (some ⟨g10, 0, none⟩) (i + 1) cap10)))); clear hown10 hgrow10 hat10 q10 r10)
      clear y0 y1 y2 y3 f0 f1 f2 f3 e1' fz1' hown1 hone1 H1 HS
      generalize w10.setCell ⟨q, 1, none⟩ (.slice (some ⟨g10, 0, none⟩) (i + 1) cap10) = W10 at *
      obtain ⟨⟨-, -, -, z3⟩, -⟩ := HP.out.1.blk.c4
      refine wp_region_T [8, 9, 10] (by kernel_rfl) ?_
      intro V bb
      have lc : ∀ {p : Addr} {v : Value}, W10.cell? p = some v → ∀ d os, (Sort.grow (redrawn V d) os).cell? p = some v := fun {p v} hp d os => ((bb.trans ((below_regrown V d os).mono bb.size)).cell (World.block_lt_of_cell? W10 p hp)).trans hp
      have q0 := lc z3
      clear lc
      clear z3
      refine stepsQ [0, 1, 2, 3, 4, 5] (by kernel_rfl) (by kernel_rfl) (by kernel_rfl) (Grown.of_below (Below.refl _ _)) ?_
      simp only [atIdx, List.filterMap_cons, List.filterMap_nil, List.getElem?_toArray, List.getElem_toArray, List.getElem?_cons_zero, List.getElem?_cons_succ, List.getElem_cons_zero, List.getElem_cons_succ]
      iterate 6 (show wpQuiet _ _ _ _ (_ :: _) _; go_big_quiet_step (fail))
      refine wpQuiet_nil ?_
      show stepT _ _ _ _ _ _ _ _ _
      have hzV := bb.size
      have hqV := HP.out.1.blk.lt
      have hor := one_row V (w.heap.size + 1) (by omega) r
      have b6 := (Below.refl V.heap.size V).alloc (Nat.le_refl _) (.cells #[.int .i64 (r : Int)] 3)
      refine stepS (i := 6) rfl (by kernel_rfl) ?_
      intro K hK
      go_simp
      refine hK _ _ ⟨fun _ => Grown.of_below b6, ?_⟩
      clear hK K
      have hz6 : (V.alloc (.cells #[.int .i64 (r : Int)] 3)).heap.size = V.heap.size + 1 := by simp
      generalize V.alloc (.cells #[.int .i64 (r : Int)] 3) = V6 at *
      have hone7 := one_at (w := V6) (u := .slice (some ⟨V.heap.size, 0, none⟩) 1 1) (t := 23)
      have b7 := (Below.refl V6.heap.size V6).alloc (Nat.le_refl _) (.cells #[.slice (some ⟨V.heap.size, 0, none⟩) 1 1] 23)
      have b67 := b6.trans (b7.mono b6.size)
      refine stepS (i := 7) rfl (by kernel_rfl) ?_
      intro K hK
      go_simp
      refine hK _ _ ⟨fun _ => Grown.of_below b67, ?_⟩
      clear hK K
      have bA := bb.trans (b67.mono bb.size)
      have H7 := Lib.hid (And.intro (HP.out.1.below bA) (And.intro (HP.out.2.1.below bA HP.out.2.1.lt) (And.intro (HP.out.2.2.trans (bA.mono HP.out.2.2.size)) (own_under hor b7 fun g hg => own_lt hor hg))))
      have hown7 := H7.out.1.out
      obtain ⟨i2, hi2, hz20, hz21, hz22⟩ := info_parts infoRow
      refine stepS (i := 8) rfl (by kernel_rfl) ?_
      intro K hK
      refine step_append_lies _ rfl (.tmp 20) (.tmp 26) 24 rfl (w.heap.size + 1) 23 i2 (.slice none 0 0) 1 24 Tryd.underlying24 hi2 hz20 hz21 hz22 rfl (by decide) _ _ _ (by simp [Act.eval, Act.put]) hown7 ⟨V6.heap.size, 0, none⟩ 1 1 [.slice (some ⟨V.heap.size, 0, none⟩) 1 1] (by simp [Act.eval, Act.put]; try omega) rfl hone7 (fun u hu => by simp at hu; subst hu; rfl) (by decide) (by unfold maxLen; omega) (by omega) (by simp; omega) _ rfl ?_
      intro g14 cap14 w14 hown14 hgrow14 hat14 hlt14
      refine hK _ _ ⟨fun h => absurd (by decide) h, ?_⟩
      clear hK K
      have q14 := H7.out.1.blk.grown hgrow14 (fun e => own_blk_ne hown7 H7.out.1.blk (by decide) e.symm)
      have e3 : w14.cell? ⟨q, 3, none⟩ = some (.slice an i cn) := q14.cell 3
      have fz3 := q14.frozen 3
      have r14 := H7.out.2.1.grown hgrow14 (fun e => own_blk_ne hown7 H7.out.2.1 (by decide) e.symm)
      have HZ := Lib.hid (And.intro (H7.out.1.pushN (n := 1) rfl (by show World.ownsRow _ _ _ _ _ _ (natCells [(i + 1) % n]); rw [HRR.out]; exact H7.out.2.2.2) hown14 (show _ from hgrow14)) (And.intro (r14.far (p := ⟨q, 3, none⟩) (by show w.heap.size ≠ q; omega) (.slice (some ⟨g14, 0, none⟩) (i + 1) cap14)) ((H7.out.2.2.1.grown hgrow14 H7.out.2.2.1.size (fun j e => by have := (hown7.lt j e).1; omega)).setCell (p := ⟨q, 3, none⟩) (by show w.heap.size ≤ q; omega) (.slice (some ⟨g14, 0, none⟩) (i + 1) cap14))))
      clear hown14 hgrow14 hat14 hlt14 q14 r14 H7 hown7 hone7 bA b67 b7 b6 bb hor q0
      refine stepS (i := 9) rfl (by kernel_rfl) ?_
      intro K hK
      go_simp
      refine hK _ _ ⟨fun h => absurd (by decide) h, ?_⟩
      clear hK K
      refine stepS (i := 10) rfl (by kernel_rfl) ?_
      intro K hK
      go_simp
      refine hK _ _ ⟨fun h => absurd (by decide) h, ?_⟩
      clear hK K
      refine stepT_end (by kernel_rfl) ?_
      clear e3 fz3
      go_wp2_with fail
      go_roundw
      case rel => exact ⟨i + 1, _, _, _, by go_num, by omega, HZ.out⟩
      case measure => simp [intOf]; omega
    · obtain rfl : i = n := by omega
      have hD := HS.out.1.done
      obtain ⟨⟨y0, y1, y2, y3⟩, -⟩ := HS.out.1.blk.c4
      obtain ⟨⟨r0, r1, r2, r3⟩, f0, f1, f2, f3⟩ := HS.out.2.1.c4
      have hb4 := blk_set4 HS.out.2.1 (.int .i64 0) (.slice af i cf) (.slice (some ⟨w.heap.size + 1, 0, none⟩) 256 256) (.slice an i cn)
      obtain ⟨⟨r0', r1', r2', r3'⟩, -⟩ := hb4.c4
      have ho4 := only_set4 wr w.heap.size (.int .i64 0) (.slice af i cf) (.slice (some ⟨w.heap.size + 1, 0, none⟩) 256 256) (.slice an i cn)
      have hoff := (HS.out.1.off (w2 := (((wr.setCell ⟨w.heap.size, 0, none⟩ (.int .i64 0)).setCell ⟨w.heap.size, 1, none⟩ (.slice af i cf)).setCell ⟨w.heap.size, 2, none⟩ (.slice (some ⟨w.heap.size + 1, 0, none⟩) 256 256)).setCell ⟨w.heap.size, 3, none⟩ (.slice an i cn)) (g := w.heap.size) (by omega) (by omega) (fun k hk => set4_block wr w.heap.size _ _ _ _ k hk) (by omega)).done
      have HF := Lib.hid (And.intro hoff (HS.out.2.2.trans (ho4.below HS.out.2.2.size (by simp))))
      clear hoff ho4 hb4 hD
      go_wp2_with fail
      exact bodyPost_ret (v := .agg #[.int .i64 0, .slice af i cf, .slice (some ⟨w.heap.size + 1, 0, none⟩) 256 256, .slice an i cn]) (by simp [results, Tryd.results10, go_sem, r0', r1', r2', r3']) rfl ⟨_, rfl, HF.out.1, HF.out.2⟩
end Go.Proofs.YtpcoijjcjamgiaaDoor
namespace Go.Proofs.YtpcoijjcjamgiaaDoor
set_option linter.unusedVariables false
open Go.RowKit Go.Maps Go.Sort

structure BoxE where
  p : Nat
  cs : Array Value
  D : DfaI
structure Boxs (w W : World) (l : List BoxE) : Prop where
  bl : Below w.heap.size w W
  T : Pow10 W
  all : ∀ x ∈ l, Blk W x.p 26 x.cs ∧ DfaAt W (.agg x.cs) x.D
section
variable {w W W' : World} {l : List BoxE}
theorem Boxs.start (w : World) (hT : Pow10 w) : Boxs w w [] := ⟨Below.refl _ _, hT, fun x hx => by cases hx⟩
theorem Boxs.below (h : Boxs w W l) (hb : Below W.heap.size W W') : Boxs w W' l :=
  ⟨h.bl.trans (hb.mono h.bl.size), h.T.below hb (Nat.le_refl _), fun x hx => ⟨(h.all x hx).1.below hb (h.all x hx).1.lt, (h.all x hx).2.below hb⟩⟩
theorem Boxs.cons {p : Nat} {cs : Array Value} {D : DfaI} (h : Boxs w W l) (hq : Blk W p 26 cs) (hd : DfaAt W (.agg cs) D) : Boxs w W (⟨p, cs, D⟩ :: l) :=
  ⟨h.bl, h.T, fun x hx => by
    rcases List.mem_cons.1 hx with rfl | hx
    · exact ⟨hq, hd⟩
    · exact h.all x hx⟩
theorem Boxs.push {cs : Array Value} {D : DfaI} (h : Boxs w W l) (hd : DfaAt W (.agg cs) D) : Boxs w (W.alloc (.cells cs 26)) (⟨W.heap.size, cs, D⟩ :: l) :=
  have hal := (Below.refl W.heap.size W).alloc (Nat.le_refl _) (.cells cs 26)
  (h.below hal).cons (Blk.new W _ cs) (hd.below hal)
theorem Boxs.get {p : Nat} {cs : Array Value} {D : DfaI} (h : Boxs w W l) (hm : (⟨p, cs, D⟩ : BoxE) ∈ l) : Blk W p 26 cs ∧ DfaAt W (.agg cs) D := h.all _ hm
end
end Go.Proofs.YtpcoijjcjamgiaaDoor
