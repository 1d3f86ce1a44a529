/-
  The automaton of pairs: it is right and takes what is made of what both take: plain law. Conditions: both automata are right; there are at most 4096 pairs.
  All pairs of two automata, met one by one: however the bytes are put together, there are as many; each is met by some text. Conditions: both automata are right.
  The automaton of one word: it takes that word alone. Conditions: the word's bytes are bytes.
-/
import Derived.Test.YtmmlakheimfijaaGreatDoorJAuTwo
import Derived.Test.YtmmlakheimfijaaGreatDoorJSet
namespace Go.Proofs.YtmmlakheimfijaaGreatDoor
set_option linter.unusedVariables false
set_option linter.unusedSimpArgs false

abbrev Pr := Nat × Nat
def eqP (x y : Pr) : Bool := decide (x = y)
theorem eqP_refl (x : Pr) : eqP x x = true := by simp [eqP]
/-- the pair that a byte leads to -/
def stpA (A : DfaI) (p b : Nat) : Nat := A.aut.nx p (A.blk b)
def stpP (A B : DfaI) (p : Pr) (b : Nat) : Pr := (stpA A p.1 b, stpA B p.2 b)
def paP (A B : DfaI) (u : List Nat) : Pr := (A.aut.at_ A.blk u, B.aut.at_ B.blk u)
theorem paP_snoc (A B : DfaI) (u : List Nat) (b : Nat) : paP A B (u ++ [b]) = stpP A B (paP A B u) b := by
  unfold paP stpP stpA
  rw [Aut.at_app, Aut.at_app]
/-- blocks that are in one in both, and the least byte of each -/
structure MeetB (A B : DfaI) (mb fs : List Nat) : Prop where
  len : mb.length = 256
  ok : Bl.okTo (fun j => ((mb.getD j 0 : Nat) : Int)) 256 = true
  top : Bl.top (fun j => ((mb.getD j 0 : Nat) : Int)) 256 = (fs.length : Int)
  same : ∀ b c, b < 256 → c < 256 → mb.getD b 0 = mb.getD c 0 → A.blk b = A.blk c ∧ B.blk b = B.blk c
  first : ∀ k, k < fs.length → fs.getD k 0 < 256 ∧ mb.getD (fs.getD k 0) 0 = k
def nextP (A B : DfaI) (fs : List Nat) (p : Pr) : List Pr := fs.map (stpP A B p)
/-- all pairs, in the order in which they are met -/
structure AllP (A B : DfaI) (fs : List Nat) (o : List Pr) : Prop where
  head : ∃ t, o = (A.aut.start, B.aut.start) :: t
  nodup : o.Nodup
  clo : ∀ p ∈ o, ∀ k, k < fs.length → stpP A B p (fs.getD k 0) ∈ o
  lt : ∀ p ∈ o, p.1 < A.next.length ∧ p.2 < B.next.length
def prodD (A B : DfaI) (op : Bool → Bool → Bool) (mb fs : List Nat) (o : List Pr) : DfaI where
  start := 0
  fin := o.map fun p => op (A.aut.fin p.1) (B.aut.fin p.2)
  block := intsOf mb
  next := o.map fun p => intsOf ((nextP A B fs p).map (idxR' o))
where idxR' (o : List Pr) (p : Pr) : Nat := o.findIdx (eqP p)
abbrev idxP (o : List Pr) (p : Pr) : Nat := prodD.idxR' o p
theorem idxP_lt {o : List Pr} {p : Pr} (h : p ∈ o) : idxP o p < o.length := List.findIdx_lt_length.2 ⟨p, h, eqP_refl p⟩
theorem idxP_at {o : List Pr} {p : Pr} (h : p ∈ o) : o.getD (idxP o p) (0, 0) = p := by
  have hl := idxP_lt h
  rw [List.getD_eq_getElem?_getD, List.getElem?_eq_getElem hl]
  have := List.findIdx_getElem (p := eqP p) (w := hl)
  unfold eqP at this
  exact (of_decide_eq_true this).symm
section
variable {A B : DfaI} {op : Bool → Bool → Bool} {mb fs : List Nat} {o : List Pr}
theorem prodD_z (hm : MeetB A B mb fs) (j : Nat) (hj : j < 256) : (prodD A B op mb fs o).z j = ((mb.getD j 0 : Nat) : Int) := by
  unfold DfaI.z prodD intsOf
  simp only
  rw [List.getD_eq_getElem?_getD, List.getElem?_map, List.getElem?_eq_getElem (by rw [hm.len]; exact hj), List.getD_eq_getElem?_getD, List.getElem?_eq_getElem (by rw [hm.len]; exact hj)]
  rfl
theorem prodD_wide (hm : MeetB A B mb fs) : wideI (prodD A B op mb fs o) = (fs.length : Int) := by
  have hl : (prodD A B op mb fs o).block.length = 256 := by simp [prodD, intsOf, hm.len]
  obtain ⟨h3, h4⟩ := Bl.okTo_congr (prodD A B op mb fs o).z (fun j => ((mb.getD j 0 : Nat) : Int)) 256 fun k hk => prodD_z hm k hk
  have hr : Bl.right (prodD A B op mb fs o).z (prodD A B op mb fs o).block.length = true := by
    unfold Bl.right
    rw [hl, Bool.and_eq_true]
    exact ⟨by simp, by rw [h3]; exact hm.ok⟩
  unfold wideI countI
  rw [if_pos hr, Bl.most_top _ _ (by rw [h3]; exact hm.ok), h4, hm.top]
theorem fs_pos (hm : MeetB A B mb fs) : 0 < fs.length := by
  have h1 := ok_lt hm.ok (show 0 < 256 by omega)
  have h2 := ok_at hm.ok (show 0 < 256 by omega)
  rw [hm.top] at h1
  omega
theorem prodD_right (hm : MeetB A B mb fs) (ho : AllP A B fs o) (hl : o.length ≤ 4096) : RightD (prodD A B op mb fs o) where
  m1 := by obtain ⟨t, ht⟩ := ho.head; simp [prodD, ht]
  m2 := by simpa [prodD] using hl
  fin := by simp [prodD]
  s0 := Int.le_refl _
  s1 := by
    obtain ⟨t, ht⟩ := ho.head
    show (0 : Int) < ((o.map _).length : Int)
    rw [ht]
    simp
    try omega
  w0 := by rw [prodD_wide hm]; have := fs_pos hm; omega
  rows := fun r hr => by
    unfold prodD at hr
    obtain ⟨p, hp, rfl⟩ := List.mem_map.1 hr
    rw [prodD_wide hm]
    refine ⟨by simp [intsOf, nextP], fun n hn => ?_⟩
    unfold intsOf at hn
    obtain ⟨x, hx, rfl⟩ := List.mem_map.1 hn
    obtain ⟨q, hq, rfl⟩ := List.mem_map.1 hx
    unfold nextP at hq
    obtain ⟨c, hc, rfl⟩ := List.mem_map.1 hq
    obtain ⟨k, hk⟩ := List.getElem?_of_mem hc
    have hkl := (List.getElem?_eq_some_iff.1 hk).1
    have hin := ho.clo p hp k hkl
    have e : fs.getD k 0 = c := by rw [List.getD_eq_getElem?_getD, hk]; rfl
    rw [e] at hin
    have := idxP_lt hin
    have e2 : (prodD A B op mb fs o).next.length = o.length := by simp [prodD]
    rw [e2]
    change 0 ≤ ((idxP o (stpP A B p c) : Nat) : Int) ∧ ((idxP o (stpP A B p c) : Nat) : Int) < _
    omega
theorem prodD_blk (hm : MeetB A B mb fs) {b : Nat} (hb : b < 256) : (prodD A B op mb fs o).blk b = mb.getD b 0 := by
  unfold DfaI.blk blkF
  rw [prodD_z hm b hb]
  simp
theorem mb_lt (hm : MeetB A B mb fs) {b : Nat} (hb : b < 256) : mb.getD b 0 < fs.length := by
  have h1 := ok_lt hm.ok hb
  rw [hm.top] at h1
  omega
theorem stp_same (hm : MeetB A B mb fs) {b : Nat} (hb : b < 256) (p : Pr) : stpP A B p (fs.getD (mb.getD b 0) 0) = stpP A B p b := by
  obtain ⟨h1, h2⟩ := hm.first _ (mb_lt hm hb)
  obtain ⟨h3, h4⟩ := hm.same _ _ h1 hb h2
  unfold stpP stpA
  rw [h3, h4]
theorem prodD_nx (hm : MeetB A B mb fs) {i k : Nat} (hi : i < o.length) (hk : k < fs.length) : (prodD A B op mb fs o).aut.nx i k = idxP o (stpP A B (o.getD i (0, 0)) (fs.getD k 0)) := by
  show nxtF (prodD A B op mb fs o).nx i k = _
  unfold nxtF DfaI.nx prodD
  simp only [List.map_map]
  rw [List.getD_eq_getElem?_getD, List.getD_eq_getElem?_getD, List.getElem?_map, List.getElem?_eq_getElem hi]
  simp only [Option.map_some, Option.getD_some, Function.comp]
  rw [List.getElem?_map]
  unfold intsOf nextP
  rw [List.getElem?_map, List.getElem?_map, List.getElem?_map, List.getElem?_eq_getElem hk, List.getD_eq_getElem?_getD, List.getElem?_eq_getElem hi, List.getD_eq_getElem?_getD, List.getElem?_eq_getElem hk]
  rfl
theorem prodD_at (hm : MeetB A B mb fs) (ho : AllP A B fs o) : ∀ (n : Nat) (u : List Nat), u.length = n → Bytes u → paP A B u ∈ o ∧ (prodD A B op mb fs o).aut.at_ (prodD A B op mb fs o).blk u = idxP o (paP A B u)
  | 0, u, hn, hu => by
    obtain rfl := List.eq_nil_of_length_eq_zero hn
    obtain ⟨t, ht⟩ := ho.head
    refine ⟨by rw [ht]; exact List.mem_cons_self, ?_⟩
    show (0 : Int).toNat = _
    have e : paP A B [] = (A.aut.start, B.aut.start) := rfl
    rw [e]
    show 0 = o.findIdx (eqP (A.aut.start, B.aut.start))
    rw [ht, List.findIdx_cons, eqP_refl]
    rfl
  | n + 1, u, hn, hu => by
    have hne : u ≠ [] := by intro e; rw [e] at hn; cases hn
    have e : u = u.dropLast ++ [u.getLast hne] := (List.dropLast_concat_getLast hne).symm
    have hd : Bytes u.dropLast := fun b hb => hu b (List.dropLast_subset u hb)
    have hc := hu _ (List.getLast_mem hne)
    obtain ⟨h1, h2⟩ := prodD_at hm ho n u.dropLast (by simp [hn]) hd
    generalize u.dropLast = v at *
    generalize u.getLast hne = b at *
    subst e
    have hin := ho.clo _ h1 _ (mb_lt hm hc)
    rw [stp_same hm hc, ← paP_snoc] at hin
    refine ⟨hin, ?_⟩
    rw [Aut.at_app, h2, prodD_blk hm hc, prodD_nx hm (idxP_lt h1) (mb_lt hm hc), idxP_at h1, stp_same hm hc, ← paP_snoc]
theorem prodD_lang (hm : MeetB A B mb fs) (ho : AllP A B fs o) {u : List Nat} (hu : Bytes u) : langD (prodD A B op mb fs o) u = op (langD A u) (langD B u) := by
  obtain ⟨h1, h2⟩ := prodD_at (op := op) hm ho _ u rfl hu
  show (prodD A B op mb fs o).fin.getD _ false = _
  change (prodD A B op mb fs o).fin.getD ((prodD A B op mb fs o).aut.at_ (prodD A B op mb fs o).blk u) false = _
  rw [h2]
  have hl := idxP_lt h1
  have ha := idxP_at h1
  unfold prodD
  simp only
  rw [List.getD_eq_getElem?_getD, List.getElem?_map, List.getElem?_eq_getElem hl]
  rw [List.getD_eq_getElem?_getD, List.getElem?_eq_getElem hl] at ha
  simp only [Option.getD_some] at ha
  simp only [Option.map_some, Option.getD_some, ha]
  rfl
/-- what of the pairs' automaton comes out -/
noncomputable def opL (op : Bool → Bool → Bool) (A B : DfaI) : Lang := fun u => op (langD A u) (langD B u)
theorem ofD_prod (hm : MeetB A B mb fs) (ho : AllP A B fs o) (hl : o.length ≤ 4096) : ofD (prodD A B op mb fs o) = canonI (opL op A B) := by
  rw [ofD_pos (prodD_right hm ho hl)]
  exact canonI_congr fun u hu => prodD_lang hm ho hu
/-- how many pairs there are at most -/
theorem AllP.size (ho : AllP A B fs o) : o.length ≤ A.next.length * B.next.length := by
  have := nodup_sub (o.map fun p => p.1 * B.next.length + p.2) (List.range (A.next.length * B.next.length)) ?_ ?_
  · simpa using this
  · rw [List.nodup_iff_pairwise_ne, List.pairwise_map]
    have hn := ho.nodup
    rw [List.nodup_iff_pairwise_ne] at hn
    refine hn.imp_of_mem fun {x y} hx hy hne e => hne ?_
    have h1 := (ho.lt x hx).2
    have h2 := (ho.lt y hy).2
    obtain ⟨x1, x2⟩ := x
    obtain ⟨y1, y2⟩ := y
    simp only at e h1 h2
    have hd : x1 = y1 := by
      have e1 : (x1 * B.next.length + x2) / B.next.length = x1 := by
        rw [Nat.mul_comm, Nat.mul_add_div (by omega)]
        rw [Nat.div_eq_of_lt h1]; rfl
      have e2 : (y1 * B.next.length + y2) / B.next.length = y1 := by
        rw [Nat.mul_comm, Nat.mul_add_div (by omega)]
        rw [Nat.div_eq_of_lt h2]; rfl
      rw [← e1, e, e2]
    subst hd
    have : x2 = y2 := by omega
    subst this
    rfl
  · intro x hx
    obtain ⟨p, hp, rfl⟩ := List.mem_map.1 hx
    obtain ⟨h1, h2⟩ := ho.lt p hp
    rw [List.mem_range]
    calc p.1 * B.next.length + p.2 < p.1 * B.next.length + B.next.length := by omega
      _ = (p.1 + 1) * B.next.length := by rw [Nat.add_mul, Nat.one_mul]
      _ ≤ A.next.length * B.next.length := Nat.mul_le_mul_right _ h1
end

/-! the blocks that both have -/
def keyP (A B : DfaI) (i : Nat) : Int × Int := (A.z i, B.z i)
def mbP (A B : DfaI) : List Nat := (List.range 256).map (Bl.num (keyP A B))
def firstP (A B : DfaI) (k : Nat) : Nat := (List.range 256).findIdx fun b => decide (Bl.num (keyP A B) b = k)
def fsP (A B : DfaI) : List Nat := (List.range (Bl.many (keyP A B) 256)).map (firstP A B)
theorem mbP_at (A B : DfaI) {j : Nat} (h : j < 256) : (mbP A B).getD j 0 = Bl.num (keyP A B) j := by
  unfold mbP
  rw [List.getD_eq_getElem?_getD, List.getElem?_map, List.getElem?_range h]
  rfl
theorem mbP_meet (A B : DfaI) : MeetB A B (mbP A B) (fsP A B) := by
  obtain ⟨h1, h2⟩ := Bl.num_right (keyP A B) 256
  obtain ⟨h3, h4⟩ := Bl.okTo_congr (fun j => (((mbP A B).getD j 0 : Nat) : Int)) (fun k => ((Bl.num (keyP A B) k : Nat) : Int)) 256 fun k hk => by rw [mbP_at A B hk]
  refine ⟨by simp [mbP], by rw [h3]; exact h1, by rw [h4, h2]; simp [fsP], fun b c hb hc h => ?_, fun k hk => ?_⟩
  · rw [mbP_at A B hb, mbP_at A B hc] at h
    have := Bl.key_num (keyP A B) b c h
    unfold keyP at this
    injection this with e1 e2
    unfold DfaI.blk blkF
    rw [e1, e2]
    exact ⟨rfl, rfl⟩
  · have hk' : k < Bl.many (keyP A B) 256 := by simpa [fsP] using hk
    have e : (fsP A B).getD k 0 = firstP A B k := by
      unfold fsP
      rw [List.getD_eq_getElem?_getD, List.getElem?_map, List.getElem?_range hk']
      rfl
    obtain ⟨b, hb, hz⟩ := ok_onto (z := fun k => ((Bl.num (keyP A B) k : Nat) : Int)) 256 k (by omega) (by rw [h2]; omega)
    have hz' : Bl.num (keyP A B) b = k := by
      have h9 : ((Bl.num (keyP A B) b : Nat) : Int) = (k : Int) := hz
      omega
    have hlt : firstP A B k < (List.range 256).length := List.findIdx_lt_length.2 ⟨b, by simpa using hb, by simpa using hz'⟩
    have hat := List.findIdx_getElem (p := fun b => decide (Bl.num (keyP A B) b = k)) (w := hlt)
    rw [e]
    have h256 : firstP A B k < 256 := by simpa using hlt
    refine ⟨h256, ?_⟩
    rw [mbP_at A B h256]
    have h5 := of_decide_eq_true hat
    exact (congrArg (Bl.num (keyP A B)) (List.getElem_range hlt)).symm.trans h5

/-! all pairs, met one by one -/
def pairsL (A B : DfaI) : List Pr := bfs (addR eqP) (nextP A B (fsP A B)) (A.next.length * B.next.length + 1) 0 [(A.aut.start, B.aut.start)]
theorem pairsL_lt {A B : DfaI} (hA : RightD A) (hB : RightD B) : ∀ p ∈ pairsL A B, p.1 < A.next.length ∧ p.2 < B.next.length := by
  have eA : A.aut.many = A.next.length := A.nx_len
  have eB : B.aut.many = B.next.length := B.nx_len
  refine bfs_in (S := fun p : Pr => p.1 < A.next.length ∧ p.2 < B.next.length) (fun p hp q hq => ?_) _ _ _ (fun p hp => ?_)
  · unfold nextP at hq
    obtain ⟨c, hc, rfl⟩ := List.mem_map.1 hq
    obtain ⟨k, hk⟩ := List.getElem?_of_mem hc
    have h256 : c < 256 := by
      have := (mbP_meet A B).first k (List.getElem?_eq_some_iff.1 hk).1
      rw [List.getD_eq_getElem?_getD, hk] at this
      exact this.1
    unfold stpP stpA
    refine ⟨?_, ?_⟩
    · have := hA.ok.nxt p.1 _ (by rw [eA]; exact hp.1) (hA.blk.1.blk.lt c h256)
      rw [eA] at this
      exact this
    · have := hB.ok.nxt p.2 _ (by rw [eB]; exact hp.2) (hB.blk.1.blk.lt c h256)
      rw [eB] at this
      exact this
  · obtain rfl := List.mem_singleton.1 hp
    have h1 := hA.ok.st
    have h2 := hB.ok.st
    rw [eA] at h1
    rw [eB] at h2
    exact ⟨h1, h2⟩
theorem pairsL_nodup (A B : DfaI) : (pairsL A B).Nodup := by
  rw [List.nodup_iff_pairwise_ne]
  refine (bfs_apart _ _ _ _ (List.pairwise_singleton _ _)).imp fun {a b} h e => ?_
  simp [e, eqP] at h
theorem pairsL_all {A B : DfaI} (hA : RightD A) (hB : RightD B) : AllP A B (fsP A B) (pairsL A B) := by
  have hlt := pairsL_lt hA hB
  have hnd := pairsL_nodup A B
  have hhead : ∃ t, pairsL A B = (A.aut.start, B.aut.start) :: t := by
    obtain ⟨t, ht⟩ := bfs_pre eqP (nextP A B (fsP A B)) (A.next.length * B.next.length + 1) 0 [(A.aut.start, B.aut.start)]
    exact ⟨t, ht⟩
  have hsz : (pairsL A B).length ≤ A.next.length * B.next.length := by
    have h0 : AllP A B [] (pairsL A B) := ⟨hhead, hnd, fun p _ k hk => by simp at hk, hlt⟩
    exact h0.size
  have hh := bfs_handled eqP_refl (nextP A B (fsP A B)) (A.next.length * B.next.length + 1) 0 [(A.aut.start, B.aut.start)] (fun j x hj => by omega) (Nat.zero_le _) (by
    change (pairsL A B).length < _
    omega)
  refine ⟨hhead, hnd, fun p hp k hk => ?_, hlt⟩
  obtain ⟨j, hj⟩ := List.getElem?_of_mem hp
  have := hh j p (List.getElem?_eq_some_iff.1 hj).1 hj (stpP A B p ((fsP A B).getD k 0)) (List.mem_map.2 ⟨_, List.mem_of_getElem? (i := k) (by rw [List.getD_eq_getElem?_getD, List.getElem?_eq_getElem hk]; rfl), rfl⟩)
  obtain ⟨y, hy, hyp⟩ := List.any_eq_true.1 this
  have e : stpP A B p ((fsP A B).getD k 0) = y := of_decide_eq_true hyp
  rw [e]
  exact hy
end Go.Proofs.YtmmlakheimfijaaGreatDoor
namespace Go.Proofs.YtmmlakheimfijaaGreatDoor
set_option linter.unusedVariables false
set_option linter.unusedSimpArgs false

def pairsF (A B : DfaI) (fs : List Nat) : List Pr := bfs (addR eqP) (nextP A B fs) (A.next.length * B.next.length + 1) 0 [(A.aut.start, B.aut.start)]
theorem pairsL_eq (A B : DfaI) : pairsL A B = pairsF A B (fsP A B) := rfl
section
variable {A B : DfaI} {mb fs mb' fs' : List Nat}
theorem MeetB.byte (hm : MeetB A B mb fs) {c : Nat} (hc : c ∈ fs) : c < 256 := by
  obtain ⟨k, hk⟩ := List.getElem?_of_mem hc
  have := (hm.first k (List.getElem?_eq_some_iff.1 hk).1).1
  rw [List.getD_eq_getElem?_getD, hk] at this
  exact this
theorem stpP_lt (hA : RightD A) (hB : RightD B) {p : Pr} (h : p.1 < A.next.length ∧ p.2 < B.next.length) {c : Nat} (hc : c < 256) : (stpP A B p c).1 < A.next.length ∧ (stpP A B p c).2 < B.next.length := by
  have eA : A.aut.many = A.next.length := A.nx_len
  have eB : B.aut.many = B.next.length := B.nx_len
  unfold stpP stpA
  refine ⟨?_, ?_⟩
  · have := hA.ok.nxt p.1 _ (by rw [eA]; exact h.1) (hA.blk.1.blk.lt c hc)
    rw [eA] at this
    exact this
  · have := hB.ok.nxt p.2 _ (by rw [eB]; exact h.2) (hB.blk.1.blk.lt c hc)
    rw [eB] at this
    exact this
theorem start_lt (hA : RightD A) (hB : RightD B) : A.aut.start < A.next.length ∧ B.aut.start < B.next.length := by
  have eA : A.aut.many = A.next.length := A.nx_len
  have eB : B.aut.many = B.next.length := B.nx_len
  have h1 := hA.ok.st
  have h2 := hB.ok.st
  rw [eA] at h1
  rw [eB] at h2
  exact ⟨h1, h2⟩
theorem pairsF_nodup (A B : DfaI) (fs : List Nat) : (pairsF A B fs).Nodup := by
  rw [List.nodup_iff_pairwise_ne]
  refine (bfs_apart _ _ _ _ (List.pairwise_singleton _ _)).imp fun {a b} h e => ?_
  simp [e, eqP] at h
theorem nextP_in {S : Pr → Prop} (hm : ∀ c ∈ fs, c < 256) (hS : ∀ p c, S p → c < 256 → S (stpP A B p c)) (p : Pr) (hp : S p) : ∀ q ∈ nextP A B fs p, S q := fun q hq => by
  unfold nextP at hq
  obtain ⟨c, hc, rfl⟩ := List.mem_map.1 hq
  exact hS p c hp (hm c hc)
theorem pairsF_in {S : Pr → Prop} (hm : ∀ c ∈ fs, c < 256) (hS : ∀ p c, S p → c < 256 → S (stpP A B p c)) (h0 : S (A.aut.start, B.aut.start)) : ∀ p ∈ pairsF A B fs, S p :=
  bfs_in (S := S) (nextP_in hm hS) _ _ _ fun p hp => by
    obtain rfl := List.mem_singleton.1 hp
    exact h0
theorem pairsF_lt (hA : RightD A) (hB : RightD B) (hm : MeetB A B mb fs) : ∀ p ∈ pairsF A B fs, p.1 < A.next.length ∧ p.2 < B.next.length :=
  pairsF_in (S := fun p => p.1 < A.next.length ∧ p.2 < B.next.length) (fun c hc => hm.byte hc) (fun p c hp hc => stpP_lt hA hB hp hc) (start_lt hA hB)
theorem pairsF_reach (hm : MeetB A B mb fs) : ∀ p ∈ pairsF A B fs, ∃ u, Bytes u ∧ paP A B u = p :=
  pairsF_in (S := fun p => ∃ u, Bytes u ∧ paP A B u = p) (fun c hc => hm.byte hc) (fun p c ⟨u, hu, e⟩ hc => ⟨u ++ [c], hu.app (.one hc), by rw [paP_snoc, e]⟩) ⟨[], .nil, rfl⟩
theorem pairsF_head (A B : DfaI) (fs : List Nat) : ∃ t, pairsF A B fs = (A.aut.start, B.aut.start) :: t := by
  obtain ⟨t, ht⟩ := bfs_pre eqP (nextP A B fs) (A.next.length * B.next.length + 1) 0 [(A.aut.start, B.aut.start)]
  exact ⟨t, ht⟩
theorem pairsF_size (hA : RightD A) (hB : RightD B) (hm : MeetB A B mb fs) : (pairsF A B fs).length ≤ A.next.length * B.next.length := by
  have h0 : AllP A B [] (pairsF A B fs) := ⟨pairsF_head A B fs, pairsF_nodup A B fs, fun p _ k hk => by simp at hk, pairsF_lt hA hB hm⟩
  exact h0.size
theorem pairsF_all (hA : RightD A) (hB : RightD B) (hm : MeetB A B mb fs) : AllP A B fs (pairsF A B fs) := by
  have hsz := pairsF_size hA hB hm
  have hh := bfs_handled eqP_refl (nextP A B fs) (A.next.length * B.next.length + 1) 0 [(A.aut.start, B.aut.start)] (fun j x hj => by omega) (Nat.zero_le _) (by
    change (pairsF A B fs).length < _
    omega)
  refine ⟨pairsF_head A B fs, pairsF_nodup A B fs, fun p hp k hk => ?_, pairsF_lt hA hB hm⟩
  obtain ⟨j, hj⟩ := List.getElem?_of_mem hp
  have := hh j p (List.getElem?_eq_some_iff.1 hj).1 hj (stpP A B p (fs.getD k 0)) (List.mem_map.2 ⟨_, List.mem_of_getElem? (i := k) (by rw [List.getD_eq_getElem?_getD, List.getElem?_eq_getElem hk]; rfl), rfl⟩)
  obtain ⟨y, hy, hyp⟩ := List.any_eq_true.1 this
  have e : stpP A B p (fs.getD k 0) = y := of_decide_eq_true hyp
  rw [e]
  exact hy
theorem paP_in (hm : MeetB A B mb fs) {o : List Pr} (ho : AllP A B fs o) {u : List Nat} (hu : Bytes u) : paP A B u ∈ o := (prodD_at (op := fun x _ => x) hm ho _ u rfl hu).1
theorem pairsF_len (hA : RightD A) (hB : RightD B) (hm : MeetB A B mb fs) (hm' : MeetB A B mb' fs') : (pairsF A B fs).length = (pairsF A B fs').length := by
  refine Nat.le_antisymm ?_ ?_
  · refine nodup_sub _ _ (pairsF_nodup A B fs) fun p hp => ?_
    obtain ⟨u, hu, rfl⟩ := pairsF_reach hm p hp
    exact paP_in hm' (pairsF_all hA hB hm') hu
  · refine nodup_sub _ _ (pairsF_nodup A B fs') fun p hp => ?_
    obtain ⟨u, hu, rfl⟩ := pairsF_reach hm' p hp
    exact paP_in hm (pairsF_all hA hB hm) hu
/-- each byte by itself -/
theorem top_range (n : Nat) (hn : n ≤ 256) : Bl.okTo (fun j => (((List.range 256).getD j 0 : Nat) : Int)) n = true ∧ Bl.top (fun j => (((List.range 256).getD j 0 : Nat) : Int)) n = (n : Int) := by
  induction n with
  | zero => exact ⟨rfl, rfl⟩
  | succ n ih =>
    obtain ⟨h1, h2⟩ := ih (by omega)
    have e : (((List.range 256).getD n 0 : Nat) : Int) = (n : Int) := by
      rw [List.getD_eq_getElem?_getD, List.getElem?_range (by omega)]
      rfl
    rw [Bl.okTo_succ, Bl.top_succ, h1, h2, e]
    refine ⟨by simp, by simp⟩
theorem meet_range (A B : DfaI) : MeetB A B (List.range 256) (List.range 256) where
  len := List.length_range
  ok := (top_range 256 (Nat.le_refl _)).1
  top := by rw [(top_range 256 (Nat.le_refl _)).2, List.length_range]
  same := fun b c hb hc h => by
    rw [List.getD_eq_getElem?_getD, List.getElem?_range hb, List.getD_eq_getElem?_getD, List.getElem?_range hc] at h
    obtain rfl : b = c := h
    exact ⟨rfl, rfl⟩
  first := fun k hk => by
    have hk' : k < 256 := by rw [List.length_range] at hk; exact hk
    have e : (List.range 256).getD k 0 = k := by
      rw [List.getD_eq_getElem?_getD, List.getElem?_range hk']
      rfl
    rw [e, e]
    exact ⟨hk', rfl⟩
theorem pairs_any (hA : RightD A) (hB : RightD B) : (pairsF A B (List.range 256)).length = (pairsL A B).length := pairsF_len hA hB (meet_range A B) (mbP_meet A B)
/-- the other way round -/
theorem paP_swap (u : List Nat) : paP B A u = ((paP A B u).2, (paP A B u).1) := rfl
theorem pairs_swap (hA : RightD A) (hB : RightD B) : (pairsL B A).length = (pairsL A B).length := by
  rw [← pairs_any hA hB, ← pairs_any hB hA]
  have key : ∀ {A B : DfaI}, RightD A → RightD B → (pairsF B A (List.range 256)).length ≤ (pairsF A B (List.range 256)).length := fun {A B} hA hB => by
    have := nodup_sub ((pairsF B A (List.range 256)).map fun p => (p.2, p.1)) (pairsF A B (List.range 256)) ?_ ?_
    · rw [List.length_map] at this; exact this
    · rw [List.nodup_iff_pairwise_ne, List.pairwise_map]
      have hn := pairsF_nodup B A (List.range 256)
      rw [List.nodup_iff_pairwise_ne] at hn
      refine hn.imp fun {x y} hne e => hne ?_
      injection e with e1 e2
      exact Prod.ext e2 e1
    · intro p hp
      obtain ⟨q, hq, rfl⟩ := List.mem_map.1 hp
      obtain ⟨u, hu, rfl⟩ := pairsF_reach (meet_range B A) q hq
      exact paP_in (meet_range A B) (pairsF_all hA hB (meet_range A B)) (u := u) hu
  exact Nat.le_antisymm (key hA hB) (key hB hA)
end
end Go.Proofs.YtmmlakheimfijaaGreatDoor
namespace Go.Proofs.YtmmlakheimfijaaGreatDoor
set_option linter.unusedVariables false
set_option linter.unusedSimpArgs false
open Cs

/-- its bytes, each once -/
def dsW (l : List Nat) : List Nat := l.foldl addN []
def sfW (ds : List Nat) (j : Nat) : Nat → Int := ofS (ds.getD j 0) (ds.getD j 0)
def fW (l : List Nat) : Nat → List Bool := memF (sfW (dsW l)) (dsW l).length
def blkW (l : List Nat) (b : Nat) : Nat := Bl.num (fW l) b
def bW (l : List Nat) : List Nat := (List.range 256).map (blkW l)
def wideW (l : List Nat) : Nat := Bl.many (fW l) 256
def rowW (l : List Nat) (i : Nat) : List Nat := if i < l.length then (List.replicate (wideW l) (l.length + 1)).set (blkW l (l.getD i 0)) (i + 1) else List.replicate (wideW l) (l.length + 1)
def wordD (l : List Nat) : DfaI := ⟨0, (List.range (l.length + 2)).map fun i => decide (i = l.length), intsOf (bW l), (List.range (l.length + 2)).map fun i => intsOf (rowW l i)⟩
theorem foldN_mem : ∀ (l o : List Nat) (y : Nat), y ∈ l.foldl addN o ↔ y ∈ o ∨ y ∈ l
  | [], o, y => by simp
  | x :: l, o, y => by
    rw [List.foldl_cons, foldN_mem l, addN_mem, List.mem_cons]
    constructor
    · rintro ((h | h) | h)
      · exact .inl h
      · exact .inr (.inl h)
      · exact .inr (.inr h)
    · rintro (h | h | h)
      · exact .inl (.inl h)
      · exact .inl (.inr h)
      · exact .inr h
theorem dsW_mem {l : List Nat} {y : Nat} : y ∈ dsW l ↔ y ∈ l := by
  unfold dsW
  rw [foldN_mem]
  simp
theorem foldN_len : ∀ (l o : List Nat), (l.foldl addN o).length ≤ o.length + l.length
  | [], o => by simp
  | x :: l, o => by
    rw [List.foldl_cons, List.length_cons]
    have h1 := foldN_len l (addN o x)
    have h2 := (addN_len o x).2
    omega
theorem dsW_len (l : List Nat) : (dsW l).length ≤ l.length := by
  have := foldN_len l []
  unfold dsW
  simpa using this
theorem hasS_one (c b : Nat) : hasS (ofS c c) b = decide (b = c) := by
  rw [has_of]
  congr 1
  apply propext
  omega
theorem fW_iff {l : List Nat} {b c : Nat} (hc : c ∈ l) : fW l b = fW l c ↔ b = c := by
  constructor
  · intro h
    obtain ⟨j, hj⟩ := List.getElem?_of_mem (dsW_mem.2 hc)
    have hl := (List.getElem?_eq_some_iff.1 hj).1
    have h1 := congrArg (fun m => m[j]?) h
    simp only [fW, memF, List.getElem?_map, List.getElem?_range hl, Option.map_some, Option.some.injEq] at h1
    have e : sfW (dsW l) j = ofS c c := by
      unfold sfW
      rw [List.getD_eq_getElem?_getD, hj]
      rfl
    rw [e, hasS_one, hasS_one] at h1
    simpa using h1
  · rintro rfl
    rfl
theorem blkW_iff {l : List Nat} {b c : Nat} (hc : c ∈ l) : blkW l b = blkW l c ↔ b = c := by
  unfold blkW
  rw [Bl.num_iff, fW_iff hc]
theorem wordD_z {l : List Nat} {j : Nat} (hj : j < 256) : (wordD l).z j = ((blkW l j : Nat) : Int) := by
  unfold DfaI.z wordD intsOf bW
  simp only
  rw [List.getD_eq_getElem?_getD, List.getElem?_map, List.getElem?_map, List.getElem?_range hj]
  rfl
theorem wordD_blk {l : List Nat} {b : Nat} (hb : b < 256) : (wordD l).blk b = blkW l b := by
  unfold DfaI.blk blkF
  rw [wordD_z hb]
  simp
theorem wordD_wide (l : List Nat) : wideI (wordD l) = (wideW l : Int) := by
  have hl : (wordD l).block.length = 256 := by simp [wordD, intsOf, bW]
  obtain ⟨h1, h2⟩ := Bl.num_right (fW l) 256
  obtain ⟨h3, h4⟩ := Bl.okTo_congr (wordD l).z (fun k => ((Bl.num (fW l) k : Nat) : Int)) 256 fun k hk => wordD_z hk
  have hr : Bl.right (wordD l).z (wordD l).block.length = true := by
    unfold Bl.right
    rw [hl, Bool.and_eq_true]
    exact ⟨by simp, by rw [h3]; exact h1⟩
  unfold wideI countI
  rw [if_pos hr, Bl.most_top _ _ (by rw [h3]; exact h1), h4, h2]
  rfl
theorem wideW_pos (l : List Nat) : 0 < wideW l := by
  obtain ⟨h1, h2⟩ := Bl.num_right (fW l) 256
  have h3 := ok_lt h1 (show 0 < 256 by omega)
  have h4 := ok_at h1 (show 0 < 256 by omega)
  rw [h2] at h3
  unfold wideW
  omega
theorem wideW_le (l : List Nat) : wideW l ≤ 256 := Bl.many_le _ _
theorem blkW_lt {l : List Nat} {b : Nat} (hb : b < 256) : blkW l b < wideW l := by
  obtain ⟨h1, h2⟩ := Bl.num_right (fW l) 256
  have h3 := ok_lt h1 hb
  rw [h2] at h3
  unfold blkW wideW
  omega
theorem rowW_len (l : List Nat) (i : Nat) : (rowW l i).length = wideW l := by
  unfold rowW
  split <;> simp
theorem rowW_in {l : List Nat} {i x : Nat} (h : x ∈ rowW l i) : x < l.length + 2 := by
  unfold rowW at h
  split at h
  · rcases List.mem_or_eq_of_mem_set h with h1 | h1
    · have := List.eq_of_mem_replicate h1
      omega
    · omega
  · have := List.eq_of_mem_replicate h
    omega
theorem rowW_at {l : List Nat} {i k : Nat} (hk : k < wideW l) : (rowW l i).getD k 0 = if i < l.length ∧ k = blkW l (l.getD i 0) then i + 1 else l.length + 1 := by
  unfold rowW
  rw [List.getD_eq_getElem?_getD]
  by_cases h1 : i < l.length
  · rw [if_pos h1]
    by_cases h2 : k = blkW l (l.getD i 0)
    · rw [if_pos ⟨h1, h2⟩, ← h2, List.getElem?_set_self (by simpa using hk)]
      rfl
    · rw [if_neg (fun h => h2 h.2), List.getElem?_set_ne (fun h => h2 h.symm), List.getElem?_replicate, if_pos hk]
      rfl
  · rw [if_neg h1, if_neg (fun h => h1 h.1), List.getElem?_replicate, if_pos hk]
    rfl
theorem wordD_right {l : List Nat} (hl : l.length ≤ 4094) : RightD (wordD l) where
  m1 := by simp [wordD]
  m2 := by simp [wordD]; omega
  fin := by simp [wordD]
  s0 := Int.le_refl _
  s1 := by
    show (0 : Int) < (((List.range (l.length + 2)).map _).length : Int)
    simp
    try omega
  w0 := by rw [wordD_wide]; have := wideW_pos l; omega
  rows := fun r hr => by
    unfold wordD at hr
    obtain ⟨i, hi, rfl⟩ := List.mem_map.1 hr
    rw [wordD_wide]
    refine ⟨by simp [intsOf, rowW_len], fun n hn => ?_⟩
    unfold intsOf at hn
    obtain ⟨x, hx, rfl⟩ := List.mem_map.1 hn
    have := rowW_in hx
    have e2 : (wordD l).next.length = l.length + 2 := by simp [wordD]
    rw [e2]
    omega
theorem wordD_in {l : List Nat} (hl : l.length ≤ 4094) : (wordD l).In where
  start := by show In64 0; unfold In64; omega
  fin := by simp [wordD]; omega
  block := by
    refine ⟨by simp [wordD, intsOf, bW], fun x hx => ?_⟩
    unfold wordD intsOf bW at hx
    simp only [List.map_map, List.mem_map, Function.comp] at hx
    obtain ⟨b, hb, rfl⟩ := hx
    have := blkW_lt (l := l) (b := b) (by simpa using hb)
    have := wideW_le l
    unfold In64
    omega
  many := by simp [wordD]; omega
  rows := fun r hr => by
    unfold wordD at hr
    obtain ⟨i, hi, rfl⟩ := List.mem_map.1 hr
    refine ⟨by simp [intsOf, rowW_len]; have := wideW_le l; omega, fun x hx => ?_⟩
    unfold intsOf at hx
    obtain ⟨y, hy, rfl⟩ := List.mem_map.1 hx
    have := rowW_in hy
    unfold In64
    omega
theorem wordD_nx {l : List Nat} {i k : Nat} (hi : i < l.length + 2) (hk : k < wideW l) : (wordD l).aut.nx i k = if i < l.length ∧ k = blkW l (l.getD i 0) then i + 1 else l.length + 1 := by
  rw [← rowW_at hk]
  show nxtF (wordD l).nx i k = _
  unfold nxtF DfaI.nx wordD
  simp only [List.map_map]
  rw [List.getD_eq_getElem?_getD, List.getD_eq_getElem?_getD, List.getElem?_map, List.getElem?_range hi]
  simp only [Option.map_some, Option.getD_some, Function.comp]
  unfold intsOf
  rw [List.getElem?_map, List.getElem?_map, List.getElem?_eq_getElem (by rw [rowW_len]; exact hk), List.getD_eq_getElem?_getD, List.getElem?_eq_getElem (by rw [rowW_len]; exact hk)]
  rfl
/-- where it is behind a text -/
def stW (l u : List Nat) : Nat := if u.isPrefixOf l = true then u.length else l.length + 1
theorem stW_pre {l u : List Nat} (h : u <+: l) : stW l u = u.length := by unfold stW; rw [if_pos (List.isPrefixOf_iff_prefix.2 h)]
theorem stW_not {l u : List Nat} (h : ¬ u <+: l) : stW l u = l.length + 1 := by unfold stW; rw [if_neg (fun e => h (List.isPrefixOf_iff_prefix.1 e))]
theorem snoc_pre {l u : List Nat} {b : Nat} : u ++ [b] <+: l ↔ u <+: l ∧ u.length < l.length ∧ l.getD u.length 0 = b := by
  constructor
  · rintro ⟨t, rfl⟩
    refine ⟨⟨[b] ++ t, by simp⟩, by simp; try omega, ?_⟩
    rw [List.getD_eq_getElem?_getD, List.append_assoc, List.getElem?_append_right (Nat.le_refl _)]
    simp
  · rintro ⟨⟨t, rfl⟩, h1, h2⟩
    cases t with
    | nil => simp at h1
    | cons a t =>
      rw [List.getD_eq_getElem?_getD, List.getElem?_append_right (Nat.le_refl _)] at h2
      simp at h2
      subst h2
      exact ⟨t, by simp⟩
theorem wordD_at {l : List Nat} (hb : Bytes l) : ∀ (n : Nat) (u : List Nat), u.length = n → Bytes u → (wordD l).aut.at_ (wordD l).blk u = stW l u
  | 0, u, hn, hu => by
    obtain rfl := List.eq_nil_of_length_eq_zero hn
    rw [stW_pre (List.nil_prefix)]
    rfl
  | n + 1, u, hn, hu => by
    have hne : u ≠ [] := by intro e; rw [e] at hn; cases hn
    have e : u = u.dropLast ++ [u.getLast hne] := (List.dropLast_concat_getLast hne).symm
    have hd : Bytes u.dropLast := fun b hb => hu b (List.dropLast_subset u hb)
    have hc := hu _ (List.getLast_mem hne)
    have ih := wordD_at hb n u.dropLast (by simp [hn]) hd
    generalize u.dropLast = v at *
    generalize u.getLast hne = b at *
    subst e
    have hk := blkW_lt (l := l) hc
    rw [Aut.at_app, ih, wordD_blk hc]
    by_cases h1 : v <+: l
    · have hlen := h1.length_le
      rw [stW_pre h1, wordD_nx (by omega) hk]
      by_cases h2 : v.length < l.length
      · have hm : l.getD v.length 0 ∈ l := by
          rw [List.getD_eq_getElem?_getD, List.getElem?_eq_getElem h2]
          exact List.getElem_mem h2
        by_cases h3 : l.getD v.length 0 = b
        · rw [if_pos ⟨h2, by rw [h3]⟩, stW_pre (snoc_pre.2 ⟨h1, h2, h3⟩)]
          simp
        · rw [if_neg (fun h => h3 ((blkW_iff hm).1 h.2).symm), stW_not (fun h => h3 (snoc_pre.1 h).2.2)]
      · rw [if_neg (fun h => h2 h.1), stW_not (fun h => h2 (snoc_pre.1 h).2.1)]
    · rw [stW_not h1, wordD_nx (by omega) hk, if_neg (fun h => by omega), stW_not (fun h => h1 (snoc_pre.1 h).1)]
theorem wordD_lang {l u : List Nat} (hb : Bytes l) (hu : Bytes u) : langD (wordD l) u = decide (u = l) := by
  have h := wordD_at hb _ u rfl hu
  show (wordD l).fin.getD ((wordD l).aut.at_ (wordD l).blk u) false = _
  rw [h]
  have hf : ∀ i, i < l.length + 2 → (wordD l).fin.getD i false = decide (i = l.length) := fun i hi => by
    unfold wordD
    simp only
    rw [List.getD_eq_getElem?_getD, List.getElem?_map, List.getElem?_range hi]
    rfl
  by_cases h1 : u <+: l
  · have hlen := h1.length_le
    rw [stW_pre h1, hf _ (by omega)]
    congr 1
    apply propext
    constructor
    · exact fun e => h1.eq_of_length e
    · exact fun e => by rw [e]
  · rw [stW_not h1, hf _ (by omega), decide_eq_false (by omega), decide_eq_false (fun e => h1 (by rw [e]; exact List.prefix_refl _))]
end Go.Proofs.YtmmlakheimfijaaGreatDoor
