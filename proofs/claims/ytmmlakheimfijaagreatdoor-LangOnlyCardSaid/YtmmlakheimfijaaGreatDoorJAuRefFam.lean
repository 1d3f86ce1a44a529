/-
  The reference's ways: states reached by rounds, states unlike by rounds, and the least automaton out of both: plain law. Conditions: the automaton is right.
  The walk of the reference's Reached: the states reached, by rounds. Conditions: the automaton lies in memory.
  The walk of the reference's unlike: which states some text tells apart, by rounds. Conditions: the automaton is right.
  The walk of the reference's same: do two bytes lead from each reached state to states that are alike? Conditions: the automaton is right.
  Rows of numbers that lie apart; searches; what the reference's Of gathers: plain words. Conditions: each lemma says its own.
-/
import Derived.Test.YtmmlakheimfijaaGreatDoorJAuTwo
import Derived.Test.YtmmlakheimfijaaGreatDoorJDfa
namespace Go.Proofs.YtmmlakheimfijaaGreatDoor
set_option linter.unusedVariables false
set_option linter.unusedSimpArgs false

/-! states reached, by rounds -/
def cntS (d : Aut) (S : Nat → Bool) : Nat := ((List.range d.many).filter S).length
def ClosedS (d : Aut) (S : Nat → Bool) : Prop := ∀ p j, S p = true → j < d.wide → S (d.nx p j) = true
structure SeenI (d : Aut) (S0 S : Nat → Bool) (n k : Nat) : Prop where
  sub : ∀ p, S0 p = true → S p = true
  ok : ∀ p, S p = true → Reach d p
  st : S d.start = true
  clo : ∀ C : Nat → Prop, (∀ p, S0 p = true → C p) → (∀ p j, C p → j < d.wide → C (d.nx p j)) → ∀ p, S p = true → C p
  done : ∀ p j, (p < n ∨ p = n ∧ j < k) → j < d.wide → S0 p = true → S (d.nx p j) = true
structure RoundS (d : Aut) (S : Nat → Bool) (r : Nat) : Prop where
  ok : ∀ p, S p = true → Reach d p
  st : S d.start = true
  grow : ClosedS d S ∨ r + 1 ≤ cntS d S
def setS (S : Nat → Bool) (x : Nat) : Nat → Bool := fun p => if p = x then true else S p
section
variable {d : Aut} {S0 S : Nat → Bool} {n k r : Nat}
theorem RoundS.begin (h : RoundS d S r) : SeenI d S S 0 0 := ⟨fun p hp => hp, h.ok, h.st, fun C hC _ p hp => hC p hp, fun p j hj => by omega⟩
theorem SeenI.step (h : SeenI d S0 S n k) (hS : S n = true) (hk : k < d.wide) : SeenI d S0 (setS S (d.nx n k)) n (k + 1) := by
  have hle : ∀ p, S p = true → setS S (d.nx n k) p = true := fun p hp => by unfold setS; split <;> simp_all
  refine ⟨fun p hp => hle p (h.sub p hp), fun p hp => ?_, hle _ h.st, fun C hC hs p hp => ?_, fun p j hj hjw hp => ?_⟩
  · unfold setS at hp
    split at hp
    · rename_i e; rw [e]; exact (h.ok n hS).nx hk
    · exact h.ok p hp
  · unfold setS at hp
    split at hp
    · rename_i e; rw [e]; exact hs n k (h.clo C hC hs n hS) hk
    · exact h.clo C hC hs p hp
  · by_cases e : p = n ∧ j = k
    · obtain ⟨rfl, rfl⟩ := e
      unfold setS; rw [if_pos rfl]
    · exact hle _ (h.done p j (by omega) hjw hp)
theorem SeenI.next (h : SeenI d S0 S n d.wide) : SeenI d S0 S (n + 1) 0 := ⟨h.sub, h.ok, h.st, h.clo, fun p j hj hjw hp => h.done p j (by omega) hjw hp⟩
theorem SeenI.skip (h : SeenI d S0 S n k) (hS : S n = false) : SeenI d S0 S (n + 1) 0 := ⟨h.sub, h.ok, h.st, h.clo, fun p j hj hjw hp => by
  by_cases e : p = n
  · subst e
    have := h.sub p hp
    rw [hS] at this; cases this
  · exact h.done p j (by omega) hjw hp⟩
theorem SeenI.round (hd : d.Ok) (h0 : RoundS d S0 r) (h : SeenI d S0 S d.many 0) : RoundS d S (r + 1) := by
  have hdone : ∀ p j, j < d.wide → S0 p = true → S (d.nx p j) = true := fun p j hj hp => h.done p j (.inl ((h0.ok p hp).lt hd)) hj hp
  refine ⟨h.ok, h.st, ?_⟩
  by_cases he : ∀ p, S p = true → S0 p = true
  · left
    exact fun p j hp hj => hdone p j hj (he p hp)
  · rcases h0.grow with hc | hc
    · exact absurd (fun p hp => h.clo (fun q => S0 q = true) (fun q hq => hq) (fun q j hq hj => hc q j hq hj) p hp) he
    · right
      have : ∃ y, S y = true ∧ ¬ S0 y = true := by
        refine Classical.byContradiction fun hn => he fun p hp => ?_
        refine Classical.byContradiction fun hq => hn ⟨p, hp, hq⟩
      obtain ⟨y, hy, hny⟩ := this
      have := Aut.filter_lt (l := List.range d.many) (P := S0) (Q := S) (fun x _ hx => h.sub x hx) (y := y) (by simpa using (h.ok y hy).lt hd) hy hny
      unfold cntS at hc ⊢
      omega
theorem RoundS.end_ (hd : d.Ok) (h : RoundS d S d.many) : (List.range d.many).filter S = reachL d := by
  have hc : ClosedS d S := by
    rcases h.grow with hc | hc
    · exact hc
    · have : cntS d S ≤ d.many := Nat.le_trans (List.length_filter_le _ _) (by simp)
      omega
  have hall : ∀ p, Reach d p → S p = true := fun p ⟨ws, hw, e⟩ => by
    subst e
    have : ∀ (ws : List Nat) (p : Nat), S p = true → d.Word ws → S (d.run p ws) = true := by
      intro ws
      induction ws with
      | nil => intro p hp _; exact hp
      | cons k ws ih => intro p hp hw; exact ih _ (hc p k hp (hw k (by simp))) fun j hj => hw j (by simp [hj])
    exact this ws _ h.st hw
  unfold reachL
  refine List.filter_congr fun p hp => ?_
  cases hs : S p with
  | true => simp [h.ok p hs]
  | false =>
    have : ¬ Reach d p := fun hr => by rw [hall p hr] at hs; cases hs
    simp [this]
theorem RoundS.start (hd : d.Ok) : RoundS d (setS (fun _ => false) d.start) 0 := by
  refine ⟨fun p hp => ?_, by unfold setS; rw [if_pos rfl], .inr ?_⟩
  · unfold setS at hp
    split at hp
    · rename_i e; rw [e]; exact Reach.start d
    · cases hp
  · unfold cntS
    exact List.length_pos_of_mem (a := d.start) (by simp [setS]; exact hd.st)
end

/-! states unlike, by rounds -/
structure UnI (d : Aut) (U0 U : Nat → Nat → Bool) (i k b : Nat) : Prop where
  sub : ∀ p q, U0 p q = true → U p q = true
  ok : ∀ p q, p < d.many → q < d.many → U p q = true → ¬ d.Eqv p q
  done : ∀ p q j, (p < i ∨ p = i ∧ (q < k ∨ q = k ∧ j < b)) → p < d.many → q < d.many → j < d.wide → U0 (d.nx p j) (d.nx q j) = true → U p q = true
structure RoundU (d : Aut) (U : Nat → Nat → Bool) (r : Nat) : Prop where
  ok : ∀ p q, p < d.many → q < d.many → U p q = true → ¬ d.Eqv p q
  all : ∀ p q, p < d.many → q < d.many → ¬ d.EqF r p q → U p q = true
def setU (U : Nat → Nat → Bool) (i k : Nat) : Nat → Nat → Bool := fun p q => if p = i ∧ q = k then true else U p q
section
variable {d : Aut} {U0 U : Nat → Nat → Bool} {i k b r : Nat}
theorem RoundU.begin (h : RoundU d U r) : UnI d U U 0 0 0 := ⟨fun p q hp => hp, h.ok, fun p q j hj => by omega⟩
theorem UnI.keep (h : UnI d U0 U i k b) (hd : d.Ok) (hU : U (d.nx i b) (d.nx k b) = false) : UnI d U0 U i k (b + 1) :=
  ⟨h.sub, h.ok, fun p q j hj hp hq hjw hu => by
    by_cases e : p = i ∧ q = k ∧ j = b
    · obtain ⟨rfl, rfl, rfl⟩ := e
      have := h.sub _ _ hu
      rw [hU] at this; cases this
    · exact h.done p q j (by omega) hp hq hjw hu⟩
theorem UnI.put (h : UnI d U0 U i k b) (hd : d.Ok) (hi : i < d.many) (hk : k < d.many) (hb : b < d.wide) (hU : U (d.nx i b) (d.nx k b) = true) : UnI d U0 (setU U i k) i k (b + 1) := by
  have hle : ∀ p q, U p q = true → setU U i k p q = true := fun p q hp => by unfold setU; split <;> simp_all
  refine ⟨fun p q hp => hle p q (h.sub p q hp), fun p q hp hq hu => ?_, fun p q j hj hp hq hjw hu => ?_⟩
  · unfold setU at hu
    split at hu
    · rename_i e
      obtain ⟨rfl, rfl⟩ := e
      exact fun he => h.ok _ _ (hd.nxt p b hp hb) (hd.nxt q b hq hb) hU (he.next hb)
    · exact h.ok p q hp hq hu
  · by_cases e : p = i ∧ q = k ∧ j = b
    · obtain ⟨rfl, rfl, rfl⟩ := e
      unfold setU; rw [if_pos ⟨rfl, rfl⟩]
    · exact hle _ _ (h.done p q j (by omega) hp hq hjw hu)
theorem UnI.nextK (h : UnI d U0 U i k d.wide) : UnI d U0 U i (k + 1) 0 := ⟨h.sub, h.ok, fun p q j hj hp hq hjw hu => h.done p q j (by omega) hp hq hjw hu⟩
theorem UnI.nextI (h : UnI d U0 U i d.many 0) : UnI d U0 U (i + 1) 0 0 := ⟨h.sub, h.ok, fun p q j hj hp hq hjw hu => h.done p q j (by omega) hp hq hjw hu⟩
theorem UnI.round (hd : d.Ok) (h0 : RoundU d U0 r) (h : UnI d U0 U d.many 0 0) : RoundU d U (r + 1) :=
  ⟨h.ok, fun p q hp hq hn => by
    by_cases he : d.EqF r p q
    · have : ∃ j, j < d.wide ∧ ¬ d.EqF r (d.nx p j) (d.nx q j) := by
        refine Classical.byContradiction fun hx => hn ⟨he, fun j hj => ?_⟩
        exact Classical.byContradiction fun hy => hx ⟨j, hj, hy⟩
      obtain ⟨j, hj, hne⟩ := this
      exact h.done p q j (.inl hp) hp hq hj (h0.all _ _ (hd.nxt p j hp hj) (hd.nxt q j hq hj) hne)
    · exact h.sub p q (h0.all p q hp hq he)⟩
theorem RoundU.start : RoundU d (fun p q => !(d.fin p == d.fin q)) 0 := by
  refine ⟨fun p q _ _ hu he => ?_, fun p q _ _ hn => ?_⟩
  · have := he.fin_
    simp [this] at hu
  · have : d.fin p ≠ d.fin q := hn
    simpa using this
theorem RoundU.end_ (hd : d.Ok) (h : RoundU d U d.many) {p q : Nat} (hp : p < d.many) (hq : q < d.many) : U p q = true ↔ ¬ d.Eqv p q :=
  ⟨h.ok p q hp hq, fun hn => h.all p q hp hq fun he => hn (Aut.eqv_of hd hp hq he)⟩
end

/-! the least automaton out of both -/
open Classical in
noncomputable def eqvB (d : Aut) (x y : Nat) : Bool := decide (d.Eqv x y)
theorem eqvB_refl (d : Aut) (x : Nat) : eqvB d x x = true := by simp [eqvB, Aut.Eqv.refl]
theorem eqvB_comm (d : Aut) (x y : Nat) : eqvB d x y = eqvB d y x := by
  unfold eqvB
  exact decide_eq_decide.2 ⟨fun h => h.symm, fun h => h.symm⟩
noncomputable def statesR (d : Aut) (blk : Nat → Nat) : List Nat := (statesL (d.lang blk)).map (d.at_ blk)
noncomputable def nextR (d : Aut) (blk : Nat → Nat) (bl : List Nat) (p : Nat) : List Nat := bl.map fun b => d.nx p (blk b)
section
variable {d : Aut} {blk : Nat → Nat}
theorem eqvB_at (hb : d.Blk blk) {u v : List Nat} (hu : Bytes u) (hv : Bytes v) : eqL (d.lang blk) u v = eqvB d (d.at_ blk u) (d.at_ blk v) := by
  unfold eqvB
  apply Bool.eq_iff_iff.2
  rw [eqL_iff, Aut.eqv_at hb]
  simp
theorem statesR_bfs (hb : d.Blk blk) : statesR d blk = bfs (addR (eqvB d)) (nextR d blk (bytesL (d.lang blk))) fuelL 0 [d.start] := by
  unfold statesR statesL
  refine (bfs_map (E' := eqvB d) (d.at_ blk) (S := Bytes) (fun x y hx hy => eqvB_at hb hx hy) (fun u hu => nextL_in _ hu) (fun u hu => ?_) _ _ _ (fun u hu => by obtain rfl := List.mem_singleton.1 hu; exact .nil)).trans rfl
  unfold nextL nextR
  rw [List.map_map]
  exact List.map_congr_left fun b hbb => Aut.at_app _ _
theorem eqB_reach (hb : d.Blk blk) {a b : Nat} (ha : a < 256) (hbb : b < 256) : eqB (d.lang blk) a b = true ↔ ∀ n, Reach d n → d.Eqv (d.nx n (blk a)) (d.nx n (blk b)) := by
  rw [eqB_iff, Aut.eqb_at hb]
  constructor
  · intro h n hn
    obtain ⟨u, hu, rfl⟩ := reach_to hb hn
    exact h u hu
  · intro h u hu
    exact h _ (reach_at hb hu)
theorem eqB_comm (L : Lang) (a b : Nat) : eqB L a b = eqB L b a := by
  apply Bool.eq_iff_iff.2
  rw [eqB_iff, eqB_iff]
  exact ⟨fun h u hu => (h u hu).symm, fun h u hu => (h u hu).symm⟩
theorem canonI_R (hb : d.Blk blk) :
    canonI (d.lang blk) = ⟨0, (statesR d blk).map d.fin, intsOf ((List.range 256).map (blockL (d.lang blk))), (statesR d blk).map fun p => intsOf ((nextR d blk (bytesL (d.lang blk)) p).map (idxR (eqvB d) (statesR d blk)))⟩ := by
  unfold canonI
  congr 1
  · unfold statesR
    rw [List.map_map]
    refine List.ext_getElem? fun i => ?_
    rw [List.getElem?_map, List.getElem?_map]
    by_cases h : i < (statesL (d.lang blk)).length
    · rw [List.getElem?_range h, List.getElem?_eq_getElem h]
      simp only [Option.map_some, Function.comp]
      unfold finL
      rw [List.getD_eq_getElem?_getD, List.getElem?_eq_getElem h]
      rfl
    · rw [List.getElem?_eq_none (by simp; omega), List.getElem?_eq_none (by omega)]
      rfl
  · rw [byteN_eq]
  · unfold statesR
    rw [List.map_map]
    refine List.ext_getElem? fun i => ?_
    rw [List.getElem?_map, List.getElem?_map]
    by_cases h : i < (statesL (d.lang blk)).length
    · rw [List.getElem?_range h, List.getElem?_eq_getElem h]
      simp only [Option.map_some, Function.comp]
      congr 2
      unfold nextR
      rw [List.map_map]
      refine List.ext_getElem? fun k => ?_
      rw [List.getElem?_map, List.getElem?_map]
      by_cases hk : k < (bytesL (d.lang blk)).length
      · rw [List.getElem?_range hk, List.getElem?_eq_getElem hk]
        simp only [Option.map_some, Function.comp]
        congr 1
        unfold stepL
        rw [List.getD_eq_getElem?_getD, List.getElem?_eq_getElem h, List.getD_eq_getElem?_getD, List.getElem?_eq_getElem hk]
        simp only [Option.getD_some]
        rw [← Aut.at_app]
        have hu := statesL_in (d.lang blk) _ (List.getElem_mem h)
        have hbk := bytesL_in (d.lang blk) _ (List.getElem_mem hk)
        exact (idxR_map (E' := eqvB d) (d.at_ blk) fun y hy => eqvB_at hb (hu.app (.one hbk)) (statesL_in _ y hy)).symm
      · rw [List.getElem?_eq_none (by simp; omega), List.getElem?_eq_none (by omega)]
        rfl
    · rw [List.getElem?_eq_none (by simp; omega), List.getElem?_eq_none (by omega)]
      rfl
end
end Go.Proofs.YtmmlakheimfijaaGreatDoor
namespace Go.Proofs.YtmmlakheimfijaaGreatDoor
set_option linter.unusedVariables false
set_option linter.unusedSimpArgs false
open Go.RowKit Go.Maps Go.Sort Go.ChangeShapes Go.WideShapes

/-- a right automaton in a function's own cell -/
structure RefD (w : World) (g : Nat) (D : DfaI) (S M : Nat) (af ab an : Option Addr) (cf cb cn : Nat) : Prop where
  q : Blk w g 26 #[.int .i64 (S : Int), .slice af M cf, .slice ab 256 cb, .slice an M cn]
  f : BoolsAt w (.slice af M cf) M fun i => D.fin.getD i false
  b : IntsAt w (.slice ab 256 cb) D.block
  n : IRowsAt w (.slice an M cn) D.next
section
variable {w w' : World} {g : Nat} {D : DfaI} {S M : Nat} {af ab an : Option Addr} {cf cb cn : Nat}
theorem RefD.below (h : RefD w g D S M af ab an cf cb cn) (hb : Below w.heap.size w w') : RefD w' g D S M af ab an cf cb cn :=
  ⟨h.q.below hb h.q.lt, h.f.below hb, h.b.below hb, h.n.below hb⟩
theorem RefD.only {l : List Nat} {B : Nat} (h : RefD w g D S M af ab an cf cb cn) (hb : Below B w w') (hB : w.heap.size ≤ B) : RefD w' g D S M af ab an cf cb cn := h.below (hb.mono hB)
/-- a row, and what stands in it -/
theorem RefD.row (h : RefD w g D S M af ab an cf cb cn) (hR : RightD D) (hM : D.next.length = M) {p : Nat} (hp : p < M) :
    ∃ bn on bk ok c, an = some ⟨bn, on, none⟩ ∧ w.cell? ⟨bn, on + p, none⟩ = some (.slice (some ⟨bk, ok, none⟩) D.aut.wide c) ∧ ∀ j, j < D.aut.wide → w.cell? ⟨bk, ok + j, none⟩ = some (.int .i64 ((D.aut.nx p j : Nat) : Int)) ∧ D.aut.nx p j < M := by
  have hl : D.next[p]? = some D.next[p] := List.getElem?_eq_getElem (by omega)
  obtain ⟨h1, h2⟩ := hR.rows _ (List.mem_of_getElem? hl)
  have hw : D.next[p].length = D.aut.wide := by show _ = (wideI D).toNat; omega
  have hw0 := hR.ok.wide0
  have hx : ∀ j, j < D.aut.wide → D.next[p][j]? = some ((D.aut.nx p j : Nat) : Int) := fun j hj => by
    have e : D.aut.nx p j = (D.next[p][j]'(by omega)).toNat := by
      show nxtF D.nx p j = _
      unfold nxtF
      have e1 : D.nx.getD p [] = D.next[p].map Int.toNat := by
        rw [List.getD_eq_getElem?_getD, DfaI.nx, List.getElem?_map, hl]
        rfl
      rw [e1, List.getD_eq_getElem?_getD, List.getElem?_map, List.getElem?_eq_getElem (by omega)]
      rfl
    rw [List.getElem?_eq_getElem (by omega), e]
    congr 1
    have := (h2 _ (List.getElem_mem (show j < D.next[p].length by omega))).1
    omega
  obtain ⟨bn, on, a, c, rfl, n0, nA⟩ := h.n.get hl
  obtain ⟨bk, ok, rfl, -⟩ := nA.get (hx 0 hw0)
  rw [hw] at n0
  refine ⟨bn, on, bk, ok, c, rfl, n0, fun j hj => ⟨?_, ?_⟩⟩
  · obtain ⟨bk', ok', he, n1⟩ := nA.get (hx j hj)
    obtain ⟨rfl, rfl⟩ : bk = bk' ∧ ok = ok' := by simpa using he
    exact n1
  · have := nxtF_lt hR.nxt (n := p) (k := j) (by rw [D.nx_len]; omega) hj
    rw [D.nx_len, hM] at this
    exact this
end
theorem DfaAt.rcut {w : World} {S : Int} {af ab an : Option Addr} {F B M cf cb cn : Nat} {D : DfaI} (h : DfaAt w (.agg #[.int .i64 S, .slice af F cf, .slice ab B cb, .slice an M cn]) D) :
    BoolsAt w (.slice af F cf) F (fun i => D.fin.getD i false) ∧ IntsAt w (.slice ab B cb) D.block ∧ IRowsAt w (.slice an M cn) D.next := by
  obtain ⟨x1, x2, x3, he, h1, h2, h3⟩ := h
  obtain ⟨-, rfl, rfl, rfl⟩ : _ ∧ _ ∧ _ ∧ _ := by simpa using he
  obtain ⟨a', c', he', h4⟩ := id h1
  obtain ⟨-, e, -⟩ := Value.slice.inj he'
  rw [← e] at h1
  exact ⟨h1, h2, h3⟩
theorem RefD.mk_ {w : World} {D : DfaI} {v : Value} (h : DfaAt w v D) (hR : RightD D) :
    ∃ (S M : Nat) (af ab an : Option Addr) (cf cb cn : Nat), D.start = (S : Int) ∧ D.next.length = M ∧ v = .agg #[.int .i64 (S : Int), .slice af M cf, .slice ab 256 cb, .slice an M cn] ∧
      RefD (w.alloc (.cells #[.int .i64 (S : Int), .slice af M cf, .slice ab 256 cb, .slice an M cn] 26)) w.heap.size D S M af ab an cf cb cn := by
  obtain ⟨S, af, ab, an, F, B, M, cf, cb, cn, hS, hF, hB, hM, rfl⟩ := h.form
  have h0 := hR.s0
  have e : S = ((D.start.toNat : Nat) : Int) := by omega
  have eF : F = M := by rw [← hF, hR.fin, hM]
  have eB : B = 256 := by rw [← hB, hR.blk.2]
  subst eF eB
  obtain ⟨hf, hb, hn⟩ := h.rcut
  have hal := (Below.refl w.heap.size w).alloc (Nat.le_refl _) (.cells #[.int .i64 S, .slice af F cf, .slice ab 256 cb, .slice an F cn] 26)
  refine ⟨D.start.toNat, F, af, ab, an, cf, cb, cn, by omega, hM, by rw [← e], ?_⟩
  rw [← e]
  exact ⟨by rw [← e]; exact Blk.new w 26 _, hf.below hal, hb.below hal, hn.below hal⟩

/-! a row of marks -/
def boolC (S : Nat → Bool) (M : Nat) : List Value := (List.range M).map fun j => .bool (S j)
theorem boolC_len (S : Nat → Bool) (M : Nat) : (boolC S M).length = M := by simp [boolC]
theorem boolC_at {S : Nat → Bool} {M x : Nat} (h : x < M) : (boolC S M)[x]? = some (.bool (S x)) := by
  unfold boolC
  rw [List.getElem?_map, List.getElem?_range h]
  rfl
theorem boolC_zero (M : Nat) : (madeCells (Value.bool false).cells (M * 1)).toList = boolC (fun _ => false) M := by
  refine List.ext_getElem? fun j => ?_
  by_cases hj : j < M
  · rw [boolC_at hj]
    simp [madeCells, Value.cells, hj, Nat.mod_one]
  · rw [List.getElem?_eq_none (by simp [madeCells, Value.cells]; omega), List.getElem?_eq_none (by rw [boolC_len]; omega)]
theorem boolC_set {S S' : Nat → Bool} {M x : Nat} {b : Bool} (hx : x < M) (h : ∀ p, p < M → S' p = if p = x then b else S p) : (boolC S M).set x (.bool b) = boolC S' M := by
  refine List.ext_getElem? fun j => ?_
  by_cases hj : j < M
  · rw [boolC_at hj, h j hj, List.getElem?_set]
    by_cases e : x = j
    · subst e
      simp [boolC_len, hj]
    · rw [if_neg e, boolC_at hj, if_neg (fun e2 => e e2.symm)]
  · rw [List.getElem?_eq_none (by rw [List.length_set, boolC_len]; omega), List.getElem?_eq_none (by rw [boolC_len]; omega)]
theorem own_mark {w : World} {B g M x : Nat} {S S' : Nat → Bool} {b : Bool} (h : w.ownsRow B 4 1 (.slice (some ⟨g, 0, none⟩) M M) M (boolC S M)) (hx : x < M) (hS : ∀ p, p < M → S' p = if p = x then b else S p) :
    (w.setCell ⟨g, x, none⟩ (.bool b)).ownsRow B 4 1 (.slice (some ⟨g, 0, none⟩) M M) M (boolC S' M) := by
  have hst := (h.stored x (.bool b)).1
  rw [boolC_set hx hS] at hst
  exact hst

end Go.Proofs.YtmmlakheimfijaaGreatDoor
namespace Go.Proofs.YtmmlakheimfijaaGreatDoor
set_option linter.unusedVariables false
set_option linter.unusedSimpArgs false
open Go.RowKit Go.Maps Go.Sort Go.ChangeShapes Go.WideShapes

theorem infoMarks : (Tryz.prog.info? 22).map (fun i => (i.zero, i.size, i.bytes)) = some (some (.slice none 0 0), 1, 24) := by kernel_rfl
/-! a square of marks -/
def rowsC (go : Nat → Nat) (M n : Nat) : List Value := (List.range n).map fun i => .slice (some ⟨go i, 0, none⟩) M M
theorem rowsC_len (go : Nat → Nat) (M n : Nat) : (rowsC go M n).length = n := by simp [rowsC]
theorem rowsC_at {go : Nat → Nat} {M n i : Nat} (h : i < n) : (rowsC go M n)[i]? = some (.slice (some ⟨go i, 0, none⟩) M M) := by
  unfold rowsC
  rw [List.getElem?_map, List.getElem?_range h]
  rfl
structure MatAt (w : World) (B : Nat) (vo : Value) (go : Nat → Nat) (U : Nat → Nat → Bool) (M n : Nat) : Prop where
  o : w.ownsRow B 22 1 vo n (rowsC go M n)
  r : ∀ i, i < n → w.ownsRow B 4 1 (.slice (some ⟨go i, 0, none⟩) M M) M (boolC (U i) M)
  inj : ∀ i j, i < n → j < n → go i = go j → i = j
section
variable {w w' : World} {B : Nat} {vo : Value} {go : Nat → Nat} {U : Nat → Nat → Bool} {M n : Nat}
theorem MatAt.below (h : MatAt w B vo go U M n) (hb : Below w.heap.size w w') : MatAt w' B vo go U M n :=
  ⟨own_only h.o (Only.of_below (S := []) hb) (by simp), fun i hi => own_only (h.r i hi) (Only.of_below (S := []) hb) (by simp), h.inj⟩
theorem MatAt.base {B' : Nat} (h : MatAt w B vo go U M n) (hB : B' ≤ B) : MatAt w B' vo go U M n := ⟨own_base h.o hB, fun i hi => own_base (h.r i hi) hB, h.inj⟩
theorem MatAt.nil (w : World) (B : Nat) (go : Nat → Nat) (U : Nat → Nat → Bool) (M : Nat) : MatAt w B (.slice none 0 0) go U M 0 :=
  ⟨World.ownsRow_nil _ _ _ _, fun i hi => by omega, fun i j hi => by omega⟩
theorem MatAt.form (h : MatAt w B vo go U M n) (hn : 0 < n) : ∃ ob cap, vo = .slice (some ⟨ob, 0, none⟩) n cap := by
  obtain ⟨g, cap, e, -⟩ := h.o.form hn
  exact ⟨g, cap, e⟩
theorem MatAt.get {ob cap i k : Nat} (h : MatAt w B (.slice (some ⟨ob, 0, none⟩) n cap) go U M n) (hi : i < n) (hk : k < M) :
    w.cell? ⟨ob, i, none⟩ = some (.slice (some ⟨go i, 0, none⟩) M M) ∧ w.cell? ⟨go i, k, none⟩ = some (.bool (U i k)) ∧ w.frozen? ⟨go i, k, none⟩ = false := by
  have h1 := h.o.cellAt i (by omega)
  have h2 := (h.r i hi).cellAt k (by omega)
  rw [rowsC_at hi] at h1
  rw [boolC_at hk] at h2
  exact ⟨h1, h2, (h.r i hi).frozenAt k⟩
theorem MatAt.set {i k : Nat} {b : Bool} {U' : Nat → Nat → Bool} (h : MatAt w B vo go U M n) (hi : i < n) (hk : k < M) (hU : ∀ p q, p < n → q < M → U' p q = if p = i ∧ q = k then b else U p q) : MatAt (w.setCell ⟨go i, k, none⟩ (.bool b)) B vo go U' M n := by
  refine ⟨own_set h.o _ (fun e => ?_), fun p hp => ?_, h.inj⟩
  · exact own_ne h.o (h.r i hi) (by decide) (go i) e rfl
  · by_cases e : p = i
    · subst e
      exact own_mark (h.r p hp) hk fun q hq => by
        rw [hU p q hp hq]
        by_cases e : q = k
        · rw [if_pos ⟨rfl, e⟩, if_pos e]
        · rw [if_neg (fun h => e h.2), if_neg e]
    · have hne : go p ≠ go i := fun e2 => e (h.inj p i hp hi e2)
      have hc : boolC (U' p) M = boolC (U p) M := by
        unfold boolC
        refine List.map_congr_left fun q hq => ?_
        rw [hU p q hp (by simpa using hq), if_neg (fun h => e h.1)]
      rw [hc]
      exact own_set (h.r p hp) _ fun e2 => hne (Option.some.inj e2)
theorem MatAt.push {w3 : World} {g gr cap : Nat} {R : Nat → Bool} (h : MatAt w B vo go U M n) (hrow : w.ownsRow B 4 1 (.slice (some ⟨gr, 0, none⟩) M M) M (boolC R M)) (hfr : ∀ i, i < n → go i < gr)
    (hown : w3.ownsRow B 22 1 (.slice (some ⟨g, 0, none⟩) (n + 1) cap) (n + 1) (rowsC go M n ++ [.slice (some ⟨gr, 0, none⟩) M M])) (hgrow : (w.alloc (.cells #[.slice (some ⟨gr, 0, none⟩) M M] 22)).grownBy w3 vo.ownBlock) :
    MatAt w3 B (.slice (some ⟨g, 0, none⟩) (n + 1) cap) (fun i => if i = n then gr else go i) (fun i => if i = n then R else U i) M (n + 1) := by
  have hal := (Below.refl w.heap.size w).alloc (Nat.le_refl _) (.cells #[.slice (some ⟨gr, 0, none⟩) M M] 22)
  have h1 := h.below hal
  have hr1 := own_only hrow (Only.of_below (S := []) hal) (by simp)
  have kp : ∀ {v : Value} {k : Nat} {xs : List Value}, (w.alloc (.cells #[.slice (some ⟨gr, 0, none⟩) M M] 22)).ownsRow B 4 1 v k xs → w3.ownsRow B 4 1 v k xs := fun {v k xs} hv => by
    refine hv.kept hgrow ?_
    cases hvb : v.ownBlock with
    | none => exact .inl rfl
    | some q => exact .inr fun e => own_ne hv h1.o (by decide) q hvb e.symm
  have hrc : rowsC (fun i => if i = n then gr else go i) M (n + 1) = rowsC go M n ++ [.slice (some ⟨gr, 0, none⟩) M M] := by
    unfold rowsC
    rw [List.range_succ, List.map_append]
    congr 1
    · refine List.map_congr_left fun i hi => ?_
      have : i ≠ n := by have : i < n := by simpa using hi
                         omega
      show Value.slice (some ⟨if i = n then gr else go i, 0, none⟩) M M = _
      rw [if_neg this]
    · simp
  refine ⟨by rw [hrc]; exact hown, fun i hi => ?_, fun i j hi hj e => ?_⟩
  · by_cases e : i = n
    · rw [if_pos e, if_pos e]; exact kp hr1
    · rw [if_neg e, if_neg e]; exact kp (h1.r i (by omega))
  · replace e : (if i = n then gr else go i) = (if j = n then gr else go j) := e
    by_cases ei : i = n
    · by_cases ej : j = n
      · omega
      · rw [if_pos ei, if_neg ej] at e
        have := hfr j (by omega)
        omega
    · by_cases ej : j = n
      · rw [if_neg ei, if_pos ej] at e
        have := hfr i (by omega)
        omega
      · rw [if_neg ei, if_neg ej] at e
        exact h.inj i j (by omega) (by omega) e
end
/-- a row of marks that is filled step by step -/
def fillB (f : Nat → Bool) (k j : Nat) : Bool := if j < k then f j else false
theorem fillB_succ (f : Nat → Bool) (k z : Nat) : fillB f (k + 1) z = if z = k then f k else fillB f k z := by
  unfold fillB
  by_cases e : z = k
  · subst e; rw [if_pos (by omega), if_pos rfl]
  · rw [if_neg e]
    by_cases e2 : z < k
    · rw [if_pos (by omega), if_pos e2]
    · rw [if_neg (by omega), if_neg e2]
theorem fillB_all (f : Nat → Bool) (M : Nat) : boolC (fillB f M) M = boolC f M := by
  unfold boolC
  refine List.map_congr_left fun i hi => ?_
  unfold fillB
  rw [if_pos (by simpa using hi)]

end Go.Proofs.YtmmlakheimfijaaGreatDoor
namespace Go.Proofs.YtmmlakheimfijaaGreatDoor
set_option linter.unusedVariables false
set_option linter.unusedSimpArgs false
open Go.RowKit Go.Maps Go.Sort Go.ChangeShapes Go.WideShapes

def sameF (D : DfaI) (U : Nat → Nat → Bool) (R : List Nat) (a b : Nat) : Bool := R.all fun n => !U (D.aut.nx n (D.blk a)) (D.aut.nx n (D.blk b))
theorem RefD.blk {w : World} {g : Nat} {D : DfaI} {S M : Nat} {af ab an : Option Addr} {cf cb cn : Nat} (h : RefD w g D S M af ab an cf cb cn) (hR : RightD D) {b : Nat} (hb : b < 256) :
    ∃ bb ob, ab = some ⟨bb, ob, none⟩ ∧ w.cell? ⟨bb, ob + b, none⟩ = some (.int .i64 ((D.blk b : Nat) : Int)) ∧ D.blk b < D.aut.wide := by
  have hM1 := hR.m1
  obtain ⟨l, -, h2, -⟩ := hR.step (p := 0) (by omega) hb
  obtain ⟨bb, ob, e, hc⟩ := h.b.get h2
  exact ⟨bb, ob, e, hc, hR.blk.1.blk.lt b hb⟩
end Go.Proofs.YtmmlakheimfijaaGreatDoor
namespace Go.Proofs.YtmmlakheimfijaaGreatDoor
set_option linter.unusedVariables false
set_option linter.unusedSimpArgs false
open Go.RowKit Go.Maps Go.Sort Go.ChangeShapes Go.WideShapes

/-! rows of numbers, apart from each other -/
def ApV (x y : Value × List Nat) : Prop := ∀ g, x.1.ownBlock = some g → y.1.ownBlock ≠ some g
structure Fam (w : World) (B : Nat) (l : List (Value × List Nat)) : Prop where
  own : ∀ x ∈ l, w.ownsRow B 3 1 x.1 x.2.length (natCells x.2)
  ap : l.Pairwise ApV
section
variable {w w' : World} {B : Nat} {l : List (Value × List Nat)} {v v' : Value} {xs ys : List Nat}
theorem ApV.symm {x y : Value × List Nat} (h : ApV x y) : ApV y x := fun g h1 h2 => h g h2 h1
theorem Fam.below (h : Fam w B l) (hb : Below w.heap.size w w') : Fam w' B l := ⟨fun x hx => own_only (h.own x hx) (Only.of_below (S := []) hb) (by simp), h.ap⟩
theorem Fam.perm {l' : List (Value × List Nat)} (h : Fam w B l) (hp : l.Perm l') : Fam w B l' :=
  ⟨fun x hx => h.own x (hp.mem_iff.2 hx), (hp.pairwise_iff (fun {x y} h => h.symm)).1 h.ap⟩
theorem Fam.nil (h : Fam w B l) : Fam w B ((.slice none 0 0, []) :: l) :=
  ⟨fun x hx => by
    rcases List.mem_cons.1 hx with rfl | hx
    · exact World.ownsRow_nil _ _ _ _
    · exact h.own x hx, List.pairwise_cons.2 ⟨fun y hy g hg => (by cases hg), h.ap⟩⟩
theorem Fam.new (h : Fam w B l) {v : Value} {xs : List Nat} (hv : w.ownsRow B 3 1 v xs.length (natCells xs)) (hn : ∀ x ∈ l, ApV (v, xs) x) : Fam w B ((v, xs) :: l) :=
  ⟨fun x hx => by
    rcases List.mem_cons.1 hx with rfl | hx
    · exact hv
    · exact h.own x hx, List.pairwise_cons.2 ⟨hn, h.ap⟩⟩
theorem Fam.head (h : Fam w B ((v, xs) :: l)) : w.ownsRow B 3 1 v xs.length (natCells xs) := h.own (v, xs) (by simp)
theorem Fam.tail (h : Fam w B ((v, xs) :: l)) : Fam w B l := ⟨fun x hx => h.own x (by simp [hx]), (List.pairwise_cons.1 h.ap).2⟩
theorem Fam.push {w3 : World} {x g cap : Nat} (h : Fam w B ((v, xs) :: l)) (hown : w3.ownsRow B 3 1 (.slice (some ⟨g, 0, none⟩) (xs.length + 1) cap) (xs.length + 1) (natCells xs ++ [.int .i64 (x : Int)])) (hgrow : (w.alloc (.cells #[.int .i64 (x : Int)] 3)).grownBy w3 v.ownBlock)
    (hat : v.ownBlock = some g ∨ g = (w.alloc (.cells #[.int .i64 (x : Int)] 3)).heap.size) : Fam w3 B ((.slice (some ⟨g, 0, none⟩) (xs.length + 1) cap, xs ++ [x]) :: l) := by
  have hal := (Below.refl w.heap.size w).alloc (Nat.le_refl _) (.cells #[.int .i64 (x : Int)] 3)
  have h1 := h.below hal
  obtain ⟨hp1, hp2⟩ := List.pairwise_cons.1 h1.ap
  refine ⟨fun y hy => ?_, List.pairwise_cons.2 ⟨fun y hy g' hg' => ?_, hp2⟩⟩
  · rcases List.mem_cons.1 hy with rfl | hy
    · simp only [List.length_append, List.length_singleton, natCells_snoc]
      exact hown
    · have hy1 := h1.own y (by simp [hy])
      refine hy1.kept hgrow ?_
      cases hv : y.1.ownBlock with
      | none => exact .inl rfl
      | some q => exact .inr fun e => hp1 y hy q e.symm hv
  · obtain rfl : g = g' := Option.some.inj hg'
    rcases hat with h2 | h2
    · exact hp1 y hy g h2
    · intro h3
      have := ((h1.own y (by simp [hy])).lt g h3).2
      omega
theorem Fam.grown {row : Option Nat} (h : Fam w B l) (hg : w.grownBy w' row) (hne : ∀ x ∈ l, ∀ g, x.1.ownBlock = some g → row ≠ some g) : Fam w' B l :=
  ⟨fun x hx => by
    refine (h.own x hx).kept hg ?_
    cases hv : x.1.ownBlock with
    | none => exact .inl rfl
    | some q => exact .inr fun e => hne x hx q hv e.symm, h.ap⟩
theorem Fam.set {a : Addr} {u : Value} (h : Fam w B l) (hne : ∀ x ∈ l, x.1.ownBlock ≠ some a.block) : Fam (w.setCell a u) B l :=
  ⟨fun x hx => own_set (h.own x hx) _ (hne x hx), h.ap⟩
theorem Fam.base {B' : Nat} (h : Fam w B l) (hB : B' ≤ B) : Fam w B' l := ⟨fun x hx => own_base (h.own x hx) hB, h.ap⟩
end

/-! a search that stops at the first -/
def sr (p : Nat → Bool) (l : List Nat) (k : Nat) : Int := if (l.take k).any p = true then (l.findIdx p : Int) else -1
section
variable {p : Nat → Bool} {l : List Nat} {k x : Nat}
theorem sr_zero : sr p l 0 = -1 := by simp [sr]
theorem sr_neg (h : sr p l k < 0) : ¬ (l.take k).any p = true := fun h2 => by unfold sr at h; rw [if_pos h2] at h; omega
theorem find_at (hn : ¬ (l.take k).any p = true) (hx : l[k]? = some x) (hp : p x = true) : l.findIdx p = k := by
  obtain ⟨hk, rfl⟩ := List.getElem?_eq_some_iff.1 hx
  refine (List.findIdx_eq hk).2 ⟨hp, fun j hj => ?_⟩
  cases hpj : p l[j] with
  | false => rfl
  | true => exact absurd (List.any_eq_true.2 ⟨l[j], by
      have : (l.take k)[j]? = some l[j] := by rw [List.getElem?_take_of_lt hj]; exact List.getElem?_eq_getElem (by omega)
      exact List.mem_of_getElem? this, hpj⟩) hn
theorem sr_hit (h : sr p l k < 0) (hx : l[k]? = some x) (hp : p x = true) : sr p l (k + 1) = k := by
  have hn := sr_neg h
  unfold sr
  rw [if_pos (by rw [List.take_add_one, hx]; simp [hp]), find_at hn hx hp]
theorem sr_miss (h : sr p l k < 0) (hx : l[k]? = some x) (hp : p x = false) : sr p l (k + 1) = sr p l k := by
  have hn := sr_neg h
  unfold sr
  rw [if_neg hn, if_neg]
  rw [List.take_add_one, hx]
  simp at hn ⊢
  exact ⟨hn, hp⟩
theorem sr_end (h : k = l.length ∨ ¬ sr p l k < 0) : sr p l k = if l.any p = true then (l.findIdx p : Int) else -1 := by
  unfold sr at *
  rcases h with rfl | h
  · rw [List.take_length]
  · by_cases h2 : (l.take k).any p = true
    · rw [if_pos h2, if_pos]
      obtain ⟨y, hy, hyp⟩ := List.any_eq_true.1 h2
      exact List.any_eq_true.2 ⟨y, List.mem_of_mem_take hy, hyp⟩
    · rw [if_neg h2] at h; omega
theorem sr_le (p : Nat → Bool) (l : List Nat) (k : Nat) : -1 ≤ sr p l k ∧ sr p l k ≤ l.length := by
  unfold sr
  split
  · have := List.findIdx_le_length (p := p) (xs := l); omega
  · omega
end
/-- found or added: the place is the index behind it -/
theorem found_idx {E : Nat → Nat → Bool} (hE : ∀ x, E x x = true) (o : List Nat) (x : Nat) :
    (o.any (E x) = true → (o.findIdx (E x)) = idxR E (addR E o x) x ∧ addR E o x = o) ∧ (¬ o.any (E x) = true → o.length = idxR E (addR E o x) x ∧ addR E o x = o ++ [x]) := by
  constructor
  · intro h
    unfold addR
    rw [if_pos h]
    exact ⟨rfl, rfl⟩
  · intro h
    unfold addR
    rw [if_neg h]
    exact ⟨(idxR_new (hE x) [] h).symm, rfl⟩
end Go.Proofs.YtmmlakheimfijaaGreatDoor
