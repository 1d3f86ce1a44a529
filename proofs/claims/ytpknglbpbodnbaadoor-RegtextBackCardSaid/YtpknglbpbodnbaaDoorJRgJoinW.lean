/-
  The walk of join. Conditions: the parts lie in memory; there are not too many.
-/
import Derived.Test.YtpknglbpbodnbaaDoorJRgJoin
namespace Go.Proofs.YtpknglbpbodnbaaDoor
set_option linter.unusedVariables false
set_option linter.unusedSimpArgs false
open Go.RowKit Go.Sort Cs Rg Go.ChangeShapes Go.WideShapes

/-- the state of join's loop -/
structure Js (P : Nat → Prop) (w w' : World) (kv : Value) (ks : List Nd) : Prop where
  own : Grows (fun b => P b ∧ b < w.heap.size) w' (w.heap.size + 1) kv ks
  res : Blk w' w.heap.size 27 #[.int .i64 0, .int .u64 0, .int .u64 0, .int .u64 0, .int .u64 0, .slice none 0 0, .int .i64 0, .int .i64 0]
  below : Below w.heap.size w w'
theorem Js.go {P : Nat → Prop} {w w' w2 : World} {ks : List Nd} {kv : Value} (h : Js P w w' kv ks) (hb : Below w'.heap.size w' w2) : Js P w w2 kv ks :=
  ⟨h.own.below hb, h.res.below hb h.res.lt, h.below.trans (hb.mono h.below.size)⟩
theorem Js.push {P : Nat → Prop} {w w' w2 : World} {kv v' : Value} {ks ms : List Nd} {L M : NRow} (h : Js P w w' kv ks) (h1 : L.map (·.1) = ks) (hM : M.map (·.1) = ms)
    (hL2 : w'.ownsRow (w.heap.size + 1) 27 8 kv ks.length (cellsL L)) (hown : w2.ownsRow (w.heap.size + 1) 27 8 v' (ks.length + ms.length) (cellsL L ++ cellsL M))
    (hg : w'.grownBy w2 kv.ownBlock) (hat : v'.ownBlock = kv.ownBlock ∨ v'.ownBlock = some w'.heap.size)
    (h3 : ∀ e ∈ L, NdP (fun b => (P b ∧ b < w.heap.size) ∧ kv.ownBlock ≠ some b) w' e.2.1 e.1) (hm : ∀ e ∈ M, NdP (fun b => P b ∧ b < w.heap.size) w' e.2.1 e.1) : Js P w w2 v' (ks ++ ms) := by
  have hge : ∀ b, kv.ownBlock = some b → w.heap.size + 1 ≤ b := fun b e => own_ge hL2 e
  refine ⟨Grows.push h1 hM hown hg hat h3 fun e he => NdP.keep (Nat.le_refl _) (fun b _ hp => ⟨⟨hp, fun e => by have := hge b e; have := hp.2; omega⟩, rfl⟩) e.1 (hm e he), ?_, h.below.grown hg h.below.size fun b e => by have := hge b e; omega⟩
  exact h.res.grown hg fun e => by have := hge _ e.symm; omega
theorem reads_new (w : World) (t : TypeId) (cs : Array Value) (size : Nat) (h : cs.size = 1 * size) : Reads (w.alloc (.cells cs t)) (w.alloc (.cells cs t)).heap.size size (some ⟨w.heap.size, 0, none⟩) 1 cs.toList := by
  refine ⟨by simpa using h, fun _ => ⟨_, rfl, by simp, fun j u hu => ?_⟩⟩
  rw [Addr.add_lit, (Blk.new w t cs).cell]
  simpa using hu
theorem Grows.row {P : Nat → Prop} {w : World} {base : Nat} {v : Value} {ps : List Nd} (h : Grows P w base v ps) : ∃ A c, v = .slice A ps.length c ∧ (ps = [] ∨ ∃ g, A = some ⟨g, 0, none⟩ ∧ base ≤ g ∧ g < w.heap.size ∧ RowP P w g 0 ps) := by
  obtain ⟨L, h1, h2, h3⟩ := h
  have h4 : ∀ e ∈ L, NdP P w e.2.1 e.1 := fun e he => NdP.keep (Nat.le_refl _) (fun b _ hp => ⟨hp.1, rfl⟩) e.1 (h3 e he)
  rcases Nat.eq_zero_or_pos ps.length with hz | hz
  · have hp : ps = [] := List.eq_nil_of_length_eq_zero hz
    rcases h2.2 with ⟨rfl, h0⟩ | ⟨g, cap, cur, rfl, _⟩
    · exact ⟨none, 0, by rw [hz], .inl hp⟩
    · exact ⟨some ⟨g, 0, none⟩, cap, rfl, .inl hp⟩
  · obtain ⟨g, cap, rfl, hb, hlt⟩ := h2.form hz
    refine ⟨some ⟨g, 0, none⟩, cap, rfl, .inr ⟨g, rfl, hb, hlt, ?_⟩⟩
    rw [← h1]
    refine RowP.of h4 fun j u hu => ?_
    have h5 := h2.cells (g := g) rfl j u hu
    rw [Nat.zero_add]
    unfold Addr.add at h5
    split at h5
    · rename_i e; rw [e]; exact h5
    · simpa using h5
set_option maxHeartbeats 4000000 in
theorem below_set8 {w w' : World} {g B : Nat} (h : Below B w w') (u0 u1 u2 u3 u4 u5 u6 u7 : Value) (hg : B ≤ g) :
    Below B w ((((((((w'.setCell ⟨g, 0, none⟩ u0).setCell ⟨g, 1, none⟩ u1).setCell ⟨g, 2, none⟩ u2).setCell ⟨g, 3, none⟩ u3).setCell ⟨g, 4, none⟩ u4).setCell ⟨g, 5, none⟩ u5).setCell ⟨g, 6, none⟩ u6).setCell ⟨g, 7, none⟩ u7) :=
  (((((((h.setCell (p := ⟨g, 0, none⟩) hg u0).setCell (p := ⟨g, 1, none⟩) hg u1).setCell (p := ⟨g, 2, none⟩) hg u2).setCell (p := ⟨g, 3, none⟩) hg u3).setCell (p := ⟨g, 4, none⟩) hg u4).setCell (p := ⟨g, 5, none⟩) hg u5).setCell (p := ⟨g, 6, none⟩) hg u6).setCell (p := ⟨g, 7, none⟩) hg u7
theorem only_set8 (w : World) (g : Nat) (u0 u1 u2 u3 u4 u5 u6 u7 : Value) :
    Only [g] w ((((((((w.setCell ⟨g, 0, none⟩ u0).setCell ⟨g, 1, none⟩ u1).setCell ⟨g, 2, none⟩ u2).setCell ⟨g, 3, none⟩ u3).setCell ⟨g, 4, none⟩ u4).setCell ⟨g, 5, none⟩ u5).setCell ⟨g, 6, none⟩ u6).setCell ⟨g, 7, none⟩ u7) :=
  ((((((((Only.refl [g] w).setCell (a := ⟨g, 0, none⟩) (by simp) u0).setCell (a := ⟨g, 1, none⟩) (by simp) u1).setCell (a := ⟨g, 2, none⟩) (by simp) u2).setCell (a := ⟨g, 3, none⟩) (by simp) u3).setCell (a := ⟨g, 4, none⟩) (by simp) u4).setCell (a := ⟨g, 5, none⟩) (by simp) u5).setCell (a := ⟨g, 6, none⟩) (by simp) u6).setCell (a := ⟨g, 7, none⟩) (by simp) u7
theorem blk_set8 {w : World} {g : Nat} {t : TypeId} {a0 a1 a2 a3 a4 a5 a6 a7 : Value} (h : Blk w g t #[a0, a1, a2, a3, a4, a5, a6, a7]) (u0 u1 u2 u3 u4 u5 u6 u7 : Value) :
    Blk ((((((((w.setCell ⟨g, 0, none⟩ u0).setCell ⟨g, 1, none⟩ u1).setCell ⟨g, 2, none⟩ u2).setCell ⟨g, 3, none⟩ u3).setCell ⟨g, 4, none⟩ u4).setCell ⟨g, 5, none⟩ u5).setCell ⟨g, 6, none⟩ u6).setCell ⟨g, 7, none⟩ u7) g t #[u0, u1, u2, u3, u4, u5, u6, u7] := by
  have := (((((((h.set_ 0 u0).set_ 1 u1).set_ 2 u2).set_ 3 u3).set_ 4 u4).set_ 5 u5).set_ 6 u6).set_ 7 u7
  simpa using this
theorem oneOf_many {k : Int} {l : List Nd} (h : l.length ≠ 1) : oneOf k l = .mk k none4 l 0 0 := by
  match l, h with
  | [], _ => rfl
  | [a], h => exact absurd rfl h
  | a :: b :: l, _ => rfl
set_option maxHeartbeats 8000000 in
set_option maxRecDepth 1000000 in
theorem join_any (P : Nat → Prop) (k : Int) (ps : List Nd) (A : Option Addr) (cap : Nat) (w : World) (h : Src P w A ps) (hn : (flatN k ps).length ≤ 1000000) (hl : ps.length ≤ 1000000) :
    Calls Tryd.prog 57 #[.int .i64 k, .slice A ps.length cap] w fun e w' => ∃ v, e = .returned v ∧ NdV (fun b => (P b ∧ b < w.heap.size) ∨ w.heap.size ≤ b) w' v (joinN k ps) ∧ Below w.heap.size w w' := by
  have hb0 := (Below.refl w.heap.size w).alloc (Nat.le_refl _) (.cells #[.int .i64 0, .int .u64 0, .int .u64 0, .int .u64 0, .int .u64 0, .slice none 0 0, .int .i64 0, .int .i64 0] 27)
  have hsrc : Src (fun b => P b ∧ b < w.heap.size) w A ps := by
    obtain ⟨L', h1', h2', h3'⟩ := h
    exact ⟨L', h1', h2', fun e he => NdP.keep (Nat.le_refl _) (fun b hb hp => ⟨⟨hp, hb⟩, rfl⟩) e.1 (h3' e he)⟩
  have HS := Lib.hid hsrc
  have J := Lib.hid (Js.mk (w := w) (ks := []) (Grows.nil (fun b => P b ∧ b < w.heap.size) _ _) (Blk.new w 27 #[.int .i64 0, .int .u64 0, .int .u64 0, .int .u64 0, .int .u64 0, .slice none 0 0, .int .i64 0, .int .i64 0]) hb0)
  clear hb0 hsrc h
  obtain ⟨i0, hi0, hz0, hz1, hz2⟩ := info_parts infoNode
  go_enter Tryd.func57, Tryd.ntmps57
  go_wp2_with fail
  generalize w.alloc (.cells #[.int .i64 0, .int .u64 0, .int .u64 0, .int .u64 0, .int .u64 0, .slice none 0 0, .int .i64 0, .int .i64 0] 27) = w0 at *
  go_loopw [5, 10] (fun kv c wr => ∃ i : Nat, i ≤ ps.length ∧ c = .int .i64 (i : Int) ∧ Hid (Js P w wr kv (flatN k (ps.take i)))) (fun _ c _ => ps.length - (intOf c).toNat)
  case atStart => exact ⟨0, Nat.zero_le _, rfl, J⟩
  case round =>
    clear J
    obtain ⟨i, hi, rfl, J⟩ := hrel
    by_cases hil : i < ps.length
    · have k1 : decide ((i : Int) < (ps.length : Int)) = true := decide_eq_true (by omega)
      have k1' : decide (i < ps.length) = true := decide_eq_true hil
      obtain ⟨m, hm⟩ : ∃ m, ps[i]? = some m := ⟨_, List.getElem?_eq_getElem hil⟩
      obtain ⟨pb, off, a', c', rfl, hpb, hl8, hnd⟩ := (HS.out.below J.out.below).get hm
      obtain ⟨z0, z1, z2, z3, z4, z5, z6, z7⟩ := hl8.c8
      have hft := flat_take (k := k) hm
      have hfl := flat_take_le k ps (i + 1)
      rw [hft, List.length_append] at hfl
      have HM := Lib.hid (And.intro hft hnd)
      clear hm hl8 hnd hft
      go_upto_region 5 with (fail)
      have hbk := (Below.refl wr.heap.size wr).alloc (Nat.le_refl _) (.cells #[.int .i64 m.kind, .int .u64 m.set.a, .int .u64 m.set.b, .int .u64 m.set.c, .int .u64 m.set.d, .slice a' m.kids.length c', .int .i64 m.lo, .int .i64 m.hi] 27)
      have nb := Blk.new wr 27 #[.int .i64 m.kind, .int .u64 m.set.a, .int .u64 m.set.b, .int .u64 m.set.c, .int .u64 m.set.d, .slice a' m.kids.length c', .int .i64 m.lo, .int .i64 m.hi]
      have J1 := Lib.hid (J.out.go hbk)
      have NB := Lib.hid (And.intro nb (NdP.keep (Q := fun b => P b ∧ b < w.heap.size) hbk.size (fun b hb hp => ⟨hp, hbk.block b hb⟩) m HM.out.2))
      clear z0 z1 z2 z3 z4 z5 z6 z7 hbk nb J
      obtain ⟨kb, hkb⟩ : ∃ kb, wr.heap.size = kb := ⟨_, rfl⟩
      generalize wr.alloc (.cells #[.int .i64 m.kind, .int .u64 m.set.a, .int .u64 m.set.b, .int .u64 m.set.c, .int .u64 m.set.d, .slice a' m.kids.length c', .int .i64 m.lo, .int .i64 m.hi] 27) = w4 at *
      rw [hkb] at NB ⊢
      clear hkb
      obtain ⟨⟨y0, y1, y2, y3, y4, y5, y6, y7⟩, -⟩ := NB.out.1.c8
      obtain ⟨L, hL1, hL2, hL3⟩ := J1.out.own
      have hsz4 := J1.out.res.lt
      by_cases hk : m.kind = k
      · have kk : (m.kind == k) = true := by rw [hk]; simp
        obtain ⟨M, hM1, hM2, hM3⟩ := NB.out.2.src.reads
        rw [if_pos hk] at hfl
        have HL := Lib.hid (And.intro hL1 (And.intro hL3 (And.intro hM1 (And.intro hM3 hk))))
        clear hL1 hL3 hM1 hM3 hk
        go_wp2_with (at_builtin; refine wpList_append_any _ rfl _ _ 25 rfl (w.heap.size + 1) 27 i0 zeroNd 8 80 Tryd.underlying25 hi0 hz0 hz1 hz2 rfl (by decide) _ _ _ rfl hL2 w4.heap.size _ m.kids.length c' (cellsL M) rfl hM2 (cellsL_plain M) (by unfold maxLen; omega) (by omega) (by omega) ?_; intro v' w5 hown hgrow hat)
        have J2 := Lib.hid (J1.out.push HL.out.1 HL.out.2.2.1 hL2 hown hgrow hat HL.out.2.1 HL.out.2.2.2.1)
        clear hown hgrow hat y0 y1 y2 y3 y4 y5 y6 y7 hL2 hM2 J1
        go_wp2_with fail
        go_roundw
        case rel => exact ⟨i + 1, hil, by go_num, by rw [HM.out.1, if_pos HL.out.2.2.2.2]; exact J2⟩
        case measure => simp [intOf]; omega
      · have kk : (m.kind == k) = false := by rw [beq_eq_false_iff_ne]; exact hk
        rw [if_neg hk] at hfl
        have HL := Lib.hid (And.intro hL1 (And.intro hL3 hk))
        clear hL1 hL3 hk
        have hbk2 := (Below.refl w4.heap.size w4).alloc (Nat.le_refl _) (.cells #[.int .i64 m.kind, .int .u64 m.set.a, .int .u64 m.set.b, .int .u64 m.set.c, .int .u64 m.set.d, .slice a' m.kids.length c', .int .i64 m.lo, .int .i64 m.hi] 27)
        have hM2 := reads_new w4 27 #[.int .i64 m.kind, .int .u64 m.set.a, .int .u64 m.set.b, .int .u64 m.set.c, .int .u64 m.set.d, .slice a' m.kids.length c', .int .i64 m.lo, .int .i64 m.hi] 8 rfl
        have hL2' := hL2.alloc (.cells #[.int .i64 m.kind, .int .u64 m.set.a, .int .u64 m.set.b, .int .u64 m.set.c, .int .u64 m.set.d, .slice a' m.kids.length c', .int .i64 m.lo, .int .i64 m.hi] 27)
        have J2 := Lib.hid (J1.out.go hbk2)
        have hm2 : ∀ e ∈ ([(m, a', c')] : NRow), NdP (fun b => P b ∧ b < w.heap.size) (w4.alloc (.cells #[.int .i64 m.kind, .int .u64 m.set.a, .int .u64 m.set.b, .int .u64 m.set.c, .int .u64 m.set.d, .slice a' m.kids.length c', .int .i64 m.lo, .int .i64 m.hi] 27)) e.2.1 e.1 := fun e he => by
          obtain rfl := List.mem_singleton.1 he
          exact NdP.keep hbk2.size (fun b hb hp => ⟨hp, hbk2.block b hb⟩) m NB.out.2
        have hl2 : ∀ e ∈ L, NdP (fun b => (P b ∧ b < w.heap.size) ∧ u5.ownBlock ≠ some b) (w4.alloc (.cells #[.int .i64 m.kind, .int .u64 m.set.a, .int .u64 m.set.b, .int .u64 m.set.c, .int .u64 m.set.d, .slice a' m.kids.length c', .int .i64 m.lo, .int .i64 m.hi] 27)) e.2.1 e.1 := fun e he => NdP.keep hbk2.size (fun b hb hp => ⟨hp, hbk2.block b hb⟩) e.1 (HL.out.2.1 e he)
        have HL2 := Lib.hid (And.intro hm2 hl2)
        clear hbk2 hm2 hl2 hL2 J1
        go_wp2_with (at_builtin; refine wpList_append_any _ rfl _ _ 25 rfl (w.heap.size + 1) 27 i0 zeroNd 8 80 Tryd.underlying25 hi0 hz0 hz1 hz2 rfl (by decide) _ _ _ rfl hL2' _ _ 1 1 _ rfl hM2 (cellsE_plain (m, a', c')) (by unfold maxLen; omega) (by omega) (by simp; omega) ?_; intro v' w5 hown hgrow hat)
        have J3 := Lib.hid (J2.out.push (M := [(m, a', c')]) (ms := [m]) HL.out.1 rfl hL2' hown hgrow hat HL2.out.2 HL2.out.1)
        clear hown hgrow hat y0 y1 y2 y3 y4 y5 y6 y7 hL2' hM2 J2
        go_wp2_with fail
        go_roundw
        case rel => exact ⟨i + 1, hil, by go_num, by rw [HM.out.1, if_neg HL.out.2.2]; exact J3⟩
        case measure => simp [intOf]; omega
    · have k1 : decide ((i : Int) < (ps.length : Int)) = false := decide_eq_false (by omega)
      have k1' : decide (i < ps.length) = false := decide_eq_false hil
      have e : ps.take i = ps := List.take_of_length_le (by omega)
      rw [e] at J
      clear e
      obtain ⟨A5, c5, rfl, hrow⟩ := J.out.own.row
      obtain ⟨⟨y0, y1, y2, y3, y4, y5, y6, y7⟩, z0, z1, z2, z3, z4, z5, z6, z7⟩ := J.out.res.c8
      obtain ⟨ks, hks⟩ : ∃ ks, flatN k ps = ks := ⟨_, rfl⟩
      have hjn : joinN k ps = oneOf k ks := by unfold joinN; rw [hks]
      rw [hks] at hrow hn J ⊢
      have HJN := Lib.hid (And.intro hjn hrow)
      clear hjn hrow hks
      by_cases h1 : ks.length = 1
      · obtain ⟨n1, rfl⟩ := List.length_eq_one_iff.1 h1
        have k2 : (([n1] : List Nd).length : Int) = 1 := rfl
        obtain ⟨A6, c6, e6, hsrc⟩ := J.out.own.src
        obtain ⟨pb, off, a', c', hA, hpb, hl8, hnd⟩ := hsrc.get (i := 0) (m := n1) rfl
        obtain rfl : A5 = A6 := by injection e6
        subst hA
        rw [Nat.zero_mul, Nat.add_zero] at hl8
        obtain ⟨x0, x1, x2, x3, x4, x5, x6, x7⟩ := hl8.c8
        have HND := Lib.hid hnd
        clear hl8 hsrc hnd e6
        go_wp2_with fail
        refine bodyPost_ret (v := nodeV n1.kind n1.set (.slice a' n1.kids.length c') n1.lo n1.hi) (by simp [results, Tryd.results57, go_sem, nodeV, y0, y1, y2, y3, y4, y5, y6, y7]) rfl ?_
        have hbb := below_set8 J.out.below (.int .i64 n1.kind) (.int .u64 n1.set.a) (.int .u64 n1.set.b) (.int .u64 n1.set.c) (.int .u64 n1.set.d) (.slice a' n1.kids.length c') (.int .i64 n1.lo) (.int .i64 n1.hi) (Nat.le_refl w.heap.size)
        have hoo := only_set8 wr w.heap.size (.int .i64 n1.kind) (.int .u64 n1.set.a) (.int .u64 n1.set.b) (.int .u64 n1.set.c) (.int .u64 n1.set.d) (.slice a' n1.kids.length c') (.int .i64 n1.lo) (.int .i64 n1.hi)
        refine ⟨_, rfl, ⟨a', c', by rw [HJN.out.1]; rfl, ?_⟩, hbb⟩
        rw [HJN.out.1]
        exact NdP.keep hoo.size (fun b hb hp => ⟨.inl hp, hoo.block b hb (by have := hp.2; simp; omega)⟩) n1 HND.out
      · have k2 : ((ks.length : Int) == 1) = false := by rw [beq_eq_false_iff_ne]; omega
        have H1 := Lib.hid h1
        clear h1
        go_wp2_with fail
        refine bodyPost_ret (v := nodeV k none4 (.slice A5 ks.length c5) 0 0) (by simp [results, Tryd.results57, go_sem, nodeV, none4, y0, y1, y2, y3, y4, y5, y6, y7]) rfl ?_
        have hbb := below_set8 J.out.below (.int .i64 k) (.int .u64 0) (.int .u64 0) (.int .u64 0) (.int .u64 0) (.slice A5 ks.length c5) (.int .i64 0) (.int .i64 0) (Nat.le_refl w.heap.size)
        have hoo := only_set8 wr w.heap.size (.int .i64 k) (.int .u64 0) (.int .u64 0) (.int .u64 0) (.int .u64 0) (.slice A5 ks.length c5) (.int .i64 0) (.int .i64 0)
        refine ⟨_, rfl, ⟨A5, c5, by rw [HJN.out.1, oneOf_many H1.out]; rfl, ?_⟩, hbb⟩
        rw [HJN.out.1, oneOf_many H1.out, NdP]
        refine ⟨by unfold maxLen; omega, HJN.out.2.imp id ?_⟩
        rintro ⟨g, e1, e2, e3, e4⟩
        refine ⟨g, 0, e1, .inr (by omega), by have := hoo.size; omega, e4.keep_of (hoo.block g e3 (by simp; omega)) fun n hn a hnd => NdP.keep hoo.size (fun b hb hp => ⟨.inl hp, hoo.block b hb (by have := hp.2; simp; omega)⟩) n hnd⟩
end Go.Proofs.YtpknglbpbodnbaaDoor
