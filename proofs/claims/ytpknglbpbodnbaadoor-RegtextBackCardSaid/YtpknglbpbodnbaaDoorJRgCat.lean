/-
  The walk of cat. Conditions: as atom's; piece does what it is said to do.
-/
import Derived.Test.YtpknglbpbodnbaaDoorJRgPiece
namespace Go.Proofs.YtpknglbpbodnbaaDoor
set_option linter.unusedVariables false
set_option linter.unusedSimpArgs false
open Go.RowKit Go.Sort Cs Rg Go.ChangeShapes Go.WideShapes

theorem Only.grows {w w' : World} {rb : Nat} (h : Only [rb] w w') : w.grownBy w' (some rb) := ⟨h.os, h.tape, h.output, h.size, fun k hk hne => h.block k hk (by simpa using fun e => hne (by rw [e]))⟩
theorem Grows.only {P : Nat → Prop} {w w' : World} {base rb : Nat} {v : Value} {ps : List Nd} (h : Grows P w base v ps) (ho : Only [rb] w w') (hb : rb < base) (hP : ∀ b, P b → b ≠ rb) : Grows P w' base v ps := by
  obtain ⟨L, h1, h2, h3⟩ := h
  refine ⟨L, h1, h2.kept ho.grows (.inr fun e => ?_), fun e he => NdP.keep ho.size (fun b hb2 hp => ⟨hp, ho.block b hb2 (by simpa using hP b hp.1)⟩) e.1 (h3 e he)⟩
  have := own_ge h2 e
  omega
theorem Grows.lt {P : Nat → Prop} {w : World} {base : Nat} {v : Value} {ps : List Nd} (h : Grows P w base v ps) {g : Nat} (hg : v.ownBlock = some g) : g < w.heap.size := by
  obtain ⟨L, h1, h2, h3⟩ := h
  rcases h2.2 with ⟨rfl, _⟩ | ⟨g', cap, cur, rfl, _, hh, _⟩
  · simp [Value.ownBlock] at hg
  · have : g' = g := by simpa [Value.ownBlock] using hg
    subst this
    rcases Nat.lt_or_ge g' w.heap.size with hl | hl
    · exact hl
    · rw [Array.getElem?_eq_none hl] at hh; cases hh
theorem Na.low {w w' w2 : World} {rb : Nat} {s : ByteArray} {i o : Nat} (h : Na w w' rb s i o) (hb : Below (w.heap.size + 1) w' w2) : Na w w2 rb s i o :=
  ⟨⟨h.rd.1.below hb (by have := h.lr; omega), h.rd.2.put hb (by omega)⟩, h.res.below hb (by omega), h.lr⟩
/-- parts that are being read -/
structure Pa (w w' : World) (rb : Nat) (s : ByteArray) (i o : Nat) (v : Value) (ps : List Nd) : Prop where
  na : Na w w' rb s i o
  gr : Grows (fun b => w.heap.size < b) w' (w.heap.size + 1) v ps
section
variable {w w' w2 : World} {rb : Nat} {s : ByteArray} {i o : Nat} {v : Value} {ps : List Nd}
theorem Pa.go (h : Pa w w' rb s i o v ps) (hb : Below w'.heap.size w' w2) : Pa w w2 rb s i o v ps := ⟨h.na.go hb, h.gr.below hb⟩
theorem Pa.on (h : Pa w w' rb s i o v ps) {j o2 : Nat} (h2 : RdGo w' rb s j o2 w2) : Pa w w2 rb s j o2 v ps :=
  ⟨h.na.on h2, h.gr.only h2.2 (by have := h.na.lr; omega) (fun b hb e => by have := h.na.lr; omega)⟩
theorem Pa.step (h : Pa w w' rb s i o v ps) : Pa w (w'.setCell ⟨rb, 1, none⟩ (.int .i64 ((i : Int) + 1))) rb s (i + 1) o v ps := h.on (RdGo.step (RdGo.refl h.na.rd.1))
/-- one part more -/
theorem Pa.push {v' : Value} {L : NRow} {n : Nd} {a : Option Addr} {c : Nat} (h : Pa w w' rb s i o v ps) (h1 : L.map (·.1) = ps)
    (hL2 : w'.ownsRow (w.heap.size + 1) 27 8 v ps.length (cellsL L)) (hown : w2.ownsRow (w.heap.size + 1) 27 8 v' (ps.length + 1) (cellsL L ++ cellsE (n, a, c)))
    (hg : w'.grownBy w2 v.ownBlock) (hat : v'.ownBlock = v.ownBlock ∨ v'.ownBlock = some w'.heap.size)
    (h3 : ∀ e ∈ L, NdP (fun b => w.heap.size < b ∧ v.ownBlock ≠ some b) w' e.2.1 e.1) (hn : NdP (fun b => w.heap.size < b ∧ v.ownBlock ≠ some b) w' a n) : Pa w w2 rb s i o v' (ps ++ [n]) := by
  have hge : ∀ b, v.ownBlock = some b → w.heap.size + 1 ≤ b := fun b e => own_ge hL2 e
  refine ⟨h.na.low ((Below.refl _ _).grown hg (by have := h.na.res.lt; omega) hge), ?_⟩
  refine Grows.push (M := [(n, a, c)]) (ms := [n]) h1 rfl (by rw [cellsL_one]; exact hown) hg hat h3 fun e he => ?_
  obtain rfl := List.mem_singleton.1 he
  exact hn
end
set_option maxHeartbeats 8000000 in
set_option maxRecDepth 1000000 in
theorem cat_step (rb : Nat) (s : ByteArray) (hs : s.size ≤ 256) (f : Nat) (hA : ∀ g, g < f → PIECE rb s g) : CAT rb s f := by
  intro i o w h ho hi hT hf
  have HT := Lib.hid (And.intro hT h)
  have HA := Lib.hid hA
  have P0 := Lib.hid (Pa.mk (v := .slice none 0 0) (ps := []) (Na.new h) (Grows.nil _ _ _))
  have hi6 : i ≤ 256 := by omega
  have hli := restL_len s i
  obtain ⟨R, hR⟩ : ∃ R, catP f o [] (restL s i) = R := ⟨_, rfl⟩
  have HR := Lib.hid hR
  rw [hR]
  obtain ⟨i0, hi0, hz0, hz1, hz2⟩ := info_parts infoNode
  clear hR h hT hA
  go_enter Tryd.func55, Tryd.ntmps55
  go_wp2_with fail
  generalize w.alloc (.cells #[.int .i64 0, .int .u64 0, .int .u64 0, .int .u64 0, .int .u64 0, .slice none 0 0, .int .i64 0, .int .i64 0] 27) = w1 at *
  go_loopw [3] (fun pv wr => ∃ (j fk : Nat) (ps : List Nd), i ≤ j ∧ j ≤ s.size ∧ fk ≤ f ∧ 4 * (s.size - j) + 3 ≤ fk ∧ sizeL ps ≤ 2 * (j - i) ∧ Hid (catP f o [] (restL s i) = catP fk o ps (restL s j) ∧ True) ∧ Hid (Pa w wr rb s j o pv ps)) (fun _ wr => s.size - idxOf rb wr)
  case atStart => exact ⟨i, f, [], Nat.le_refl _, hi, Nat.le_refl _, by omega, by simp [sizeL], Lib.hid ⟨rfl, trivial⟩, P0⟩
  case round =>
    clear P0
    obtain ⟨j, fk, ps, hij, hj, hfk, hfl, hsl, CP, P0⟩ := hrel
    have HIDX := Lib.hid P0.out.na.rd.1.idx
    have hlj := restL_len s j
    have hsz : sizeL ps ≤ 1000000 := by omega
    obtain ⟨fk, rfl⟩ : ∃ f', fk = f' + 1 := ⟨fk - 1, by omega⟩
    cases hr : restL s j with
    | nil =>
      have HRR := Lib.hid hr
      have HE := Lib.hid (show catP f o [] (restL s i) = some (joinN 2 ps, restL s j) by rw [CP.out.1, hr, catP, if_pos (by simp [endB])])
      clear hr
      go_wp2_with fail
      refine (peek_nil HRR.out P0.out.na.rd.1 hs).mono ?_
      rintro e w4 ⟨rfl, bx⟩
      have P1 := Lib.hid (P0.out.go bx)
      clear bx P0
      obtain ⟨A5, c5, e5, hsrc⟩ := P1.out.gr.src
      have hjoin := join_any _ 2 ps A5 c5 _ hsrc (Nat.le_trans (flatN_len 2 ps) hsz) (Nat.le_trans (sizeL_len ps) hsz)
      rw [← e5] at hjoin
      have HJ := Lib.hid hjoin
      clear e5 hsrc hjoin
      go_wp2_with fail
      refine HJ.out.mono ?_
      rintro e w6 ⟨v, rfl, ⟨a', c', rfl, hnp⟩, bx⟩
      obtain ⟨nn, hnn⟩ : ∃ nn, joinN 2 ps = nn := ⟨_, rfl⟩
      rw [hnn] at hnp HE
      simp only [hnn]
      have G2 := Lib.hid (P1.out.na.go bx)
      have hw5 := P1.out.na.res.lt
      have ND := Lib.hid (NdP.keep (Q := fun b => w.heap.size < b) (Nat.le_refl _) (fun b hb hp => ⟨by rcases hp with hp | hp <;> omega, rfl⟩) nn hnp)
      clear hnp bx HJ hnn
      unfold nodeV
      obtain ⟨⟨y0, y1, y2, y3, y4, y5, y6, y7⟩, z0, z1, z2, z3, z4, z5, z6, z7⟩ := G2.out.res.c8
      go_wp2_with fail
      refine bodyPost_ret (v := nodeV nn.kind nn.set (.slice a' nn.kids.length c') nn.lo nn.hi) (by simp [results, Tryd.results55, go_sem, nodeV, y0, y1, y2, y3, y4, y5, y6, y7]) rfl ?_
      rw [← HR.out, HE.out]
      have hoo := only_set8 w6 w.heap.size (.int .i64 nn.kind) (.int .u64 nn.set.a) (.int .u64 nn.set.b) (.int .u64 nn.set.c) (.int .u64 nn.set.d) (.slice a' nn.kids.length c') (.int .i64 nn.lo) (.int .i64 nn.hi)
      exact Told.some_ ⟨a', c', rfl, NdP.keep hoo.size (fun b hb hp => ⟨Nat.le_of_lt hp, hoo.block b hb (by simp; omega)⟩) nn ND.out⟩ hij hj (G2.out.end_ _ _ _ _ _ _ _ _)
    | cons b l =>
      have HRR := Lib.hid hr
      have hb := restL_cons hr
      have hjl := hb.1
      have kn : ((b : Int) == -1) = false := by rw [beq_eq_false_iff_ne]; omega
      by_cases hend : b = 124 ∨ b = 41
      · have HE := Lib.hid (show catP f o [] (restL s i) = some (joinN 2 ps, restL s j) by rw [CP.out.1, hr, catP, if_pos (by rcases hend with rfl | rfl <;> simp [endB])])
        clear hr hb
        have hq : ((b : Int) == 124) = true ∨ (((b : Int) == 124) = false ∧ ((b : Int) == 41) = true) := by
          rcases hend with rfl | rfl
          · exact .inl rfl
          · exact .inr ⟨rfl, rfl⟩
        clear hend
        rcases hq with q1 | ⟨q1, q2⟩
        · go_wp2_with fail
          refine (peek_cons HRR.out P0.out.na.rd.1 hs).mono ?_
          rintro e w4 ⟨rfl, bx⟩
          have P1 := Lib.hid (P0.out.go bx)
          clear bx P0
          obtain ⟨A5, c5, e5, hsrc⟩ := P1.out.gr.src
          have hjoin := join_any _ 2 ps A5 c5 _ hsrc (Nat.le_trans (flatN_len 2 ps) hsz) (Nat.le_trans (sizeL_len ps) hsz)
          rw [← e5] at hjoin
          have HJ := Lib.hid hjoin
          clear e5 hsrc hjoin
          go_wp2_with fail
          refine HJ.out.mono ?_
          rintro e w6 ⟨v, rfl, ⟨a', c', rfl, hnp⟩, bx⟩
          obtain ⟨nn, hnn⟩ : ∃ nn, joinN 2 ps = nn := ⟨_, rfl⟩
          rw [hnn] at hnp HE
          simp only [hnn]
          have G2 := Lib.hid (P1.out.na.go bx)
          have hw5 := P1.out.na.res.lt
          have ND := Lib.hid (NdP.keep (Q := fun b => w.heap.size < b) (Nat.le_refl _) (fun b hb hp => ⟨by rcases hp with hp | hp <;> omega, rfl⟩) nn hnp)
          clear hnp bx HJ hnn
          unfold nodeV
          obtain ⟨⟨y0, y1, y2, y3, y4, y5, y6, y7⟩, z0, z1, z2, z3, z4, z5, z6, z7⟩ := G2.out.res.c8
          go_wp2_with fail
          refine bodyPost_ret (v := nodeV nn.kind nn.set (.slice a' nn.kids.length c') nn.lo nn.hi) (by simp [results, Tryd.results55, go_sem, nodeV, y0, y1, y2, y3, y4, y5, y6, y7]) rfl ?_
          rw [← HR.out, HE.out]
          have hoo := only_set8 w6 w.heap.size (.int .i64 nn.kind) (.int .u64 nn.set.a) (.int .u64 nn.set.b) (.int .u64 nn.set.c) (.int .u64 nn.set.d) (.slice a' nn.kids.length c') (.int .i64 nn.lo) (.int .i64 nn.hi)
          exact Told.some_ ⟨a', c', rfl, NdP.keep hoo.size (fun b hb hp => ⟨Nat.le_of_lt hp, hoo.block b hb (by simp; omega)⟩) nn ND.out⟩ hij hj (G2.out.end_ _ _ _ _ _ _ _ _)
        · go_wp2_with fail
          refine (peek_cons HRR.out P0.out.na.rd.1 hs).mono ?_
          rintro e w4 ⟨rfl, bx⟩
          have P1 := Lib.hid (P0.out.go bx)
          clear bx P0
          obtain ⟨A5, c5, e5, hsrc⟩ := P1.out.gr.src
          have hjoin := join_any _ 2 ps A5 c5 _ hsrc (Nat.le_trans (flatN_len 2 ps) hsz) (Nat.le_trans (sizeL_len ps) hsz)
          rw [← e5] at hjoin
          have HJ := Lib.hid hjoin
          clear e5 hsrc hjoin
          go_wp2_with fail
          refine HJ.out.mono ?_
          rintro e w6 ⟨v, rfl, ⟨a', c', rfl, hnp⟩, bx⟩
          obtain ⟨nn, hnn⟩ : ∃ nn, joinN 2 ps = nn := ⟨_, rfl⟩
          rw [hnn] at hnp HE
          simp only [hnn]
          have G2 := Lib.hid (P1.out.na.go bx)
          have hw5 := P1.out.na.res.lt
          have ND := Lib.hid (NdP.keep (Q := fun b => w.heap.size < b) (Nat.le_refl _) (fun b hb hp => ⟨by rcases hp with hp | hp <;> omega, rfl⟩) nn hnp)
          clear hnp bx HJ hnn
          unfold nodeV
          obtain ⟨⟨y0, y1, y2, y3, y4, y5, y6, y7⟩, z0, z1, z2, z3, z4, z5, z6, z7⟩ := G2.out.res.c8
          go_wp2_with fail
          refine bodyPost_ret (v := nodeV nn.kind nn.set (.slice a' nn.kids.length c') nn.lo nn.hi) (by simp [results, Tryd.results55, go_sem, nodeV, y0, y1, y2, y3, y4, y5, y6, y7]) rfl ?_
          rw [← HR.out, HE.out]
          have hoo := only_set8 w6 w.heap.size (.int .i64 nn.kind) (.int .u64 nn.set.a) (.int .u64 nn.set.b) (.int .u64 nn.set.c) (.int .u64 nn.set.d) (.slice a' nn.kids.length c') (.int .i64 nn.lo) (.int .i64 nn.hi)
          exact Told.some_ ⟨a', c', rfl, NdP.keep hoo.size (fun b hb hp => ⟨Nat.le_of_lt hp, hoo.block b hb (by simp; omega)⟩) nn ND.out⟩ hij hj (G2.out.end_ _ _ _ _ _ _ _ _)
      · have CP2 := Lib.hid (show catP (fk + 1) o ps (restL s j) = match pieceP fk o (restL s j) with
          | none => none
          | some (n, l1) => catP fk o (ps ++ [n]) l1 by
          rw [catP, if_neg (by rw [hr]; simp [endB]; omega)]
          cases pieceP fk o (restL s j) <;> rfl)
        have q1 : ((b : Int) == 124) = false := by rw [beq_eq_false_iff_ne]; omega
        have q2 : ((b : Int) == 41) = false := by rw [beq_eq_false_iff_ne]; omega
        clear hend hr hb
        go_wp2_with fail
        refine (peek_cons HRR.out P0.out.na.rd.1 hs).mono ?_
        rintro e w4 ⟨rfl, bx⟩
        have P1 := Lib.hid (P0.out.go bx)
        clear bx P0
        go_wp2_with fail
        refine (HA.out fk (by omega) j o _ P1.out.na.rd.1 ho hj (HT.out.1.only HT.out.2 P1.out.na.rd.2) (by omega)).mono ?_
        intro e w5 ht
        rcases ht.elim with ⟨hn, ⟨E, x, rfl, hE⟩, ho⟩ | ⟨n, j2, v, hn, rfl, ⟨a', c', rfl, hnp⟩, hij2, hj2, hg⟩
        · have HE := Lib.hid (show catP f o [] (restL s i) = none by rw [CP.out.1, CP2.out, hn])
          exact ⟨rfl, by rw [← HR.out, HE.out]; exact ⟨⟨E, x, rfl, hE⟩, P1.out.na.rd.2.trans ho⟩⟩
        have hsz2 := (sizes fk).2.2.2.1 o (restL s j) n (restL s j2) (restL_bytes s j) hn
        have htk := (takes fk).2.2.2.1 o (restL s j) n (restL s j2) hn
        have P2 := Lib.hid (P1.out.on hg)
        have HN := Lib.hid (And.intro hn (And.intro hsz2.1 htk))
        have hlt4 := fun g => P1.out.gr.lt (g := g)
        have hw4 := P1.out.na.res.lt
        have hnp2 : NdP (fun b => w.heap.size < b ∧ u3.ownBlock ≠ some b) w5 a' n := NdP.keep (Nat.le_refl _) (fun b hb hp => ⟨⟨by omega, fun e => by have := hlt4 b e; omega⟩, rfl⟩) n hnp
        have ND := Lib.hid hnp2
        clear hn hg ht hnp hnp2 hlt4 hsz2 htk P1
        unfold nodeV
        obtain ⟨L, hL1, hL2, hL3⟩ := P2.out.gr
        have hbk2 := (Below.refl w5.heap.size w5).alloc (Nat.le_refl _) (.cells #[.int .i64 n.kind, .int .u64 n.set.a, .int .u64 n.set.b, .int .u64 n.set.c, .int .u64 n.set.d, .slice a' n.kids.length c', .int .i64 n.lo, .int .i64 n.hi] 27)
        have hM2 := reads_new w5 27 #[.int .i64 n.kind, .int .u64 n.set.a, .int .u64 n.set.b, .int .u64 n.set.c, .int .u64 n.set.d, .slice a' n.kids.length c', .int .i64 n.lo, .int .i64 n.hi] 8 rfl
        have hL2' := hL2.alloc (.cells #[.int .i64 n.kind, .int .u64 n.set.a, .int .u64 n.set.b, .int .u64 n.set.c, .int .u64 n.set.d, .slice a' n.kids.length c', .int .i64 n.lo, .int .i64 n.hi] 27)
        have P3 := Lib.hid (P2.out.go hbk2)
        have hl2 : ∀ e ∈ L, NdP (fun b => w.heap.size < b ∧ u3.ownBlock ≠ some b) (w5.alloc (.cells #[.int .i64 n.kind, .int .u64 n.set.a, .int .u64 n.set.b, .int .u64 n.set.c, .int .u64 n.set.d, .slice a' n.kids.length c', .int .i64 n.lo, .int .i64 n.hi] 27)) e.2.1 e.1 := fun e he => NdP.keep hbk2.size (fun b hb hp => ⟨hp, hbk2.block b hb⟩) e.1 (hL3 e he)
        have hn2 : NdP (fun b => w.heap.size < b ∧ u3.ownBlock ≠ some b) (w5.alloc (.cells #[.int .i64 n.kind, .int .u64 n.set.a, .int .u64 n.set.b, .int .u64 n.set.c, .int .u64 n.set.d, .slice a' n.kids.length c', .int .i64 n.lo, .int .i64 n.hi] 27)) a' n := NdP.keep hbk2.size (fun b hb hp => ⟨hp, hbk2.block b hb⟩) n ND.out
        have HL := Lib.hid (And.intro hL1 (And.intro hl2 hn2))
        have hw5 := P2.out.na.res.lt
        have hpl := sizeL_len ps
        clear hbk2 hl2 hn2 hL2 hL1 hL3 P2 ND
        go_wp2_with (at_builtin; refine wpList_append_any _ rfl _ _ 25 rfl (w.heap.size + 1) 27 i0 zeroNd 8 80 Tryd.underlying25 hi0 hz0 hz1 hz2 rfl (by decide) _ _ _ rfl hL2' _ _ 1 1 _ rfl hM2 (cellsE_plain (n, a', c')) (by unfold maxLen; omega) (by omega) (by simp; omega) ?_; intro v' w7 hown hgrow hat)
        have P4 := Lib.hid (P3.out.push HL.out.1 hL2' hown hgrow hat HL.out.2.1 HL.out.2.2)
        clear hown hgrow hat hL2' hM2 P3
        go_wp2_with fail
        go_roundw
        case rel => exact ⟨j2, fk, ps ++ [n], by omega, hj2, by omega, by have := HN.out.2.2; rw [restL_len, restL_len] at this; omega, by rw [sizeL_app]; have := HN.out.2.1; rw [restL_len, restL_len] at this; simp only [sizeL]; omega, Lib.hid ⟨by rw [CP.out.1, CP2.out, HN.out.1], trivial⟩, P4⟩
        case measure => rw [P4.out.na.rd.1.idx, HIDX.out]; have := HN.out.2.2; rw [restL_len, restL_len] at this; omega
end Go.Proofs.YtpknglbpbodnbaaDoor
