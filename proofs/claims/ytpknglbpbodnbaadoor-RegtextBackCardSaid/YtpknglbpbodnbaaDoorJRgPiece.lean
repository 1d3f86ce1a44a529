/-
  The walk of piece. Conditions: as atom's; atom does what it is said to do.
-/
import Derived.Test.YtpknglbpbodnbaaDoorJRgAtom
namespace Go.Proofs.YtpknglbpbodnbaaDoor
set_option linter.unusedVariables false
set_option linter.unusedSimpArgs false
open Go.RowKit Go.Sort Cs Rg Go.ChangeShapes Go.WideShapes

/-- the reader, the variable of the result, and a node's variable -/
structure Nb (w w' : World) (rb : Nat) (s : ByteArray) (i o nbk : Nat) (n : Nd) (a : Option Addr) (c : Nat) : Prop where
  na : Na w w' rb s i o
  nb : Blk w' nbk 27 #[.int .i64 n.kind, .int .u64 n.set.a, .int .u64 n.set.b, .int .u64 n.set.c, .int .u64 n.set.d, .slice a n.kids.length c, .int .i64 n.lo, .int .i64 n.hi]
  nd : NdP (fun b => w.heap.size < b) w' a n
  ne1 : nbk ≠ rb
  ne2 : w.heap.size < nbk
section
variable {w w' w2 : World} {rb : Nat} {s : ByteArray} {i o nbk : Nat} {n : Nd} {a : Option Addr} {c : Nat}
theorem Nb.go (h : Nb w w' rb s i o nbk n a c) (hb : Below w'.heap.size w' w2) : Nb w w2 rb s i o nbk n a c :=
  ⟨h.na.go hb, h.nb.below hb h.nb.lt, NdP.keep hb.size (fun b hb2 hp => ⟨hp, hb.block b hb2⟩) n h.nd, h.ne1, h.ne2⟩
theorem Nb.on (h : Nb w w' rb s i o nbk n a c) {j o2 : Nat} (h2 : RdGo w' rb s j o2 w2) : Nb w w2 rb s j o2 nbk n a c :=
  ⟨h.na.on h2, h.nb.only h2.2 (by simpa using h.ne1), NdP.keep h2.2.size (fun b hb2 hp => ⟨hp, h2.2.block b hb2 (by have := h.na.lr; simp; omega)⟩) n h.nd, h.ne1, h.ne2⟩
theorem Nb.step (h : Nb w w' rb s i o nbk n a c) : Nb w (w'.setCell ⟨rb, 1, none⟩ (.int .i64 ((i : Int) + 1))) rb s (i + 1) o nbk n a c := h.on (RdGo.step (RdGo.refl h.na.rd.1))
end
set_option maxHeartbeats 8000000 in
set_option maxRecDepth 1000000 in
theorem piece_step (rb : Nat) (s : ByteArray) (hs : s.size ≤ 256) (f : Nat) (hA : ∀ g, g < f → ATOM rb s g) : PIECE rb s f := by
  intro i o w h ho hi hT hf
  have HT := Lib.hid (And.intro hT h)
  have HA := Lib.hid hA
  have G0 := Lib.hid (Na.new h)
  have hi6 : i ≤ 256 := by omega
  obtain ⟨f, rfl⟩ : ∃ f', f = f' + 1 := ⟨f - 1, by omega⟩
  obtain ⟨R, hR⟩ : ∃ R, pieceP (f + 1) o (restL s i) = R := ⟨_, rfl⟩
  have HR := Lib.hid hR
  rw [hR]
  have hw1 : (w.alloc (.cells #[.int .i64 0, .int .u64 0, .int .u64 0, .int .u64 0, .int .u64 0, .slice none 0 0, .int .i64 0, .int .i64 0] 27)).heap.size = w.heap.size + 1 := by simp
  clear hR h hT hA
  go_enter Tryd.func63, Tryd.ntmps63
  go_wp2_with fail
  generalize w.alloc (.cells #[.int .i64 0, .int .u64 0, .int .u64 0, .int .u64 0, .int .u64 0, .slice none 0 0, .int .i64 0, .int .i64 0] 27) = w1 at *
  refine (HA.out f (by omega) i o _ G0.out.rd.1 ho hi (HT.out.1.only HT.out.2 G0.out.rd.2) (by omega)).mono ?_
  intro e w2 ht
  rcases ht.elim with ⟨hn, ⟨E, x, rfl, hE⟩, ho⟩ | ⟨n, j, v, hn, rfl, ⟨a', c', rfl, hnp⟩, hij, hj, hg⟩
  · have HE := Lib.hid (show pieceP (f + 1) o (restL s i) = none by rw [pieceP, hn])
    exact ⟨rfl, by rw [← HR.out, HE.out]; exact ⟨⟨E, x, rfl, hE⟩, G0.out.rd.2.trans ho⟩⟩
  have HP := Lib.hid (show pieceP (f + 1) o (restL s i) = quantP n (restL s j) by rw [pieceP, hn])
  have G1 := Lib.hid (G0.out.on hg)
  have hnd : NdP (fun b => w.heap.size < b) w2 a' n := NdP.keep (Nat.le_refl _) (fun b hb hp => ⟨by have : w1.heap.size ≤ b := hp; omega, rfl⟩) n hnp
  have HN := Lib.hid hnd
  clear hg hn ht G0 hnp hnd hw1
  unfold nodeV
  go_upto_region 2 with (fail)
  have hbk := (Below.refl w2.heap.size w2).alloc (Nat.le_refl _) (.cells #[.int .i64 n.kind, .int .u64 n.set.a, .int .u64 n.set.b, .int .u64 n.set.c, .int .u64 n.set.d, .slice a' n.kids.length c', .int .i64 n.lo, .int .i64 n.hi] 27)
  have nb := Blk.new w2 27 #[.int .i64 n.kind, .int .u64 n.set.a, .int .u64 n.set.b, .int .u64 n.set.c, .int .u64 n.set.d, .slice a' n.kids.length c', .int .i64 n.lo, .int .i64 n.hi]
  have hx1 : w2.heap.size ≠ rb := by have := G1.out.rd.1.lt; omega
  have G := Lib.hid (Nb.mk (G1.out.go hbk) nb (NdP.keep hbk.size (fun b hb hp => ⟨hp, hbk.block b hb⟩) n HN.out) hx1 G1.out.res.lt)
  clear hbk nb hx1 G1 HN
  obtain ⟨nbk, hnbk⟩ : ∃ nbk, w2.heap.size = nbk := ⟨_, rfl⟩
  generalize w2.alloc (.cells #[.int .i64 n.kind, .int .u64 n.set.a, .int .u64 n.set.b, .int .u64 n.set.c, .int .u64 n.set.d, .slice a' n.kids.length c', .int .i64 n.lo, .int .i64 n.hi] 27) = w5 at *
  rw [hnbk] at G ⊢
  clear hnbk
  cases hr : restL s j with
  | nil =>
    have HRR := Lib.hid hr
    have HE := Lib.hid (show pieceP (f + 1) o (restL s i) = some (n, restL s j) by rw [HP.out, hr]; rfl)
    clear hr
    go_wp2_with fail
    refine (peek_nil HRR.out G.out.na.rd.1 hs).mono ?_
    rintro e w6 ⟨rfl, bx⟩
    have G2 := Lib.hid (G.out.go bx)
    clear bx G
    obtain ⟨⟨x0, x1, x2, x3, x4, x5, x6, x7⟩, -⟩ := G2.out.nb.c8
    obtain ⟨⟨y0, y1, y2, y3, y4, y5, y6, y7⟩, z0, z1, z2, z3, z4, z5, z6, z7⟩ := G2.out.na.res.c8
    go_wp2_with fail
    refine bodyPost_ret (v := nodeV n.kind n.set (.slice a' n.kids.length c') n.lo n.hi) (by simp [results, Tryd.results63, go_sem, nodeV, y0, y1, y2, y3, y4, y5, y6, y7]) rfl ?_
    rw [← HR.out, HE.out]
    have hoo := only_set8 w6 w.heap.size (.int .i64 n.kind) (.int .u64 n.set.a) (.int .u64 n.set.b) (.int .u64 n.set.c) (.int .u64 n.set.d) (.slice a' n.kids.length c') (.int .i64 n.lo) (.int .i64 n.hi)
    exact Told.some_ ⟨a', c', rfl, NdP.keep hoo.size (fun b hb hp => ⟨Nat.le_of_lt hp, hoo.block b hb (by simp; omega)⟩) n G2.out.nd⟩ hij hj (G2.out.na.end_ _ _ _ _ _ _ _ _)
  | cons b l =>
    have HRR := Lib.hid hr
    have hb := restL_cons hr
    have hb9 := hb.2.2
    have hjl := hb.1
    have hj6 : j < 256 := by omega
    have hjs : j + 1 ≤ s.size := hjl
    by_cases hq1 : b = 42
    · skip
      have hv := hq1
      have q42 : ((b : Int) == 42) = ((42 : Int) == 42) := by rw [hv]; rfl
      have q43 : ((b : Int) == 43) = ((42 : Int) == 43) := by rw [hv]; rfl
      have q63 : ((b : Int) == 63) = ((42 : Int) == 63) := by rw [hv]; rfl
      have q123 : ((b : Int) == 123) = ((42 : Int) == 123) := by rw [hv]; rfl
      have HE := Lib.hid (show pieceP (f + 1) o (restL s i) = some (repN n 0 (-1), restL s (j + 1)) by rw [HP.out, hr, hv]; first | rfl | (rw [hb.2.1]; rfl))
      clear hv hq1
      go_wp2_with fail
      refine (peek_cons HRR.out G.out.na.rd.1 hs).mono ?_
      rintro e w6 ⟨rfl, bx⟩
      have G2 := Lib.hid (G.out.go bx)
      clear bx G
      obtain ⟨⟨c0, c1, c2⟩, z0, z1, z2⟩ := G2.out.na.rd.1.c3
      go_upto_region 16 with (fail)
      have G3 := Lib.hid G2.out.step
      clear c0 c1 c2 z0 z1 z2 G2
      generalize w6.setCell ⟨rb, 1, none⟩ (.int .i64 ((j : Int) + 1)) = w7 at *
      obtain ⟨⟨x0, x1, x2, x3, x4, x5, x6, x7⟩, -⟩ := G3.out.nb.c8
      obtain ⟨⟨y0, y1, y2, y3, y4, y5, y6, y7⟩, z0, z1, z2, z3, z4, z5, z6, z7⟩ := G3.out.na.res.c8
      have hw8 : w.heap.size < w7.heap.size := G3.out.na.res.lt
      have hne : ¬ w.heap.size = w7.heap.size := by omega
      have hne2 : ¬ w7.heap.size = w.heap.size := by omega
      go_wp2_with fail
      have hoo := only_set8 w7 w.heap.size (.int .i64 4) (.int .u64 0) (.int .u64 0) (.int .u64 0) (.int .u64 0) (.slice (some ⟨w7.heap.size, 0, none⟩) 1 1) (.int .i64 0) (.int .i64 (-1))
      have hrd := G3.out.na.end_ (.int .i64 4) (.int .u64 0) (.int .u64 0) (.int .u64 0) (.int .u64 0) (.slice (some ⟨w7.heap.size, 0, none⟩) 1 1) (.int .i64 0) (.int .i64 (-1))
      have hsz : (((((((((w7.setCell ⟨w.heap.size, 0, none⟩ (.int .i64 4)).setCell ⟨w.heap.size, 1, none⟩ (.int .u64 0)).setCell ⟨w.heap.size, 2, none⟩ (.int .u64 0)).setCell ⟨w.heap.size, 3, none⟩ (.int .u64 0)).setCell ⟨w.heap.size, 4, none⟩ (.int .u64 0)).setCell ⟨w.heap.size, 5, none⟩ (.slice (some ⟨w7.heap.size, 0, none⟩) 1 1)).setCell ⟨w.heap.size, 6, none⟩ (.int .i64 0)).setCell ⟨w.heap.size, 7, none⟩ (.int .i64 (-1)))).heap.size = w7.heap.size := by simp
      have hnd := G3.out.nd
      have hq8 := blk_set8 G3.out.na.res (.int .i64 4) (.int .u64 0) (.int .u64 0) (.int .u64 0) (.int .u64 0) (.slice (some ⟨w7.heap.size, 0, none⟩) 1 1) (.int .i64 0) (.int .i64 (-1))
      generalize (((((((((w7.setCell ⟨w.heap.size, 0, none⟩ (.int .i64 4)).setCell ⟨w.heap.size, 1, none⟩ (.int .u64 0)).setCell ⟨w.heap.size, 2, none⟩ (.int .u64 0)).setCell ⟨w.heap.size, 3, none⟩ (.int .u64 0)).setCell ⟨w.heap.size, 4, none⟩ (.int .u64 0)).setCell ⟨w.heap.size, 5, none⟩ (.slice (some ⟨w7.heap.size, 0, none⟩) 1 1)).setCell ⟨w.heap.size, 6, none⟩ (.int .i64 0)).setCell ⟨w.heap.size, 7, none⟩ (.int .i64 (-1)))) = ws at *
      have hbk := (Below.refl ws.heap.size ws).alloc (Nat.le_refl _) (.cells #[.int .i64 n.kind, .int .u64 n.set.a, .int .u64 n.set.b, .int .u64 n.set.c, .int .u64 n.set.d, .slice a' n.kids.length c', .int .i64 n.lo, .int .i64 n.hi] 27)
      have kb := Blk.new ws 27 #[.int .i64 n.kind, .int .u64 n.set.a, .int .u64 n.set.b, .int .u64 n.set.c, .int .u64 n.set.d, .slice a' n.kids.length c', .int .i64 n.lo, .int .i64 n.hi]
      rw [hsz] at kb
      obtain ⟨⟨r0, r1, r2, r3, r4, r5, r6, r7⟩, -⟩ := (hq8.below hbk hq8.lt).c8
      refine bodyPost_ret (v := nodeV 4 none4 (.slice (some ⟨w7.heap.size, 0, none⟩) 1 1) 0 (-1)) (by simp [results, Tryd.results63, go_sem, nodeV, none4, r0, r1, r2, r3, r4, r5, r6, r7]) rfl ?_
      rw [← HR.out, HE.out]
      refine Told.some_ (x := repN n 0 (-1)) ⟨some ⟨w7.heap.size, 0, none⟩, 1, rfl, ?_⟩ (by omega) hjs (hrd.go hbk)
      unfold repN
      rw [NdP]
      refine ⟨by unfold maxLen; simp, .inr ⟨w7.heap.size, 0, rfl, Nat.le_of_lt hw8, by simp only [World.size_alloc]; omega, ?_⟩⟩
      rw [RowP]
      refine ⟨⟨a', c', fun j v hj => ?_, NdP.keep hbk.size (fun b hb hp => ⟨hp, hbk.block b hb⟩) n (NdP.keep (Q := fun b => w.heap.size ≤ b) hoo.size (fun b hb hp => ⟨Nat.le_of_lt hp, hoo.block b hb (by simp; omega)⟩) n hnd)⟩, trivial⟩
      have h2 := kb.cell (0 + j)
      rw [h2, Nat.zero_add, ← hj]
      simp only [cellsN, List.getElem?_toArray]
    by_cases hq2 : b = 43
    · have hq1 := hq2
      have hv := hq1
      have q42 : ((b : Int) == 42) = ((43 : Int) == 42) := by rw [hv]; rfl
      have q43 : ((b : Int) == 43) = ((43 : Int) == 43) := by rw [hv]; rfl
      have q63 : ((b : Int) == 63) = ((43 : Int) == 63) := by rw [hv]; rfl
      have q123 : ((b : Int) == 123) = ((43 : Int) == 123) := by rw [hv]; rfl
      have HE := Lib.hid (show pieceP (f + 1) o (restL s i) = some (repN n 1 (-1), restL s (j + 1)) by rw [HP.out, hr, hv]; first | rfl | (rw [hb.2.1]; rfl))
      clear hv hq1
      go_wp2_with fail
      refine (peek_cons HRR.out G.out.na.rd.1 hs).mono ?_
      rintro e w6 ⟨rfl, bx⟩
      have G2 := Lib.hid (G.out.go bx)
      clear bx G
      obtain ⟨⟨c0, c1, c2⟩, z0, z1, z2⟩ := G2.out.na.rd.1.c3
      go_upto_region 16 with (fail)
      have G3 := Lib.hid G2.out.step
      clear c0 c1 c2 z0 z1 z2 G2
      generalize w6.setCell ⟨rb, 1, none⟩ (.int .i64 ((j : Int) + 1)) = w7 at *
      obtain ⟨⟨x0, x1, x2, x3, x4, x5, x6, x7⟩, -⟩ := G3.out.nb.c8
      obtain ⟨⟨y0, y1, y2, y3, y4, y5, y6, y7⟩, z0, z1, z2, z3, z4, z5, z6, z7⟩ := G3.out.na.res.c8
      have hw8 : w.heap.size < w7.heap.size := G3.out.na.res.lt
      have hne : ¬ w.heap.size = w7.heap.size := by omega
      have hne2 : ¬ w7.heap.size = w.heap.size := by omega
      go_wp2_with fail
      have hoo := only_set8 w7 w.heap.size (.int .i64 4) (.int .u64 0) (.int .u64 0) (.int .u64 0) (.int .u64 0) (.slice (some ⟨w7.heap.size, 0, none⟩) 1 1) (.int .i64 1) (.int .i64 (-1))
      have hrd := G3.out.na.end_ (.int .i64 4) (.int .u64 0) (.int .u64 0) (.int .u64 0) (.int .u64 0) (.slice (some ⟨w7.heap.size, 0, none⟩) 1 1) (.int .i64 1) (.int .i64 (-1))
      have hsz : (((((((((w7.setCell ⟨w.heap.size, 0, none⟩ (.int .i64 4)).setCell ⟨w.heap.size, 1, none⟩ (.int .u64 0)).setCell ⟨w.heap.size, 2, none⟩ (.int .u64 0)).setCell ⟨w.heap.size, 3, none⟩ (.int .u64 0)).setCell ⟨w.heap.size, 4, none⟩ (.int .u64 0)).setCell ⟨w.heap.size, 5, none⟩ (.slice (some ⟨w7.heap.size, 0, none⟩) 1 1)).setCell ⟨w.heap.size, 6, none⟩ (.int .i64 1)).setCell ⟨w.heap.size, 7, none⟩ (.int .i64 (-1)))).heap.size = w7.heap.size := by simp
      have hnd := G3.out.nd
      have hq8 := blk_set8 G3.out.na.res (.int .i64 4) (.int .u64 0) (.int .u64 0) (.int .u64 0) (.int .u64 0) (.slice (some ⟨w7.heap.size, 0, none⟩) 1 1) (.int .i64 1) (.int .i64 (-1))
      generalize (((((((((w7.setCell ⟨w.heap.size, 0, none⟩ (.int .i64 4)).setCell ⟨w.heap.size, 1, none⟩ (.int .u64 0)).setCell ⟨w.heap.size, 2, none⟩ (.int .u64 0)).setCell ⟨w.heap.size, 3, none⟩ (.int .u64 0)).setCell ⟨w.heap.size, 4, none⟩ (.int .u64 0)).setCell ⟨w.heap.size, 5, none⟩ (.slice (some ⟨w7.heap.size, 0, none⟩) 1 1)).setCell ⟨w.heap.size, 6, none⟩ (.int .i64 1)).setCell ⟨w.heap.size, 7, none⟩ (.int .i64 (-1)))) = ws at *
      have hbk := (Below.refl ws.heap.size ws).alloc (Nat.le_refl _) (.cells #[.int .i64 n.kind, .int .u64 n.set.a, .int .u64 n.set.b, .int .u64 n.set.c, .int .u64 n.set.d, .slice a' n.kids.length c', .int .i64 n.lo, .int .i64 n.hi] 27)
      have kb := Blk.new ws 27 #[.int .i64 n.kind, .int .u64 n.set.a, .int .u64 n.set.b, .int .u64 n.set.c, .int .u64 n.set.d, .slice a' n.kids.length c', .int .i64 n.lo, .int .i64 n.hi]
      rw [hsz] at kb
      obtain ⟨⟨r0, r1, r2, r3, r4, r5, r6, r7⟩, -⟩ := (hq8.below hbk hq8.lt).c8
      refine bodyPost_ret (v := nodeV 4 none4 (.slice (some ⟨w7.heap.size, 0, none⟩) 1 1) 1 (-1)) (by simp [results, Tryd.results63, go_sem, nodeV, none4, r0, r1, r2, r3, r4, r5, r6, r7]) rfl ?_
      rw [← HR.out, HE.out]
      refine Told.some_ (x := repN n 1 (-1)) ⟨some ⟨w7.heap.size, 0, none⟩, 1, rfl, ?_⟩ (by omega) hjs (hrd.go hbk)
      unfold repN
      rw [NdP]
      refine ⟨by unfold maxLen; simp, .inr ⟨w7.heap.size, 0, rfl, Nat.le_of_lt hw8, by simp only [World.size_alloc]; omega, ?_⟩⟩
      rw [RowP]
      refine ⟨⟨a', c', fun j v hj => ?_, NdP.keep hbk.size (fun b hb hp => ⟨hp, hbk.block b hb⟩) n (NdP.keep (Q := fun b => w.heap.size ≤ b) hoo.size (fun b hb hp => ⟨Nat.le_of_lt hp, hoo.block b hb (by simp; omega)⟩) n hnd)⟩, trivial⟩
      have h2 := kb.cell (0 + j)
      rw [h2, Nat.zero_add, ← hj]
      simp only [cellsN, List.getElem?_toArray]
    by_cases hq3 : b = 63
    · have hq1 := hq3
      have hv := hq1
      have q42 : ((b : Int) == 42) = ((63 : Int) == 42) := by rw [hv]; rfl
      have q43 : ((b : Int) == 43) = ((63 : Int) == 43) := by rw [hv]; rfl
      have q63 : ((b : Int) == 63) = ((63 : Int) == 63) := by rw [hv]; rfl
      have q123 : ((b : Int) == 123) = ((63 : Int) == 123) := by rw [hv]; rfl
      have HE := Lib.hid (show pieceP (f + 1) o (restL s i) = some (repN n 0 1, restL s (j + 1)) by rw [HP.out, hr, hv]; first | rfl | (rw [hb.2.1]; rfl))
      clear hv hq1
      go_wp2_with fail
      refine (peek_cons HRR.out G.out.na.rd.1 hs).mono ?_
      rintro e w6 ⟨rfl, bx⟩
      have G2 := Lib.hid (G.out.go bx)
      clear bx G
      obtain ⟨⟨c0, c1, c2⟩, z0, z1, z2⟩ := G2.out.na.rd.1.c3
      go_upto_region 16 with (fail)
      have G3 := Lib.hid G2.out.step
      clear c0 c1 c2 z0 z1 z2 G2
      generalize w6.setCell ⟨rb, 1, none⟩ (.int .i64 ((j : Int) + 1)) = w7 at *
      obtain ⟨⟨x0, x1, x2, x3, x4, x5, x6, x7⟩, -⟩ := G3.out.nb.c8
      obtain ⟨⟨y0, y1, y2, y3, y4, y5, y6, y7⟩, z0, z1, z2, z3, z4, z5, z6, z7⟩ := G3.out.na.res.c8
      have hw8 : w.heap.size < w7.heap.size := G3.out.na.res.lt
      have hne : ¬ w.heap.size = w7.heap.size := by omega
      have hne2 : ¬ w7.heap.size = w.heap.size := by omega
      go_wp2_with fail
      have hoo := only_set8 w7 w.heap.size (.int .i64 4) (.int .u64 0) (.int .u64 0) (.int .u64 0) (.int .u64 0) (.slice (some ⟨w7.heap.size, 0, none⟩) 1 1) (.int .i64 0) (.int .i64 1)
      have hrd := G3.out.na.end_ (.int .i64 4) (.int .u64 0) (.int .u64 0) (.int .u64 0) (.int .u64 0) (.slice (some ⟨w7.heap.size, 0, none⟩) 1 1) (.int .i64 0) (.int .i64 1)
      have hsz : (((((((((w7.setCell ⟨w.heap.size, 0, none⟩ (.int .i64 4)).setCell ⟨w.heap.size, 1, none⟩ (.int .u64 0)).setCell ⟨w.heap.size, 2, none⟩ (.int .u64 0)).setCell ⟨w.heap.size, 3, none⟩ (.int .u64 0)).setCell ⟨w.heap.size, 4, none⟩ (.int .u64 0)).setCell ⟨w.heap.size, 5, none⟩ (.slice (some ⟨w7.heap.size, 0, none⟩) 1 1)).setCell ⟨w.heap.size, 6, none⟩ (.int .i64 0)).setCell ⟨w.heap.size, 7, none⟩ (.int .i64 1))).heap.size = w7.heap.size := by simp
      have hnd := G3.out.nd
      have hq8 := blk_set8 G3.out.na.res (.int .i64 4) (.int .u64 0) (.int .u64 0) (.int .u64 0) (.int .u64 0) (.slice (some ⟨w7.heap.size, 0, none⟩) 1 1) (.int .i64 0) (.int .i64 1)
      generalize (((((((((w7.setCell ⟨w.heap.size, 0, none⟩ (.int .i64 4)).setCell ⟨w.heap.size, 1, none⟩ (.int .u64 0)).setCell ⟨w.heap.size, 2, none⟩ (.int .u64 0)).setCell ⟨w.heap.size, 3, none⟩ (.int .u64 0)).setCell ⟨w.heap.size, 4, none⟩ (.int .u64 0)).setCell ⟨w.heap.size, 5, none⟩ (.slice (some ⟨w7.heap.size, 0, none⟩) 1 1)).setCell ⟨w.heap.size, 6, none⟩ (.int .i64 0)).setCell ⟨w.heap.size, 7, none⟩ (.int .i64 1))) = ws at *
      have hbk := (Below.refl ws.heap.size ws).alloc (Nat.le_refl _) (.cells #[.int .i64 n.kind, .int .u64 n.set.a, .int .u64 n.set.b, .int .u64 n.set.c, .int .u64 n.set.d, .slice a' n.kids.length c', .int .i64 n.lo, .int .i64 n.hi] 27)
      have kb := Blk.new ws 27 #[.int .i64 n.kind, .int .u64 n.set.a, .int .u64 n.set.b, .int .u64 n.set.c, .int .u64 n.set.d, .slice a' n.kids.length c', .int .i64 n.lo, .int .i64 n.hi]
      rw [hsz] at kb
      obtain ⟨⟨r0, r1, r2, r3, r4, r5, r6, r7⟩, -⟩ := (hq8.below hbk hq8.lt).c8
      refine bodyPost_ret (v := nodeV 4 none4 (.slice (some ⟨w7.heap.size, 0, none⟩) 1 1) 0 1) (by simp [results, Tryd.results63, go_sem, nodeV, none4, r0, r1, r2, r3, r4, r5, r6, r7]) rfl ?_
      rw [← HR.out, HE.out]
      refine Told.some_ (x := repN n 0 1) ⟨some ⟨w7.heap.size, 0, none⟩, 1, rfl, ?_⟩ (by omega) hjs (hrd.go hbk)
      unfold repN
      rw [NdP]
      refine ⟨by unfold maxLen; simp, .inr ⟨w7.heap.size, 0, rfl, Nat.le_of_lt hw8, by simp only [World.size_alloc]; omega, ?_⟩⟩
      rw [RowP]
      refine ⟨⟨a', c', fun j v hj => ?_, NdP.keep hbk.size (fun b hb hp => ⟨hp, hbk.block b hb⟩) n (NdP.keep (Q := fun b => w.heap.size ≤ b) hoo.size (fun b hb hp => ⟨Nat.le_of_lt hp, hoo.block b hb (by simp; omega)⟩) n hnd)⟩, trivial⟩
      have h2 := kb.cell (0 + j)
      rw [h2, Nat.zero_add, ← hj]
      simp only [cellsN, List.getElem?_toArray]
    by_cases hq4 : b = 123
    · have hpar : pieceP (f + 1) o (restL s i) = match bracesP (restL s (j + 1)) with
        | none => none
        | some (x, y, l1) => if l1.head? = some 125 then some (repN n x y, l1.tail) else none := by
        rw [HP.out, hr, quantP, if_neg hq1, if_neg hq2, if_neg hq3, if_pos hq4, hb.2.1]
        cases bracesP l <;> rfl
      have HPAR := Lib.hid hpar
      have hv := hq4
      have q42 : ((b : Int) == 42) = ((123 : Int) == 42) := by rw [hv]; rfl
      have q43 : ((b : Int) == 43) = ((123 : Int) == 43) := by rw [hv]; rfl
      have q63 : ((b : Int) == 63) = ((123 : Int) == 63) := by rw [hv]; rfl
      have q123 : ((b : Int) == 123) = ((123 : Int) == 123) := by rw [hv]; rfl
      clear hv hq1 hq2 hq3 hq4 hpar hr
      go_wp2_with fail
      refine (peek_cons HRR.out G.out.na.rd.1 hs).mono ?_
      rintro e w6 ⟨rfl, bx⟩
      have G2 := Lib.hid (G.out.go bx)
      clear bx G
      obtain ⟨⟨c0, c1, c2⟩, z0, z1, z2⟩ := G2.out.na.rd.1.c3
      go_upto_region 12 with (fail)
      have G3 := Lib.hid G2.out.step
      clear c0 c1 c2 z0 z1 z2 G2
      generalize w6.setCell ⟨rb, 1, none⟩ (.int .i64 ((j : Int) + 1)) = w7 at *
      go_wp2_with fail
      refine (braces_any rb s (j + 1) o _ G3.out.na.rd.1 hs hjs).mono ?_
      intro e w8 ht
      rcases ht.elim with ⟨hn, ⟨E, x, rfl, hE⟩, ho⟩ | ⟨⟨x, y⟩, j2, v, hn, rfl, rfl, hij2, hj2, hg⟩
      · have HE := Lib.hid (show pieceP (f + 1) o (restL s i) = none by
          rw [HPAR.out]
          unfold bracesT at hn
          cases hbp : bracesP (restL s (j + 1)) with
          | none => rfl
          | some r => rw [hbp] at hn; cases hn)
        exact ⟨rfl, by rw [← HR.out, HE.out]; exact ⟨⟨E, x, rfl, hE⟩, G3.out.na.rd.2.trans ho⟩⟩
      have hpar := HPAR.out
      have hbp : bracesP (restL s (j + 1)) = some (x, y, restL s j2) := by
        unfold bracesT at hn
        cases hbp : bracesP (restL s (j + 1)) with
        | none => rw [hbp] at hn; cases hn
        | some r =>
          rw [hbp] at hn
          simp at hn
          rw [← hn.1.1, ← hn.1.2, ← hn.2]
      rw [hbp] at hpar
      simp only at hpar
      have HPAR2 := Lib.hid hpar
      have G4 := Lib.hid (G3.out.on hg)
      clear hpar hbp hn hg ht HPAR G3
      go_wp2_with fail
      refine (need125 rb s j2 o _ G4.out.na.rd.1 hs).mono ?_
      rintro e w9 (⟨hd, rfl, hg⟩ | ⟨hd, ⟨E, x9, rfl, hE⟩, ho⟩)
      · have hjl2 : j2 < s.size := by
          cases hr : restL s j2 with
          | nil => rw [hr] at hd; cases hd
          | cons b l => exact (restL_cons hr).1
        have HE := Lib.hid (show pieceP (f + 1) o (restL s i) = some (repN n x y, restL s (j2 + 1)) by rw [HPAR2.out, if_pos hd, restL_at hjl2]; rfl)
        have G5 := Lib.hid (G4.out.on hg)
        have hjs2 : j2 + 1 ≤ s.size := hjl2
        clear hd hg G4
        obtain ⟨⟨x0, x1, x2, x3, x4, x5, x6, x7⟩, -⟩ := G5.out.nb.c8
        obtain ⟨⟨y0, y1, y2, y3, y4, y5, y6, y7⟩, z0, z1, z2, z3, z4, z5, z6, z7⟩ := G5.out.na.res.c8
        have hw8 : w.heap.size < w9.heap.size := G5.out.na.res.lt
        have hne : ¬ w.heap.size = w9.heap.size := by omega
        have hne2 : ¬ w9.heap.size = w.heap.size := by omega
        go_wp2_with fail
        have hoo := only_set8 w9 w.heap.size (.int .i64 4) (.int .u64 0) (.int .u64 0) (.int .u64 0) (.int .u64 0) (.slice (some ⟨w9.heap.size, 0, none⟩) 1 1) (.int .i64 x) (.int .i64 y)
        have hrd := G5.out.na.end_ (.int .i64 4) (.int .u64 0) (.int .u64 0) (.int .u64 0) (.int .u64 0) (.slice (some ⟨w9.heap.size, 0, none⟩) 1 1) (.int .i64 x) (.int .i64 y)
        have hsz : (((((((((w9.setCell ⟨w.heap.size, 0, none⟩ (.int .i64 4)).setCell ⟨w.heap.size, 1, none⟩ (.int .u64 0)).setCell ⟨w.heap.size, 2, none⟩ (.int .u64 0)).setCell ⟨w.heap.size, 3, none⟩ (.int .u64 0)).setCell ⟨w.heap.size, 4, none⟩ (.int .u64 0)).setCell ⟨w.heap.size, 5, none⟩ (.slice (some ⟨w9.heap.size, 0, none⟩) 1 1)).setCell ⟨w.heap.size, 6, none⟩ (.int .i64 x)).setCell ⟨w.heap.size, 7, none⟩ (.int .i64 y))).heap.size = w9.heap.size := by simp
        have hnd := G5.out.nd
        have hq8 := blk_set8 G5.out.na.res (.int .i64 4) (.int .u64 0) (.int .u64 0) (.int .u64 0) (.int .u64 0) (.slice (some ⟨w9.heap.size, 0, none⟩) 1 1) (.int .i64 x) (.int .i64 y)
        generalize (((((((((w9.setCell ⟨w.heap.size, 0, none⟩ (.int .i64 4)).setCell ⟨w.heap.size, 1, none⟩ (.int .u64 0)).setCell ⟨w.heap.size, 2, none⟩ (.int .u64 0)).setCell ⟨w.heap.size, 3, none⟩ (.int .u64 0)).setCell ⟨w.heap.size, 4, none⟩ (.int .u64 0)).setCell ⟨w.heap.size, 5, none⟩ (.slice (some ⟨w9.heap.size, 0, none⟩) 1 1)).setCell ⟨w.heap.size, 6, none⟩ (.int .i64 x)).setCell ⟨w.heap.size, 7, none⟩ (.int .i64 y))) = ws at *
        have hbk := (Below.refl ws.heap.size ws).alloc (Nat.le_refl _) (.cells #[.int .i64 n.kind, .int .u64 n.set.a, .int .u64 n.set.b, .int .u64 n.set.c, .int .u64 n.set.d, .slice a' n.kids.length c', .int .i64 n.lo, .int .i64 n.hi] 27)
        have kb := Blk.new ws 27 #[.int .i64 n.kind, .int .u64 n.set.a, .int .u64 n.set.b, .int .u64 n.set.c, .int .u64 n.set.d, .slice a' n.kids.length c', .int .i64 n.lo, .int .i64 n.hi]
        rw [hsz] at kb
        obtain ⟨⟨r0, r1, r2, r3, r4, r5, r6, r7⟩, -⟩ := (hq8.below hbk hq8.lt).c8
        refine bodyPost_ret (v := nodeV 4 none4 (.slice (some ⟨w9.heap.size, 0, none⟩) 1 1) x y) (by simp [results, Tryd.results63, go_sem, nodeV, none4, r0, r1, r2, r3, r4, r5, r6, r7]) rfl ?_
        rw [← HR.out, HE.out]
        refine Told.some_ (x := repN n x y) ⟨some ⟨w9.heap.size, 0, none⟩, 1, rfl, ?_⟩ (by omega) hjs2 (hrd.go hbk)
        unfold repN
        rw [NdP]
        refine ⟨by unfold maxLen; simp, .inr ⟨w9.heap.size, 0, rfl, Nat.le_of_lt hw8, by simp only [World.size_alloc]; omega, ?_⟩⟩
        rw [RowP]
        refine ⟨⟨a', c', fun j v hj => ?_, NdP.keep hbk.size (fun b hb hp => ⟨hp, hbk.block b hb⟩) n (NdP.keep (Q := fun b => w.heap.size ≤ b) hoo.size (fun b hb hp => ⟨Nat.le_of_lt hp, hoo.block b hb (by simp; omega)⟩) n hnd)⟩, trivial⟩
        have h2 := kb.cell (0 + j)
        rw [h2, Nat.zero_add, ← hj]
        simp only [cellsN, List.getElem?_toArray]
      · have HE := Lib.hid (show pieceP (f + 1) o (restL s i) = none by rw [HPAR2.out, if_neg hd])
        exact ⟨rfl, by rw [← HR.out, HE.out]; exact ⟨⟨E, x9, rfl, hE⟩, G4.out.na.rd.2.trans ho⟩⟩
    have q42 : ((b : Int) == 42) = false := by rw [beq_eq_false_iff_ne]; omega
    have q43 : ((b : Int) == 43) = false := by rw [beq_eq_false_iff_ne]; omega
    have q63 : ((b : Int) == 63) = false := by rw [beq_eq_false_iff_ne]; omega
    have q123 : ((b : Int) == 123) = false := by rw [beq_eq_false_iff_ne]; omega
    have HE := Lib.hid (show pieceP (f + 1) o (restL s i) = some (n, restL s j) by rw [HP.out, hr, quantP, if_neg hq1, if_neg hq2, if_neg hq3, if_neg hq4])
    clear hq1 hq2 hq3 hq4 hr
    go_wp2_with fail
    refine (peek_cons HRR.out G.out.na.rd.1 hs).mono ?_
    rintro e w6 ⟨rfl, bx⟩
    have G2 := Lib.hid (G.out.go bx)
    clear bx G
    obtain ⟨⟨x0, x1, x2, x3, x4, x5, x6, x7⟩, -⟩ := G2.out.nb.c8
    obtain ⟨⟨y0, y1, y2, y3, y4, y5, y6, y7⟩, z0, z1, z2, z3, z4, z5, z6, z7⟩ := G2.out.na.res.c8
    go_wp2_with fail
    refine bodyPost_ret (v := nodeV n.kind n.set (.slice a' n.kids.length c') n.lo n.hi) (by simp [results, Tryd.results63, go_sem, nodeV, y0, y1, y2, y3, y4, y5, y6, y7]) rfl ?_
    rw [← HR.out, HE.out]
    have hoo := only_set8 w6 w.heap.size (.int .i64 n.kind) (.int .u64 n.set.a) (.int .u64 n.set.b) (.int .u64 n.set.c) (.int .u64 n.set.d) (.slice a' n.kids.length c') (.int .i64 n.lo) (.int .i64 n.hi)
    exact Told.some_ ⟨a', c', rfl, NdP.keep hoo.size (fun b hb hp => ⟨Nat.le_of_lt hp, hoo.block b hb (by simp; omega)⟩) n G2.out.nd⟩ hij hj (G2.out.na.end_ _ _ _ _ _ _ _ _)
end Go.Proofs.YtpknglbpbodnbaaDoor
