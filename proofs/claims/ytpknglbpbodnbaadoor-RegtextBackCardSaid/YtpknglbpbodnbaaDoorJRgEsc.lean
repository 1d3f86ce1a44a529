/-
  The walk of escape. Conditions: the reader stands within its text, which has 256 bytes at most.
-/
import Derived.Test.YtpknglbpbodnbaaDoorJRgNum
namespace Go.Proofs.YtpknglbpbodnbaaDoor
set_option linter.unusedVariables false
set_option linter.unusedSimpArgs false
open Go.RowKit Go.Sort Cs Rg Go.ChangeShapes Go.WideShapes

theorem setV_s4 (f : Nat → Int) : setV (s4 f).f = setV f := rfl
set_option maxRecDepth 100000 in
theorem cvi_u8 (m : Nat) (h : m < 256) (w : World) : (convert 3 5 (.int .i64 (m : Int))).run Tryd.prog w = .ok (.int .u8 (m : Int)) w := by
  have hwb : IntKind.u8.wrap (m : Int) = (m : Int) := by rw [IntKind.wrap_u8]; omega
  have e := run_convert_int (P := Tryd.prog) (w := w) 3 5 .i64 (m : Int) (by rw [Tryd.underlying3]; rfl) Tryd.underlying5
  rw [show Tryd.prog.intKind 5 = .u8 from by kernel_rfl, hwb] at e
  exact e
theorem hexV_lt {b x : Nat} (h : hexV b = some x) : x < 16 := by
  unfold hexV at h
  split at h
  · injection h with h; omega
  · split at h
    · injection h with h; omega
    · cases h
/-- the reader, and two sets of the call's own -/
structure Sv (w w' : World) (rb : Nat) (s : ByteArray) (i o B : Nat) (f g : Nat → Int) : Prop where
  rd : RdGo w rb s i o w'
  a : Four w' w.heap.size f
  b : Four w' B g
  la : w.heap.size < B
  lb : B < w'.heap.size
  lr : rb < w.heap.size
section
variable {w w' w2 : World} {rb B : Nat} {s : ByteArray} {i o : Nat} {f g : Nat → Int}
theorem Sv.go (h : Sv w w' rb s i o B f g) (hb : Below w'.heap.size w' w2) : Sv w w2 rb s i o B f g :=
  ⟨h.rd.go hb, h.a.below hb (by have := h.la; have := h.lb; omega), h.b.below hb h.lb, h.la, Nat.lt_of_lt_of_le h.lb hb.size, h.lr⟩
theorem Sv.on (h : Sv w w' rb s i o B f g) {j o2 : Nat} (h2 : RdGo w' rb s j o2 w2) : Sv w w2 rb s j o2 B f g :=
  ⟨h.rd.on h2, ⟨fun k hk => (World.cell?_of_block (a := ⟨w.heap.size, k, none⟩) (h2.2.block w.heap.size (by have := h.la; have := h.lb; omega) (by have := h.lr; simp; omega))).trans (h.a.cell k hk), fun k => by
      have e := h2.2.block w.heap.size (by have := h.la; have := h.lb; omega) (by have := h.lr; simp; omega)
      have := h.a.free k
      unfold World.frozen? at this ⊢
      rw [e]; exact this⟩,
    ⟨fun k hk => (World.cell?_of_block (a := ⟨B, k, none⟩) (h2.2.block B h.lb (by have := h.lr; have := h.la; simp; omega))).trans (h.b.cell k hk), fun k => by
      have e := h2.2.block B h.lb (by have := h.lr; have := h.la; simp; omega)
      have := h.b.free k
      unfold World.frozen? at this ⊢
      rw [e]; exact this⟩, h.la, Nat.lt_of_lt_of_le h.lb h2.2.size, h.lr⟩
theorem Sv.step (h : Sv w w' rb s i o B f g) : Sv w (w'.setCell ⟨rb, 1, none⟩ (.int .i64 ((i : Int) + 1))) rb s (i + 1) o B f g :=
  ⟨h.rd.step, h.a.far (g' := rb) (i := 1) _ (by have := h.lr; omega), h.b.far (g' := rb) (i := 1) _ (by have := h.lr; have := h.la; omega), h.la, by simp; exact h.lb, h.lr⟩
theorem Only.set4_ {S : List Nat} {w w' : World} (h : Only S w w') {g : Nat} (hg : w.heap.size ≤ g) (v0 v1 v2 v3 : Value) : Only S w ((((w'.setCell ⟨g, 0, none⟩ v0).setCell ⟨g, 1, none⟩ v1).setCell ⟨g, 2, none⟩ v2).setCell ⟨g, 3, none⟩ v3) :=
  h.put (B := w.heap.size) (below_set4 (g := g) (Below.refl _ _) v0 v1 v2 v3 hg) (Nat.le_refl _)
theorem Rd.far4 (h : Rd w rb s i o) {g : Nat} (hg : rb ≠ g) (v0 v1 v2 v3 : Value) : Rd ((((w.setCell ⟨g, 0, none⟩ v0).setCell ⟨g, 1, none⟩ v1).setCell ⟨g, 2, none⟩ v2).setCell ⟨g, 3, none⟩ v3) rb s i o :=
  (((Blk.far h (p := ⟨g, 0, none⟩) hg v0).far (p := ⟨g, 1, none⟩) hg v1).far (p := ⟨g, 2, none⟩) hg v2).far (p := ⟨g, 3, none⟩) hg v3
theorem Sv.setB (h : Sv w w' rb s i o B f g) (g' : Nat → Int) : Sv w ((((w'.setCell ⟨B, 0, none⟩ (.int .u64 (g' 0))).setCell ⟨B, 1, none⟩ (.int .u64 (g' 1))).setCell ⟨B, 2, none⟩ (.int .u64 (g' 2))).setCell ⟨B, 3, none⟩ (.int .u64 (g' 3))) rb s i o B f g' :=
  ⟨⟨h.rd.1.far4 (by have := h.lr; have := h.la; omega) _ _ _ _, h.rd.2.set4_ (by have := h.la; omega) _ _ _ _⟩, h.a.far4 _ _ _ _ (by have := h.la; omega), h.b.set4 g', h.la, by simp; exact h.lb, h.lr⟩
theorem Sv.setA (h : Sv w w' rb s i o B f g) (g' : Nat → Int) : Sv w ((((w'.setCell ⟨w.heap.size, 0, none⟩ (.int .u64 (g' 0))).setCell ⟨w.heap.size, 1, none⟩ (.int .u64 (g' 1))).setCell ⟨w.heap.size, 2, none⟩ (.int .u64 (g' 2))).setCell ⟨w.heap.size, 3, none⟩ (.int .u64 (g' 3))) rb s i o B g' g :=
  ⟨⟨h.rd.1.far4 (by have := h.lr; omega) _ _ _ _, h.rd.2.set4_ (by omega) _ _ _ _⟩, h.a.set4 g', h.b.far4 _ _ _ _ (by have := h.la; omega), h.la, by simp; exact h.lb, h.lr⟩
end
/-- how far the digits are read -/
def HexP (s : ByteArray) (j ci nn : Nat) : Prop := (ci = 0 → nn = 0) ∧ (ci = 1 → ∃ h l1, restL s (j + 1) = h :: l1 ∧ hexV h = some nn) ∧
  (ci = 2 → ∃ h g l2 x y, restL s (j + 1) = h :: g :: l2 ∧ hexV h = some x ∧ hexV g = some y ∧ nn = 16 * x + y)
abbrev valEsc (x : Esc) (v : Value) (_ : World) : Prop := v = .tuple #[setV x.set.f, .bool x.several]
set_option maxHeartbeats 8000000 in
set_option maxRecDepth 1000000 in
theorem escape_any (rb : Nat) (s : ByteArray) (i o : Nat) (w : World) (h : Rd w rb s i o) (hs : s.size ≤ 256) (hi : i < s.size) :
    Calls Tryd.prog 74 #[vPtr rb] w (Told w rb s i o (escP (restL s (i + 1))) valEsc) := by
  have G := Lib.hid (RdGo.refl h)
  have HR0 := Lib.hid h
  clear h
  have hi6 : i < 256 := by omega
  obtain ⟨R, hR⟩ : ∃ R, escP (restL s (i + 1)) = R := ⟨_, rfl⟩
  have HR := Lib.hid hR
  rw [hR]
  clear hR
  have hb0 := (Below.refl w.heap.size w).alloc (Nat.le_refl _) (.cells #[.int .u64 0, .int .u64 0, .int .u64 0, .int .u64 0] 24)
  have h1 := HR0.out.below hb0 HR0.out.lt
  obtain ⟨⟨c0, c1, c2⟩, z0, z1, z2⟩ := h1.c3
  clear h1 hb0
  go_enter Tryd.func74, Tryd.ntmps74
  go_upto_region 3 with (fail)
  have fa := (Four.zero w 24).far (g' := rb) (i := 1) (.int .i64 ((i : Int) + 1)) (by have := HR0.out.lt; omega)
  have r1 : RdGo w rb s (i + 1) o ((w.alloc (.cells #[.int .u64 0, .int .u64 0, .int .u64 0, .int .u64 0] 24)).setCell ⟨rb, 1, none⟩ (.int .i64 ((i : Int) + 1))) := (G.out.go ((Below.refl _ w).alloc (Nat.le_refl _) _)).step
  have s1 : ((w.alloc (.cells #[.int .u64 0, .int .u64 0, .int .u64 0, .int .u64 0] 24)).setCell ⟨rb, 1, none⟩ (.int .i64 ((i : Int) + 1))).heap.size = w.heap.size + 1 := by simp
  obtain ⟨j, hj⟩ : ∃ j, i + 1 = j := ⟨_, rfl⟩
  have HJ := Lib.hid hj
  rw [hj] at r1 HR
  have hj6 : j ≤ 256 := by omega
  have F := Lib.hid (And.intro fa (And.intro r1 s1))
  clear hj
  clear c0 c1 c2 z0 z1 z2 fa r1 s1 G
  generalize (w.alloc (.cells #[.int .u64 0, .int .u64 0, .int .u64 0, .int .u64 0] 24)).setCell ⟨rb, 1, none⟩ (.int .i64 ((i : Int) + 1)) = w1 at *
  go_wp2_with fail
  refine (peek_any rb s j o _ F.out.2.1.1 hs).mono ?_
  rintro e w2 ⟨rfl, bx⟩
  have f2 := F.out.1.below bx (by have := F.out.2.2; omega)
  have r2 := F.out.2.1.go bx
  have s2 : w.heap.size < w2.heap.size := by have := bx.size; have := F.out.2.2; omega
  have hb2 := (Below.refl w2.heap.size w2).alloc (Nat.le_refl _) (.cells #[.int .u64 0, .int .u64 0, .int .u64 0, .int .u64 0] 24)
  have S0 := Lib.hid (Sv.mk (r2.go hb2) (f2.below hb2 s2) (Four.zero w2 24) s2 (by simp) HR0.out.lt)
  clear bx f2 r2 s2 hb2 F HR0
  cases hr : restL s j with
  | nil =>
    have HNONE := Lib.hid (show escP (restL s j) = none by rw [hr]; rfl)
    clear hr
    simp only [pkI]
    go_upto_region 6 with (fail)
    generalize w2.alloc (.cells #[.int .u64 0, .int .u64 0, .int .u64 0, .int .u64 0] 24) = w3 at *
    go_wp2_with fail
    refine (wrong_any rb s j o _ S0.out.rd.1 hs).mono ?_
    rintro e w9 ⟨⟨E, x, rfl, hE⟩, bx⟩
    exact ⟨rfl, by rw [← HR.out, HNONE.out]; exact ⟨⟨E, x, rfl, hE⟩, S0.out.rd.2.put bx S0.out.rd.2.size⟩⟩
  | cons b l =>
    have hb := restL_cons hr
    have hb9 := hb.2.2
    have HBL := Lib.hid hb.2.1
    have hil := hb.1
    have hesc : escP (restL s j) = if b = 100 then some (.many digit4, l) else if b = 119 then some (.many word4, l) else if b = 120 then hexP l else if b ∈ signsE then some (.one b, l) else none := by rw [hr, escP]
    have HESC := Lib.hid hesc
    clear hr hb hesc
    simp only [pkI]
    go_upto_region 6 with (fail)
    obtain ⟨B, hB⟩ : ∃ B, w2.heap.size = B := ⟨_, rfl⟩
    generalize w2.alloc (.cells #[.int .u64 0, .int .u64 0, .int .u64 0, .int .u64 0] 24) = w3 at *
    rw [hB] at S0 ⊢
    clear hB
    have kn : ((b : Int) == -1) = false := by rw [beq_eq_false_iff_ne]; omega
    by_cases h100 : b = 100
    · have he : escP (restL s j) = some (.many digit4, l) := by rw [HESC.out, if_pos h100]
      have HE := Lib.hid he
      have k100 : ((b : Int) == 100) = true := by rw [h100]; rfl
      clear he h100
      have hd := digits_any
      obtain ⟨gf, hgf⟩ : ∃ f, ofS 48 57 = f := ⟨_, rfl⟩
      rw [hgf] at hd
      have HD := Lib.hid hd
      have HGF := Lib.hid hgf
      clear hd hgf
      unfold setV at HD
      go_wp2_with fail
      refine (HD.out _).mono ?_
      rintro e v1 ⟨rfl, bx⟩
      have S1 := Lib.hid (S0.out.go bx)
      clear bx S0
      have r0 := S1.out.b.cell 0 (by omega)
      have r1 := S1.out.b.cell 1 (by omega)
      have r2 := S1.out.b.cell 2 (by omega)
      have r3 := S1.out.b.cell 3 (by omega)
      have z := S1.out.b.free
      go_upto_region 44 with (fail)
      have S2 := Lib.hid (S1.out.setB gf)
      clear S1 r0 r1 r2 r3 z
      generalize ((((v1.setCell ⟨B, 0, none⟩ (.int .u64 (gf 0))).setCell ⟨B, 1, none⟩ (.int .u64 (gf 1))).setCell ⟨B, 2, none⟩ (.int .u64 (gf 2))).setCell ⟨B, 3, none⟩ (.int .u64 (gf 3))) = v2 at *
      obtain ⟨⟨c0, c1, c2⟩, z0, z1, z2⟩ := S2.out.rd.1.c3
      go_upto_region 45 with (fail)
      have S3 := Lib.hid S2.out.step
      clear S2 c0 c1 c2 z0 z1 z2
      generalize v2.setCell ⟨rb, 1, none⟩ (.int .i64 ((j : Int) + 1)) = v3 at *
      have d0 := S3.out.b.cell 0 (by omega)
      have d1 := S3.out.b.cell 1 (by omega)
      have d2 := S3.out.b.cell 2 (by omega)
      have d3 := S3.out.b.cell 3 (by omega)
      have r0 := S3.out.a.cell 0 (by omega)
      have r1 := S3.out.a.cell 1 (by omega)
      have r2 := S3.out.a.cell 2 (by omega)
      have r3 := S3.out.a.cell 3 (by omega)
      have z := S3.out.a.free
      go_wp2_with fail
      have S4 := S3.out.setA gf
      refine bodyPost_ret (v := .tuple #[setV gf, .bool true]) (by simp [results, Tryd.results74, go_sem, setV, r0, r1, r2, r3]) rfl ?_
      rw [← HR.out, HE.out, ← HBL.out]
      exact Told.some_ (by rw [← HGF.out]; rfl) (by have := HJ.out; omega) (by have := HJ.out; omega) S4.rd
    have q100 : ((b : Int) == 100) = false := by rw [beq_eq_false_iff_ne]; omega
    by_cases h119 : b = 119
    · have he : escP (restL s j) = some (.many word4, l) := by rw [HESC.out, if_neg h100, if_pos h119]
      have HE := Lib.hid he
      have q119 : ((b : Int) == 119) = true := by rw [h119]; rfl
      clear he h119 h100
      have hd := words_any
      obtain ⟨gf, hgf⟩ : ∃ f, wordF = f := ⟨_, rfl⟩
      rw [hgf] at hd
      have HD := Lib.hid hd
      have HGF := Lib.hid hgf
      clear hd hgf
      unfold setV at HD
      go_wp2_with fail
      refine (HD.out _).mono ?_
      rintro e v1 ⟨rfl, bx⟩
      have S1 := Lib.hid (S0.out.go bx)
      clear bx S0
      have r0 := S1.out.b.cell 0 (by omega)
      have r1 := S1.out.b.cell 1 (by omega)
      have r2 := S1.out.b.cell 2 (by omega)
      have r3 := S1.out.b.cell 3 (by omega)
      have z := S1.out.b.free
      go_upto_region 44 with (fail)
      have S2 := Lib.hid (S1.out.setB gf)
      clear S1 r0 r1 r2 r3 z
      generalize ((((v1.setCell ⟨B, 0, none⟩ (.int .u64 (gf 0))).setCell ⟨B, 1, none⟩ (.int .u64 (gf 1))).setCell ⟨B, 2, none⟩ (.int .u64 (gf 2))).setCell ⟨B, 3, none⟩ (.int .u64 (gf 3))) = v2 at *
      obtain ⟨⟨c0, c1, c2⟩, z0, z1, z2⟩ := S2.out.rd.1.c3
      go_upto_region 45 with (fail)
      have S3 := Lib.hid S2.out.step
      clear S2 c0 c1 c2 z0 z1 z2
      generalize v2.setCell ⟨rb, 1, none⟩ (.int .i64 ((j : Int) + 1)) = v3 at *
      have d0 := S3.out.b.cell 0 (by omega)
      have d1 := S3.out.b.cell 1 (by omega)
      have d2 := S3.out.b.cell 2 (by omega)
      have d3 := S3.out.b.cell 3 (by omega)
      have r0 := S3.out.a.cell 0 (by omega)
      have r1 := S3.out.a.cell 1 (by omega)
      have r2 := S3.out.a.cell 2 (by omega)
      have r3 := S3.out.a.cell 3 (by omega)
      have z := S3.out.a.free
      go_wp2_with fail
      have S4 := S3.out.setA gf
      refine bodyPost_ret (v := .tuple #[setV gf, .bool true]) (by simp [results, Tryd.results74, go_sem, setV, r0, r1, r2, r3]) rfl ?_
      rw [← HR.out, HE.out, ← HBL.out]
      exact Told.some_ (by rw [← HGF.out]; rfl) (by have := HJ.out; omega) (by have := HJ.out; omega) S4.rd
    have q119 : ((b : Int) == 119) = false := by rw [beq_eq_false_iff_ne]; omega
    by_cases h120 : b = 120
    · have he : escP (restL s j) = hexP (restL s (j + 1)) := by rw [HESC.out, if_neg h100, if_neg h119, if_pos h120, HBL.out]
      have HE := Lib.hid he
      have q120 : ((b : Int) == 120) = true := by rw [h120]; rfl
      clear he h120 h119 h100
      go_wp2_with fail
      go_loopw [8, 52] (fun n c wr => ∃ (ci nn jj : Nat), ci ≤ 2 ∧ jj ≤ 300 ∧ nn ≤ 255 ∧ n = .int .i64 (nn : Int) ∧ c = .int .i64 (ci : Int) ∧ Hid (jj = j + ci ∧ HexP s j ci nn) ∧ Hid (Sv w wr rb s jj o B noneS noneS)) (fun _ c _ => 2 - (intOf c).toNat)
      case atStart => exact ⟨0, 0, j, by omega, by omega, by omega, rfl, rfl, Lib.hid ⟨rfl, fun _ => rfl, fun e => by omega, fun e => by omega⟩, S0⟩
      case round =>
        clear S0
        obtain ⟨ci, nn, jj, hci, hjj, hnn, rfl, rfl, P, S0⟩ := hrel
        by_cases hc2 : ci < 2
        · have k5 : decide ((ci : Int) < 2) = true := decide_eq_true (by omega)
          have k5' : decide (ci < 2) = true := decide_eq_true hc2
          obtain ⟨⟨c0, c1, c2⟩, z0, z1, z2⟩ := S0.out.rd.1.c3
          go_upto_region 34 with (fail)
          have S1 := S0.out.step
          obtain ⟨jn, hjn⟩ : ∃ jn, jj + 1 = jn := ⟨_, rfl⟩
          rw [hjn] at S1
          have P1 := Lib.hid (And.intro hjn P.out)
          have S1 := Lib.hid S1
          clear hjn P c0 c1 c2 z0 z1 z2 S0
          generalize wr.setCell ⟨rb, 1, none⟩ (.int .i64 ((jj : Int) + 1)) = u1 at *
          cases hr : restL s jn with
          | nil =>
            have HRR := Lib.hid hr
            have hnone : escP (restL s j) = none := by
              rw [HE.out]
              obtain ⟨h1, h2, h3, h4, -⟩ := P1.out
              have h5 : ci = 0 ∨ ci = 1 := by omega
              rcases h5 with h5 | h5
              · have : restL s (j + 1) = [] := by rw [← hr, ← h1, h2, h5]
                rw [this]; rfl
              · obtain ⟨hh, l1, e1, -⟩ := h4 h5
                have e2 := (restL_cons e1).2.1
                have : l1 = [] := by rw [← e2, ← hr, ← h1, h2, h5]
                rw [e1, this]; rfl
            have HNONE := Lib.hid hnone
            clear hr hnone
            go_wp2_with fail
            refine (peek_nil HRR.out S1.out.rd.1 hs).mono ?_
            rintro e u2 ⟨rfl, bx⟩
            have S2 := Lib.hid (S1.out.go bx)
            clear bx S1
            go_wp2_with fail
            refine (wrong_any rb s jn o _ S2.out.rd.1 hs).mono ?_
            rintro e w9 ⟨⟨E, x, rfl, hE⟩, bx⟩
            exact ⟨rfl, by rw [← HR.out, HNONE.out]; exact ⟨⟨E, x, rfl, hE⟩, S2.out.rd.2.put bx S2.out.rd.2.size⟩⟩
          | cons d ld =>
            have HRR := Lib.hid hr
            have hd9 := (restL_cons hr).2.2
            have kd : decide ((d : Int) < 0) = false := decide_eq_false (by omega)
            clear hr
            have hhx := fun w => hex_any d w hd9
            cases hv : hexV d with
            | none =>
              rw [hexI_none hv] at hhx
              have HHX := Lib.hid hhx
              have hnone : escP (restL s j) = none := by
                rw [HE.out]
                obtain ⟨h1, h2, h3, h4, -⟩ := P1.out
                have h5 : ci = 0 ∨ ci = 1 := by omega
                rcases h5 with h5 | h5
                · have : restL s (j + 1) = d :: ld := by rw [← HRR.out, ← h1, h2, h5]
                  rw [this]
                  cases ld with
                  | nil => rfl
                  | cons g l9 => rw [hexP, hv]
                · obtain ⟨hh, l1, e1, e3⟩ := h4 h5
                  have e2 := (restL_cons e1).2.1
                  have : l1 = d :: ld := by rw [← e2, ← HRR.out, ← h1, h2, h5]
                  rw [e1, this, hexP, hv]
                  cases hexV hh <;> rfl
              have HNONE := Lib.hid hnone
              clear hnone hv hhx
              go_wp2_with fail
              refine (peek_cons HRR.out S1.out.rd.1 hs).mono ?_
              rintro e u2 ⟨rfl, bx⟩
              have S2 := Lib.hid (S1.out.go bx)
              clear bx S1
              go_wp2_with fail
              refine (peek_cons HRR.out S2.out.rd.1 hs).mono ?_
              rintro e u3 ⟨rfl, bx⟩
              have S3 := Lib.hid (S2.out.go bx)
              clear bx S2
              go_wp2_with fail
              refine (HHX.out _).mono ?_
              rintro e u4 ⟨rfl, rfl⟩
              go_wp2_with fail
              refine (fail_any 2 _ _ (by omega)).mono ?_
              rintro e w9 ⟨⟨E, x, rfl, hE⟩, bx⟩
              exact ⟨rfl, by rw [← HR.out, HNONE.out]; exact ⟨⟨E, x, rfl, hE⟩, S3.out.rd.2.put bx S3.out.rd.2.size⟩⟩
            | some y =>
              rw [hexI_some hv] at hhx
              have HHX := Lib.hid hhx
              have hy := hexV_lt hv
              have HV := Lib.hid hv
              have ky : decide ((y : Int) < 0) = false := decide_eq_false (by omega)
              have hnext : HexP s j (ci + 1) (16 * nn + y) ∧ (16 * nn + y ≤ 255) := by
                obtain ⟨h1, h2, h3, h4, -⟩ := P1.out
                have h5 : ci = 0 ∨ ci = 1 := by omega
                rcases h5 with h5 | h5
                · have : restL s (j + 1) = d :: ld := by rw [← HRR.out, ← h1, h2, h5]
                  have hn0 := h3 h5
                  exact ⟨⟨fun e => by omega, fun _ => ⟨d, ld, this, by rw [hn0]; simpa using hv⟩, fun e => by omega⟩, by omega⟩
                · obtain ⟨hh, l1, e1, e3⟩ := h4 h5
                  have e2 := (restL_cons e1).2.1
                  have : l1 = d :: ld := by rw [← e2, ← HRR.out, ← h1, h2, h5]
                  have hx := hexV_lt e3
                  exact ⟨⟨fun e => by omega, fun e => by omega, fun _ => ⟨hh, d, ld, nn, y, by rw [e1, this], e3, hv, rfl⟩⟩, by omega⟩
              have NX := Lib.hid hnext
              clear hv hhx hnext
              go_wp2_with fail
              refine (peek_cons HRR.out S1.out.rd.1 hs).mono ?_
              rintro e u2 ⟨rfl, bx⟩
              have S2 := Lib.hid (S1.out.go bx)
              clear bx S1
              go_wp2_with fail
              refine (peek_cons HRR.out S2.out.rd.1 hs).mono ?_
              rintro e u3 ⟨rfl, bx⟩
              have S3 := Lib.hid (S2.out.go bx)
              clear bx S2
              go_wp2_with fail
              refine (HHX.out _).mono ?_
              rintro e u4 ⟨rfl, rfl⟩
              go_wp2_with fail
              go_roundw
              case rel => exact ⟨ci + 1, 16 * nn + y, jn, by omega, by have := P1.out.1; have := P1.out.2.1; omega, NX.out.2, by go_num, by go_num, Lib.hid ⟨by have := P1.out.1; have := P1.out.2.1; omega, NX.out.1⟩, S3⟩
              case measure => simp [intOf]; omega
        · have k5 : decide ((ci : Int) < 2) = false := decide_eq_false (by omega)
          have k5' : decide (ci < 2) = false := decide_eq_false hc2
          have he2 : escP (restL s j) = some (.one nn, restL s (jj + 1)) := by
            obtain ⟨h2, -, -, h4⟩ := P.out
            obtain ⟨hh, g, l2, x, y, e1, e2, e3, e4⟩ := h4 (by omega)
            have f1 := (restL_cons e1).2.1
            have f2 := (restL_cons f1).2.1
            rw [HE.out, e1, hexP, e2, e3, e4, h2, show ci = 2 by omega]
            simp only
            rw [← f2]
          have HE := Lib.hid he2
          have hcv := cvi_u8 nn (by omega)
          have hof := fun w => of_any nn nn w (by omega) (by omega)
          obtain ⟨gf, hgf⟩ : ∃ f, ofS nn nn = f := ⟨_, rfl⟩
          rw [hgf] at hof
          have HOF := Lib.hid hof
          have HGF := Lib.hid hgf
          have HJ2 := HJ
          have HJ : Hid (i ≤ jj + 1 ∧ jj + 1 ≤ s.size) := Lib.hid (by
            obtain ⟨h2, -, -, h4⟩ := P.out
            obtain ⟨hh, g, l2, x, y, e1, e2, e3, e4⟩ := h4 (by omega)
            have f0 := (restL_cons e1)
            have f1 := (restL_cons f0.2.1)
            have := HJ2.out
            have := f1.1
            omega)
          clear he2 hof hgf HJ2
          unfold setV at HOF
          go_wp2_with fail
          refine (HOF.out _).mono ?_
          rintro e v1 ⟨rfl, bx⟩
          have S1 := Lib.hid (S0.out.go bx)
          clear bx S0
          have r0 := S1.out.b.cell 0 (by omega)
          have r1 := S1.out.b.cell 1 (by omega)
          have r2 := S1.out.b.cell 2 (by omega)
          have r3 := S1.out.b.cell 3 (by omega)
          have z := S1.out.b.free
          go_upto_region 44 with (fail)
          have S2 := Lib.hid (S1.out.setB gf)
          clear S1 r0 r1 r2 r3 z
          generalize ((((v1.setCell ⟨B, 0, none⟩ (.int .u64 (gf 0))).setCell ⟨B, 1, none⟩ (.int .u64 (gf 1))).setCell ⟨B, 2, none⟩ (.int .u64 (gf 2))).setCell ⟨B, 3, none⟩ (.int .u64 (gf 3))) = v2 at *
          obtain ⟨⟨c0, c1, c2⟩, z0, z1, z2⟩ := S2.out.rd.1.c3
          go_upto_region 45 with (fail)
          have S3 := Lib.hid S2.out.step
          clear S2 c0 c1 c2 z0 z1 z2
          generalize v2.setCell ⟨rb, 1, none⟩ (.int .i64 ((jj : Int) + 1)) = v3 at *
          have d0 := S3.out.b.cell 0 (by omega)
          have d1 := S3.out.b.cell 1 (by omega)
          have d2 := S3.out.b.cell 2 (by omega)
          have d3 := S3.out.b.cell 3 (by omega)
          have r0 := S3.out.a.cell 0 (by omega)
          have r1 := S3.out.a.cell 1 (by omega)
          have r2 := S3.out.a.cell 2 (by omega)
          have r3 := S3.out.a.cell 3 (by omega)
          have z := S3.out.a.free
          go_wp2_with fail
          have S4 := S3.out.setA gf
          refine bodyPost_ret (v := .tuple #[setV gf, .bool false]) (by simp [results, Tryd.results74, go_sem, setV, r0, r1, r2, r3]) rfl ?_
          rw [← HR.out, HE.out]
          exact Told.some_ (by rw [← HGF.out]; rfl) (by have := HJ.out; omega) (by have := HJ.out; omega) S4.rd
    by_cases hsg : b ∈ signsE
    · clear h100 h119 h120 q100 q119 kn
      have kn : ((b : Int) == -1) = false := by rw [beq_eq_false_iff_ne]; omega
      have hv14 : b = 92 ∨ b = 46 ∨ b = 91 ∨ b = 93 ∨ b = 40 ∨ b = 41 ∨ b = 123 ∨ b = 125 ∨ b = 124 ∨ b = 42 ∨ b = 43 ∨ b = 63 ∨ b = 45 ∨ b = 94 := by simpa [signsE] using hsg
      clear hsg
      rcases hv14 with hv | hv | hv | hv | hv | hv | hv | hv | hv | hv | hv | hv | hv | hv
      · skip
        have he : escP (restL s j) = some (.one b, l) := by rw [HESC.out, hv]; rfl
        have HE := Lib.hid he
        have hcv := cvi_u8 b hb9
        have hof := fun w => of_any b b w hb9 hb9
        obtain ⟨gf, hgf⟩ : ∃ f, ofS b b = f := ⟨_, rfl⟩
        rw [hgf] at hof
        have HOF := Lib.hid hof
        have HGF := Lib.hid hgf
        have q100 : ((b : Int) == 100) = ((92 : Int) == 100) := by rw [hv]; rfl
        have q119 : ((b : Int) == 119) = ((92 : Int) == 119) := by rw [hv]; rfl
        have q120 : ((b : Int) == 120) = ((92 : Int) == 120) := by rw [hv]; rfl
        have q92 : ((b : Int) == 92) = ((92 : Int) == 92) := by rw [hv]; rfl
        have q46 : ((b : Int) == 46) = ((92 : Int) == 46) := by rw [hv]; rfl
        have q91 : ((b : Int) == 91) = ((92 : Int) == 91) := by rw [hv]; rfl
        have q93 : ((b : Int) == 93) = ((92 : Int) == 93) := by rw [hv]; rfl
        have q40 : ((b : Int) == 40) = ((92 : Int) == 40) := by rw [hv]; rfl
        have q41 : ((b : Int) == 41) = ((92 : Int) == 41) := by rw [hv]; rfl
        have q123 : ((b : Int) == 123) = ((92 : Int) == 123) := by rw [hv]; rfl
        have q125 : ((b : Int) == 125) = ((92 : Int) == 125) := by rw [hv]; rfl
        have q124 : ((b : Int) == 124) = ((92 : Int) == 124) := by rw [hv]; rfl
        have q42 : ((b : Int) == 42) = ((92 : Int) == 42) := by rw [hv]; rfl
        have q43 : ((b : Int) == 43) = ((92 : Int) == 43) := by rw [hv]; rfl
        have q63 : ((b : Int) == 63) = ((92 : Int) == 63) := by rw [hv]; rfl
        have q45 : ((b : Int) == 45) = ((92 : Int) == 45) := by rw [hv]; rfl
        have q94 : ((b : Int) == 94) = ((92 : Int) == 94) := by rw [hv]; rfl
        clear he hof hgf hv
        unfold setV at HOF
        go_wp2_with fail
        refine (HOF.out _).mono ?_
        rintro e v1 ⟨rfl, bx⟩
        have S1 := Lib.hid (S0.out.go bx)
        clear bx S0
        have r0 := S1.out.b.cell 0 (by omega)
        have r1 := S1.out.b.cell 1 (by omega)
        have r2 := S1.out.b.cell 2 (by omega)
        have r3 := S1.out.b.cell 3 (by omega)
        have z := S1.out.b.free
        go_upto_region 44 with (fail)
        have S2 := Lib.hid (S1.out.setB gf)
        clear S1 r0 r1 r2 r3 z
        generalize ((((v1.setCell ⟨B, 0, none⟩ (.int .u64 (gf 0))).setCell ⟨B, 1, none⟩ (.int .u64 (gf 1))).setCell ⟨B, 2, none⟩ (.int .u64 (gf 2))).setCell ⟨B, 3, none⟩ (.int .u64 (gf 3))) = v2 at *
        obtain ⟨⟨c0, c1, c2⟩, z0, z1, z2⟩ := S2.out.rd.1.c3
        go_upto_region 45 with (fail)
        have S3 := Lib.hid S2.out.step
        clear S2 c0 c1 c2 z0 z1 z2
        generalize v2.setCell ⟨rb, 1, none⟩ (.int .i64 ((j : Int) + 1)) = v3 at *
        have d0 := S3.out.b.cell 0 (by omega)
        have d1 := S3.out.b.cell 1 (by omega)
        have d2 := S3.out.b.cell 2 (by omega)
        have d3 := S3.out.b.cell 3 (by omega)
        have r0 := S3.out.a.cell 0 (by omega)
        have r1 := S3.out.a.cell 1 (by omega)
        have r2 := S3.out.a.cell 2 (by omega)
        have r3 := S3.out.a.cell 3 (by omega)
        have z := S3.out.a.free
        go_wp2_with fail
        have S4 := S3.out.setA gf
        refine bodyPost_ret (v := .tuple #[setV gf, .bool false]) (by simp [results, Tryd.results74, go_sem, setV, r0, r1, r2, r3]) rfl ?_
        rw [← HR.out, HE.out, ← HBL.out]
        exact Told.some_ (by rw [← HGF.out]; rfl) (by have := HJ.out; omega) (by have := HJ.out; omega) S4.rd
      · skip
        have he : escP (restL s j) = some (.one b, l) := by rw [HESC.out, hv]; rfl
        have HE := Lib.hid he
        have hcv := cvi_u8 b hb9
        have hof := fun w => of_any b b w hb9 hb9
        obtain ⟨gf, hgf⟩ : ∃ f, ofS b b = f := ⟨_, rfl⟩
        rw [hgf] at hof
        have HOF := Lib.hid hof
        have HGF := Lib.hid hgf
        have q100 : ((b : Int) == 100) = ((46 : Int) == 100) := by rw [hv]; rfl
        have q119 : ((b : Int) == 119) = ((46 : Int) == 119) := by rw [hv]; rfl
        have q120 : ((b : Int) == 120) = ((46 : Int) == 120) := by rw [hv]; rfl
        have q92 : ((b : Int) == 92) = ((46 : Int) == 92) := by rw [hv]; rfl
        have q46 : ((b : Int) == 46) = ((46 : Int) == 46) := by rw [hv]; rfl
        have q91 : ((b : Int) == 91) = ((46 : Int) == 91) := by rw [hv]; rfl
        have q93 : ((b : Int) == 93) = ((46 : Int) == 93) := by rw [hv]; rfl
        have q40 : ((b : Int) == 40) = ((46 : Int) == 40) := by rw [hv]; rfl
        have q41 : ((b : Int) == 41) = ((46 : Int) == 41) := by rw [hv]; rfl
        have q123 : ((b : Int) == 123) = ((46 : Int) == 123) := by rw [hv]; rfl
        have q125 : ((b : Int) == 125) = ((46 : Int) == 125) := by rw [hv]; rfl
        have q124 : ((b : Int) == 124) = ((46 : Int) == 124) := by rw [hv]; rfl
        have q42 : ((b : Int) == 42) = ((46 : Int) == 42) := by rw [hv]; rfl
        have q43 : ((b : Int) == 43) = ((46 : Int) == 43) := by rw [hv]; rfl
        have q63 : ((b : Int) == 63) = ((46 : Int) == 63) := by rw [hv]; rfl
        have q45 : ((b : Int) == 45) = ((46 : Int) == 45) := by rw [hv]; rfl
        have q94 : ((b : Int) == 94) = ((46 : Int) == 94) := by rw [hv]; rfl
        clear he hof hgf hv
        unfold setV at HOF
        go_wp2_with fail
        refine (HOF.out _).mono ?_
        rintro e v1 ⟨rfl, bx⟩
        have S1 := Lib.hid (S0.out.go bx)
        clear bx S0
        have r0 := S1.out.b.cell 0 (by omega)
        have r1 := S1.out.b.cell 1 (by omega)
        have r2 := S1.out.b.cell 2 (by omega)
        have r3 := S1.out.b.cell 3 (by omega)
        have z := S1.out.b.free
        go_upto_region 44 with (fail)
        have S2 := Lib.hid (S1.out.setB gf)
        clear S1 r0 r1 r2 r3 z
        generalize ((((v1.setCell ⟨B, 0, none⟩ (.int .u64 (gf 0))).setCell ⟨B, 1, none⟩ (.int .u64 (gf 1))).setCell ⟨B, 2, none⟩ (.int .u64 (gf 2))).setCell ⟨B, 3, none⟩ (.int .u64 (gf 3))) = v2 at *
        obtain ⟨⟨c0, c1, c2⟩, z0, z1, z2⟩ := S2.out.rd.1.c3
        go_upto_region 45 with (fail)
        have S3 := Lib.hid S2.out.step
        clear S2 c0 c1 c2 z0 z1 z2
        generalize v2.setCell ⟨rb, 1, none⟩ (.int .i64 ((j : Int) + 1)) = v3 at *
        have d0 := S3.out.b.cell 0 (by omega)
        have d1 := S3.out.b.cell 1 (by omega)
        have d2 := S3.out.b.cell 2 (by omega)
        have d3 := S3.out.b.cell 3 (by omega)
        have r0 := S3.out.a.cell 0 (by omega)
        have r1 := S3.out.a.cell 1 (by omega)
        have r2 := S3.out.a.cell 2 (by omega)
        have r3 := S3.out.a.cell 3 (by omega)
        have z := S3.out.a.free
        go_wp2_with fail
        have S4 := S3.out.setA gf
        refine bodyPost_ret (v := .tuple #[setV gf, .bool false]) (by simp [results, Tryd.results74, go_sem, setV, r0, r1, r2, r3]) rfl ?_
        rw [← HR.out, HE.out, ← HBL.out]
        exact Told.some_ (by rw [← HGF.out]; rfl) (by have := HJ.out; omega) (by have := HJ.out; omega) S4.rd
      · skip
        have he : escP (restL s j) = some (.one b, l) := by rw [HESC.out, hv]; rfl
        have HE := Lib.hid he
        have hcv := cvi_u8 b hb9
        have hof := fun w => of_any b b w hb9 hb9
        obtain ⟨gf, hgf⟩ : ∃ f, ofS b b = f := ⟨_, rfl⟩
        rw [hgf] at hof
        have HOF := Lib.hid hof
        have HGF := Lib.hid hgf
        have q100 : ((b : Int) == 100) = ((91 : Int) == 100) := by rw [hv]; rfl
        have q119 : ((b : Int) == 119) = ((91 : Int) == 119) := by rw [hv]; rfl
        have q120 : ((b : Int) == 120) = ((91 : Int) == 120) := by rw [hv]; rfl
        have q92 : ((b : Int) == 92) = ((91 : Int) == 92) := by rw [hv]; rfl
        have q46 : ((b : Int) == 46) = ((91 : Int) == 46) := by rw [hv]; rfl
        have q91 : ((b : Int) == 91) = ((91 : Int) == 91) := by rw [hv]; rfl
        have q93 : ((b : Int) == 93) = ((91 : Int) == 93) := by rw [hv]; rfl
        have q40 : ((b : Int) == 40) = ((91 : Int) == 40) := by rw [hv]; rfl
        have q41 : ((b : Int) == 41) = ((91 : Int) == 41) := by rw [hv]; rfl
        have q123 : ((b : Int) == 123) = ((91 : Int) == 123) := by rw [hv]; rfl
        have q125 : ((b : Int) == 125) = ((91 : Int) == 125) := by rw [hv]; rfl
        have q124 : ((b : Int) == 124) = ((91 : Int) == 124) := by rw [hv]; rfl
        have q42 : ((b : Int) == 42) = ((91 : Int) == 42) := by rw [hv]; rfl
        have q43 : ((b : Int) == 43) = ((91 : Int) == 43) := by rw [hv]; rfl
        have q63 : ((b : Int) == 63) = ((91 : Int) == 63) := by rw [hv]; rfl
        have q45 : ((b : Int) == 45) = ((91 : Int) == 45) := by rw [hv]; rfl
        have q94 : ((b : Int) == 94) = ((91 : Int) == 94) := by rw [hv]; rfl
        clear he hof hgf hv
        unfold setV at HOF
        go_wp2_with fail
        refine (HOF.out _).mono ?_
        rintro e v1 ⟨rfl, bx⟩
        have S1 := Lib.hid (S0.out.go bx)
        clear bx S0
        have r0 := S1.out.b.cell 0 (by omega)
        have r1 := S1.out.b.cell 1 (by omega)
        have r2 := S1.out.b.cell 2 (by omega)
        have r3 := S1.out.b.cell 3 (by omega)
        have z := S1.out.b.free
        go_upto_region 44 with (fail)
        have S2 := Lib.hid (S1.out.setB gf)
        clear S1 r0 r1 r2 r3 z
        generalize ((((v1.setCell ⟨B, 0, none⟩ (.int .u64 (gf 0))).setCell ⟨B, 1, none⟩ (.int .u64 (gf 1))).setCell ⟨B, 2, none⟩ (.int .u64 (gf 2))).setCell ⟨B, 3, none⟩ (.int .u64 (gf 3))) = v2 at *
        obtain ⟨⟨c0, c1, c2⟩, z0, z1, z2⟩ := S2.out.rd.1.c3
        go_upto_region 45 with (fail)
        have S3 := Lib.hid S2.out.step
        clear S2 c0 c1 c2 z0 z1 z2
        generalize v2.setCell ⟨rb, 1, none⟩ (.int .i64 ((j : Int) + 1)) = v3 at *
        have d0 := S3.out.b.cell 0 (by omega)
        have d1 := S3.out.b.cell 1 (by omega)
        have d2 := S3.out.b.cell 2 (by omega)
        have d3 := S3.out.b.cell 3 (by omega)
        have r0 := S3.out.a.cell 0 (by omega)
        have r1 := S3.out.a.cell 1 (by omega)
        have r2 := S3.out.a.cell 2 (by omega)
        have r3 := S3.out.a.cell 3 (by omega)
        have z := S3.out.a.free
        go_wp2_with fail
        have S4 := S3.out.setA gf
        refine bodyPost_ret (v := .tuple #[setV gf, .bool false]) (by simp [results, Tryd.results74, go_sem, setV, r0, r1, r2, r3]) rfl ?_
        rw [← HR.out, HE.out, ← HBL.out]
        exact Told.some_ (by rw [← HGF.out]; rfl) (by have := HJ.out; omega) (by have := HJ.out; omega) S4.rd
      · skip
        have he : escP (restL s j) = some (.one b, l) := by rw [HESC.out, hv]; rfl
        have HE := Lib.hid he
        have hcv := cvi_u8 b hb9
        have hof := fun w => of_any b b w hb9 hb9
        obtain ⟨gf, hgf⟩ : ∃ f, ofS b b = f := ⟨_, rfl⟩
        rw [hgf] at hof
        have HOF := Lib.hid hof
        have HGF := Lib.hid hgf
        have q100 : ((b : Int) == 100) = ((93 : Int) == 100) := by rw [hv]; rfl
        have q119 : ((b : Int) == 119) = ((93 : Int) == 119) := by rw [hv]; rfl
        have q120 : ((b : Int) == 120) = ((93 : Int) == 120) := by rw [hv]; rfl
        have q92 : ((b : Int) == 92) = ((93 : Int) == 92) := by rw [hv]; rfl
        have q46 : ((b : Int) == 46) = ((93 : Int) == 46) := by rw [hv]; rfl
        have q91 : ((b : Int) == 91) = ((93 : Int) == 91) := by rw [hv]; rfl
        have q93 : ((b : Int) == 93) = ((93 : Int) == 93) := by rw [hv]; rfl
        have q40 : ((b : Int) == 40) = ((93 : Int) == 40) := by rw [hv]; rfl
        have q41 : ((b : Int) == 41) = ((93 : Int) == 41) := by rw [hv]; rfl
        have q123 : ((b : Int) == 123) = ((93 : Int) == 123) := by rw [hv]; rfl
        have q125 : ((b : Int) == 125) = ((93 : Int) == 125) := by rw [hv]; rfl
        have q124 : ((b : Int) == 124) = ((93 : Int) == 124) := by rw [hv]; rfl
        have q42 : ((b : Int) == 42) = ((93 : Int) == 42) := by rw [hv]; rfl
        have q43 : ((b : Int) == 43) = ((93 : Int) == 43) := by rw [hv]; rfl
        have q63 : ((b : Int) == 63) = ((93 : Int) == 63) := by rw [hv]; rfl
        have q45 : ((b : Int) == 45) = ((93 : Int) == 45) := by rw [hv]; rfl
        have q94 : ((b : Int) == 94) = ((93 : Int) == 94) := by rw [hv]; rfl
        clear he hof hgf hv
        unfold setV at HOF
        go_wp2_with fail
        refine (HOF.out _).mono ?_
        rintro e v1 ⟨rfl, bx⟩
        have S1 := Lib.hid (S0.out.go bx)
        clear bx S0
        have r0 := S1.out.b.cell 0 (by omega)
        have r1 := S1.out.b.cell 1 (by omega)
        have r2 := S1.out.b.cell 2 (by omega)
        have r3 := S1.out.b.cell 3 (by omega)
        have z := S1.out.b.free
        go_upto_region 44 with (fail)
        have S2 := Lib.hid (S1.out.setB gf)
        clear S1 r0 r1 r2 r3 z
        generalize ((((v1.setCell ⟨B, 0, none⟩ (.int .u64 (gf 0))).setCell ⟨B, 1, none⟩ (.int .u64 (gf 1))).setCell ⟨B, 2, none⟩ (.int .u64 (gf 2))).setCell ⟨B, 3, none⟩ (.int .u64 (gf 3))) = v2 at *
        obtain ⟨⟨c0, c1, c2⟩, z0, z1, z2⟩ := S2.out.rd.1.c3
        go_upto_region 45 with (fail)
        have S3 := Lib.hid S2.out.step
        clear S2 c0 c1 c2 z0 z1 z2
        generalize v2.setCell ⟨rb, 1, none⟩ (.int .i64 ((j : Int) + 1)) = v3 at *
        have d0 := S3.out.b.cell 0 (by omega)
        have d1 := S3.out.b.cell 1 (by omega)
        have d2 := S3.out.b.cell 2 (by omega)
        have d3 := S3.out.b.cell 3 (by omega)
        have r0 := S3.out.a.cell 0 (by omega)
        have r1 := S3.out.a.cell 1 (by omega)
        have r2 := S3.out.a.cell 2 (by omega)
        have r3 := S3.out.a.cell 3 (by omega)
        have z := S3.out.a.free
        go_wp2_with fail
        have S4 := S3.out.setA gf
        refine bodyPost_ret (v := .tuple #[setV gf, .bool false]) (by simp [results, Tryd.results74, go_sem, setV, r0, r1, r2, r3]) rfl ?_
        rw [← HR.out, HE.out, ← HBL.out]
        exact Told.some_ (by rw [← HGF.out]; rfl) (by have := HJ.out; omega) (by have := HJ.out; omega) S4.rd
      · skip
        have he : escP (restL s j) = some (.one b, l) := by rw [HESC.out, hv]; rfl
        have HE := Lib.hid he
        have hcv := cvi_u8 b hb9
        have hof := fun w => of_any b b w hb9 hb9
        obtain ⟨gf, hgf⟩ : ∃ f, ofS b b = f := ⟨_, rfl⟩
        rw [hgf] at hof
        have HOF := Lib.hid hof
        have HGF := Lib.hid hgf
        have q100 : ((b : Int) == 100) = ((40 : Int) == 100) := by rw [hv]; rfl
        have q119 : ((b : Int) == 119) = ((40 : Int) == 119) := by rw [hv]; rfl
        have q120 : ((b : Int) == 120) = ((40 : Int) == 120) := by rw [hv]; rfl
        have q92 : ((b : Int) == 92) = ((40 : Int) == 92) := by rw [hv]; rfl
        have q46 : ((b : Int) == 46) = ((40 : Int) == 46) := by rw [hv]; rfl
        have q91 : ((b : Int) == 91) = ((40 : Int) == 91) := by rw [hv]; rfl
        have q93 : ((b : Int) == 93) = ((40 : Int) == 93) := by rw [hv]; rfl
        have q40 : ((b : Int) == 40) = ((40 : Int) == 40) := by rw [hv]; rfl
        have q41 : ((b : Int) == 41) = ((40 : Int) == 41) := by rw [hv]; rfl
        have q123 : ((b : Int) == 123) = ((40 : Int) == 123) := by rw [hv]; rfl
        have q125 : ((b : Int) == 125) = ((40 : Int) == 125) := by rw [hv]; rfl
        have q124 : ((b : Int) == 124) = ((40 : Int) == 124) := by rw [hv]; rfl
        have q42 : ((b : Int) == 42) = ((40 : Int) == 42) := by rw [hv]; rfl
        have q43 : ((b : Int) == 43) = ((40 : Int) == 43) := by rw [hv]; rfl
        have q63 : ((b : Int) == 63) = ((40 : Int) == 63) := by rw [hv]; rfl
        have q45 : ((b : Int) == 45) = ((40 : Int) == 45) := by rw [hv]; rfl
        have q94 : ((b : Int) == 94) = ((40 : Int) == 94) := by rw [hv]; rfl
        clear he hof hgf hv
        unfold setV at HOF
        go_wp2_with fail
        refine (HOF.out _).mono ?_
        rintro e v1 ⟨rfl, bx⟩
        have S1 := Lib.hid (S0.out.go bx)
        clear bx S0
        have r0 := S1.out.b.cell 0 (by omega)
        have r1 := S1.out.b.cell 1 (by omega)
        have r2 := S1.out.b.cell 2 (by omega)
        have r3 := S1.out.b.cell 3 (by omega)
        have z := S1.out.b.free
        go_upto_region 44 with (fail)
        have S2 := Lib.hid (S1.out.setB gf)
        clear S1 r0 r1 r2 r3 z
        generalize ((((v1.setCell ⟨B, 0, none⟩ (.int .u64 (gf 0))).setCell ⟨B, 1, none⟩ (.int .u64 (gf 1))).setCell ⟨B, 2, none⟩ (.int .u64 (gf 2))).setCell ⟨B, 3, none⟩ (.int .u64 (gf 3))) = v2 at *
        obtain ⟨⟨c0, c1, c2⟩, z0, z1, z2⟩ := S2.out.rd.1.c3
        go_upto_region 45 with (fail)
        have S3 := Lib.hid S2.out.step
        clear S2 c0 c1 c2 z0 z1 z2
        generalize v2.setCell ⟨rb, 1, none⟩ (.int .i64 ((j : Int) + 1)) = v3 at *
        have d0 := S3.out.b.cell 0 (by omega)
        have d1 := S3.out.b.cell 1 (by omega)
        have d2 := S3.out.b.cell 2 (by omega)
        have d3 := S3.out.b.cell 3 (by omega)
        have r0 := S3.out.a.cell 0 (by omega)
        have r1 := S3.out.a.cell 1 (by omega)
        have r2 := S3.out.a.cell 2 (by omega)
        have r3 := S3.out.a.cell 3 (by omega)
        have z := S3.out.a.free
        go_wp2_with fail
        have S4 := S3.out.setA gf
        refine bodyPost_ret (v := .tuple #[setV gf, .bool false]) (by simp [results, Tryd.results74, go_sem, setV, r0, r1, r2, r3]) rfl ?_
        rw [← HR.out, HE.out, ← HBL.out]
        exact Told.some_ (by rw [← HGF.out]; rfl) (by have := HJ.out; omega) (by have := HJ.out; omega) S4.rd
      · skip
        have he : escP (restL s j) = some (.one b, l) := by rw [HESC.out, hv]; rfl
        have HE := Lib.hid he
        have hcv := cvi_u8 b hb9
        have hof := fun w => of_any b b w hb9 hb9
        obtain ⟨gf, hgf⟩ : ∃ f, ofS b b = f := ⟨_, rfl⟩
        rw [hgf] at hof
        have HOF := Lib.hid hof
        have HGF := Lib.hid hgf
        have q100 : ((b : Int) == 100) = ((41 : Int) == 100) := by rw [hv]; rfl
        have q119 : ((b : Int) == 119) = ((41 : Int) == 119) := by rw [hv]; rfl
        have q120 : ((b : Int) == 120) = ((41 : Int) == 120) := by rw [hv]; rfl
        have q92 : ((b : Int) == 92) = ((41 : Int) == 92) := by rw [hv]; rfl
        have q46 : ((b : Int) == 46) = ((41 : Int) == 46) := by rw [hv]; rfl
        have q91 : ((b : Int) == 91) = ((41 : Int) == 91) := by rw [hv]; rfl
        have q93 : ((b : Int) == 93) = ((41 : Int) == 93) := by rw [hv]; rfl
        have q40 : ((b : Int) == 40) = ((41 : Int) == 40) := by rw [hv]; rfl
        have q41 : ((b : Int) == 41) = ((41 : Int) == 41) := by rw [hv]; rfl
        have q123 : ((b : Int) == 123) = ((41 : Int) == 123) := by rw [hv]; rfl
        have q125 : ((b : Int) == 125) = ((41 : Int) == 125) := by rw [hv]; rfl
        have q124 : ((b : Int) == 124) = ((41 : Int) == 124) := by rw [hv]; rfl
        have q42 : ((b : Int) == 42) = ((41 : Int) == 42) := by rw [hv]; rfl
        have q43 : ((b : Int) == 43) = ((41 : Int) == 43) := by rw [hv]; rfl
        have q63 : ((b : Int) == 63) = ((41 : Int) == 63) := by rw [hv]; rfl
        have q45 : ((b : Int) == 45) = ((41 : Int) == 45) := by rw [hv]; rfl
        have q94 : ((b : Int) == 94) = ((41 : Int) == 94) := by rw [hv]; rfl
        clear he hof hgf hv
        unfold setV at HOF
        go_wp2_with fail
        refine (HOF.out _).mono ?_
        rintro e v1 ⟨rfl, bx⟩
        have S1 := Lib.hid (S0.out.go bx)
        clear bx S0
        have r0 := S1.out.b.cell 0 (by omega)
        have r1 := S1.out.b.cell 1 (by omega)
        have r2 := S1.out.b.cell 2 (by omega)
        have r3 := S1.out.b.cell 3 (by omega)
        have z := S1.out.b.free
        go_upto_region 44 with (fail)
        have S2 := Lib.hid (S1.out.setB gf)
        clear S1 r0 r1 r2 r3 z
        generalize ((((v1.setCell ⟨B, 0, none⟩ (.int .u64 (gf 0))).setCell ⟨B, 1, none⟩ (.int .u64 (gf 1))).setCell ⟨B, 2, none⟩ (.int .u64 (gf 2))).setCell ⟨B, 3, none⟩ (.int .u64 (gf 3))) = v2 at *
        obtain ⟨⟨c0, c1, c2⟩, z0, z1, z2⟩ := S2.out.rd.1.c3
        go_upto_region 45 with (fail)
        have S3 := Lib.hid S2.out.step
        clear S2 c0 c1 c2 z0 z1 z2
        generalize v2.setCell ⟨rb, 1, none⟩ (.int .i64 ((j : Int) + 1)) = v3 at *
        have d0 := S3.out.b.cell 0 (by omega)
        have d1 := S3.out.b.cell 1 (by omega)
        have d2 := S3.out.b.cell 2 (by omega)
        have d3 := S3.out.b.cell 3 (by omega)
        have r0 := S3.out.a.cell 0 (by omega)
        have r1 := S3.out.a.cell 1 (by omega)
        have r2 := S3.out.a.cell 2 (by omega)
        have r3 := S3.out.a.cell 3 (by omega)
        have z := S3.out.a.free
        go_wp2_with fail
        have S4 := S3.out.setA gf
        refine bodyPost_ret (v := .tuple #[setV gf, .bool false]) (by simp [results, Tryd.results74, go_sem, setV, r0, r1, r2, r3]) rfl ?_
        rw [← HR.out, HE.out, ← HBL.out]
        exact Told.some_ (by rw [← HGF.out]; rfl) (by have := HJ.out; omega) (by have := HJ.out; omega) S4.rd
      · skip
        have he : escP (restL s j) = some (.one b, l) := by rw [HESC.out, hv]; rfl
        have HE := Lib.hid he
        have hcv := cvi_u8 b hb9
        have hof := fun w => of_any b b w hb9 hb9
        obtain ⟨gf, hgf⟩ : ∃ f, ofS b b = f := ⟨_, rfl⟩
        rw [hgf] at hof
        have HOF := Lib.hid hof
        have HGF := Lib.hid hgf
        have q100 : ((b : Int) == 100) = ((123 : Int) == 100) := by rw [hv]; rfl
        have q119 : ((b : Int) == 119) = ((123 : Int) == 119) := by rw [hv]; rfl
        have q120 : ((b : Int) == 120) = ((123 : Int) == 120) := by rw [hv]; rfl
        have q92 : ((b : Int) == 92) = ((123 : Int) == 92) := by rw [hv]; rfl
        have q46 : ((b : Int) == 46) = ((123 : Int) == 46) := by rw [hv]; rfl
        have q91 : ((b : Int) == 91) = ((123 : Int) == 91) := by rw [hv]; rfl
        have q93 : ((b : Int) == 93) = ((123 : Int) == 93) := by rw [hv]; rfl
        have q40 : ((b : Int) == 40) = ((123 : Int) == 40) := by rw [hv]; rfl
        have q41 : ((b : Int) == 41) = ((123 : Int) == 41) := by rw [hv]; rfl
        have q123 : ((b : Int) == 123) = ((123 : Int) == 123) := by rw [hv]; rfl
        have q125 : ((b : Int) == 125) = ((123 : Int) == 125) := by rw [hv]; rfl
        have q124 : ((b : Int) == 124) = ((123 : Int) == 124) := by rw [hv]; rfl
        have q42 : ((b : Int) == 42) = ((123 : Int) == 42) := by rw [hv]; rfl
        have q43 : ((b : Int) == 43) = ((123 : Int) == 43) := by rw [hv]; rfl
        have q63 : ((b : Int) == 63) = ((123 : Int) == 63) := by rw [hv]; rfl
        have q45 : ((b : Int) == 45) = ((123 : Int) == 45) := by rw [hv]; rfl
        have q94 : ((b : Int) == 94) = ((123 : Int) == 94) := by rw [hv]; rfl
        clear he hof hgf hv
        unfold setV at HOF
        go_wp2_with fail
        refine (HOF.out _).mono ?_
        rintro e v1 ⟨rfl, bx⟩
        have S1 := Lib.hid (S0.out.go bx)
        clear bx S0
        have r0 := S1.out.b.cell 0 (by omega)
        have r1 := S1.out.b.cell 1 (by omega)
        have r2 := S1.out.b.cell 2 (by omega)
        have r3 := S1.out.b.cell 3 (by omega)
        have z := S1.out.b.free
        go_upto_region 44 with (fail)
        have S2 := Lib.hid (S1.out.setB gf)
        clear S1 r0 r1 r2 r3 z
        generalize ((((v1.setCell ⟨B, 0, none⟩ (.int .u64 (gf 0))).setCell ⟨B, 1, none⟩ (.int .u64 (gf 1))).setCell ⟨B, 2, none⟩ (.int .u64 (gf 2))).setCell ⟨B, 3, none⟩ (.int .u64 (gf 3))) = v2 at *
        obtain ⟨⟨c0, c1, c2⟩, z0, z1, z2⟩ := S2.out.rd.1.c3
        go_upto_region 45 with (fail)
        have S3 := Lib.hid S2.out.step
        clear S2 c0 c1 c2 z0 z1 z2
        generalize v2.setCell ⟨rb, 1, none⟩ (.int .i64 ((j : Int) + 1)) = v3 at *
        have d0 := S3.out.b.cell 0 (by omega)
        have d1 := S3.out.b.cell 1 (by omega)
        have d2 := S3.out.b.cell 2 (by omega)
        have d3 := S3.out.b.cell 3 (by omega)
        have r0 := S3.out.a.cell 0 (by omega)
        have r1 := S3.out.a.cell 1 (by omega)
        have r2 := S3.out.a.cell 2 (by omega)
        have r3 := S3.out.a.cell 3 (by omega)
        have z := S3.out.a.free
        go_wp2_with fail
        have S4 := S3.out.setA gf
        refine bodyPost_ret (v := .tuple #[setV gf, .bool false]) (by simp [results, Tryd.results74, go_sem, setV, r0, r1, r2, r3]) rfl ?_
        rw [← HR.out, HE.out, ← HBL.out]
        exact Told.some_ (by rw [← HGF.out]; rfl) (by have := HJ.out; omega) (by have := HJ.out; omega) S4.rd
      · skip
        have he : escP (restL s j) = some (.one b, l) := by rw [HESC.out, hv]; rfl
        have HE := Lib.hid he
        have hcv := cvi_u8 b hb9
        have hof := fun w => of_any b b w hb9 hb9
        obtain ⟨gf, hgf⟩ : ∃ f, ofS b b = f := ⟨_, rfl⟩
        rw [hgf] at hof
        have HOF := Lib.hid hof
        have HGF := Lib.hid hgf
        have q100 : ((b : Int) == 100) = ((125 : Int) == 100) := by rw [hv]; rfl
        have q119 : ((b : Int) == 119) = ((125 : Int) == 119) := by rw [hv]; rfl
        have q120 : ((b : Int) == 120) = ((125 : Int) == 120) := by rw [hv]; rfl
        have q92 : ((b : Int) == 92) = ((125 : Int) == 92) := by rw [hv]; rfl
        have q46 : ((b : Int) == 46) = ((125 : Int) == 46) := by rw [hv]; rfl
        have q91 : ((b : Int) == 91) = ((125 : Int) == 91) := by rw [hv]; rfl
        have q93 : ((b : Int) == 93) = ((125 : Int) == 93) := by rw [hv]; rfl
        have q40 : ((b : Int) == 40) = ((125 : Int) == 40) := by rw [hv]; rfl
        have q41 : ((b : Int) == 41) = ((125 : Int) == 41) := by rw [hv]; rfl
        have q123 : ((b : Int) == 123) = ((125 : Int) == 123) := by rw [hv]; rfl
        have q125 : ((b : Int) == 125) = ((125 : Int) == 125) := by rw [hv]; rfl
        have q124 : ((b : Int) == 124) = ((125 : Int) == 124) := by rw [hv]; rfl
        have q42 : ((b : Int) == 42) = ((125 : Int) == 42) := by rw [hv]; rfl
        have q43 : ((b : Int) == 43) = ((125 : Int) == 43) := by rw [hv]; rfl
        have q63 : ((b : Int) == 63) = ((125 : Int) == 63) := by rw [hv]; rfl
        have q45 : ((b : Int) == 45) = ((125 : Int) == 45) := by rw [hv]; rfl
        have q94 : ((b : Int) == 94) = ((125 : Int) == 94) := by rw [hv]; rfl
        clear he hof hgf hv
        unfold setV at HOF
        go_wp2_with fail
        refine (HOF.out _).mono ?_
        rintro e v1 ⟨rfl, bx⟩
        have S1 := Lib.hid (S0.out.go bx)
        clear bx S0
        have r0 := S1.out.b.cell 0 (by omega)
        have r1 := S1.out.b.cell 1 (by omega)
        have r2 := S1.out.b.cell 2 (by omega)
        have r3 := S1.out.b.cell 3 (by omega)
        have z := S1.out.b.free
        go_upto_region 44 with (fail)
        have S2 := Lib.hid (S1.out.setB gf)
        clear S1 r0 r1 r2 r3 z
        generalize ((((v1.setCell ⟨B, 0, none⟩ (.int .u64 (gf 0))).setCell ⟨B, 1, none⟩ (.int .u64 (gf 1))).setCell ⟨B, 2, none⟩ (.int .u64 (gf 2))).setCell ⟨B, 3, none⟩ (.int .u64 (gf 3))) = v2 at *
        obtain ⟨⟨c0, c1, c2⟩, z0, z1, z2⟩ := S2.out.rd.1.c3
        go_upto_region 45 with (fail)
        have S3 := Lib.hid S2.out.step
        clear S2 c0 c1 c2 z0 z1 z2
        generalize v2.setCell ⟨rb, 1, none⟩ (.int .i64 ((j : Int) + 1)) = v3 at *
        have d0 := S3.out.b.cell 0 (by omega)
        have d1 := S3.out.b.cell 1 (by omega)
        have d2 := S3.out.b.cell 2 (by omega)
        have d3 := S3.out.b.cell 3 (by omega)
        have r0 := S3.out.a.cell 0 (by omega)
        have r1 := S3.out.a.cell 1 (by omega)
        have r2 := S3.out.a.cell 2 (by omega)
        have r3 := S3.out.a.cell 3 (by omega)
        have z := S3.out.a.free
        go_wp2_with fail
        have S4 := S3.out.setA gf
        refine bodyPost_ret (v := .tuple #[setV gf, .bool false]) (by simp [results, Tryd.results74, go_sem, setV, r0, r1, r2, r3]) rfl ?_
        rw [← HR.out, HE.out, ← HBL.out]
        exact Told.some_ (by rw [← HGF.out]; rfl) (by have := HJ.out; omega) (by have := HJ.out; omega) S4.rd
      · skip
        have he : escP (restL s j) = some (.one b, l) := by rw [HESC.out, hv]; rfl
        have HE := Lib.hid he
        have hcv := cvi_u8 b hb9
        have hof := fun w => of_any b b w hb9 hb9
        obtain ⟨gf, hgf⟩ : ∃ f, ofS b b = f := ⟨_, rfl⟩
        rw [hgf] at hof
        have HOF := Lib.hid hof
        have HGF := Lib.hid hgf
        have q100 : ((b : Int) == 100) = ((124 : Int) == 100) := by rw [hv]; rfl
        have q119 : ((b : Int) == 119) = ((124 : Int) == 119) := by rw [hv]; rfl
        have q120 : ((b : Int) == 120) = ((124 : Int) == 120) := by rw [hv]; rfl
        have q92 : ((b : Int) == 92) = ((124 : Int) == 92) := by rw [hv]; rfl
        have q46 : ((b : Int) == 46) = ((124 : Int) == 46) := by rw [hv]; rfl
        have q91 : ((b : Int) == 91) = ((124 : Int) == 91) := by rw [hv]; rfl
        have q93 : ((b : Int) == 93) = ((124 : Int) == 93) := by rw [hv]; rfl
        have q40 : ((b : Int) == 40) = ((124 : Int) == 40) := by rw [hv]; rfl
        have q41 : ((b : Int) == 41) = ((124 : Int) == 41) := by rw [hv]; rfl
        have q123 : ((b : Int) == 123) = ((124 : Int) == 123) := by rw [hv]; rfl
        have q125 : ((b : Int) == 125) = ((124 : Int) == 125) := by rw [hv]; rfl
        have q124 : ((b : Int) == 124) = ((124 : Int) == 124) := by rw [hv]; rfl
        have q42 : ((b : Int) == 42) = ((124 : Int) == 42) := by rw [hv]; rfl
        have q43 : ((b : Int) == 43) = ((124 : Int) == 43) := by rw [hv]; rfl
        have q63 : ((b : Int) == 63) = ((124 : Int) == 63) := by rw [hv]; rfl
        have q45 : ((b : Int) == 45) = ((124 : Int) == 45) := by rw [hv]; rfl
        have q94 : ((b : Int) == 94) = ((124 : Int) == 94) := by rw [hv]; rfl
        clear he hof hgf hv
        unfold setV at HOF
        go_wp2_with fail
        refine (HOF.out _).mono ?_
        rintro e v1 ⟨rfl, bx⟩
        have S1 := Lib.hid (S0.out.go bx)
        clear bx S0
        have r0 := S1.out.b.cell 0 (by omega)
        have r1 := S1.out.b.cell 1 (by omega)
        have r2 := S1.out.b.cell 2 (by omega)
        have r3 := S1.out.b.cell 3 (by omega)
        have z := S1.out.b.free
        go_upto_region 44 with (fail)
        have S2 := Lib.hid (S1.out.setB gf)
        clear S1 r0 r1 r2 r3 z
        generalize ((((v1.setCell ⟨B, 0, none⟩ (.int .u64 (gf 0))).setCell ⟨B, 1, none⟩ (.int .u64 (gf 1))).setCell ⟨B, 2, none⟩ (.int .u64 (gf 2))).setCell ⟨B, 3, none⟩ (.int .u64 (gf 3))) = v2 at *
        obtain ⟨⟨c0, c1, c2⟩, z0, z1, z2⟩ := S2.out.rd.1.c3
        go_upto_region 45 with (fail)
        have S3 := Lib.hid S2.out.step
        clear S2 c0 c1 c2 z0 z1 z2
        generalize v2.setCell ⟨rb, 1, none⟩ (.int .i64 ((j : Int) + 1)) = v3 at *
        have d0 := S3.out.b.cell 0 (by omega)
        have d1 := S3.out.b.cell 1 (by omega)
        have d2 := S3.out.b.cell 2 (by omega)
        have d3 := S3.out.b.cell 3 (by omega)
        have r0 := S3.out.a.cell 0 (by omega)
        have r1 := S3.out.a.cell 1 (by omega)
        have r2 := S3.out.a.cell 2 (by omega)
        have r3 := S3.out.a.cell 3 (by omega)
        have z := S3.out.a.free
        go_wp2_with fail
        have S4 := S3.out.setA gf
        refine bodyPost_ret (v := .tuple #[setV gf, .bool false]) (by simp [results, Tryd.results74, go_sem, setV, r0, r1, r2, r3]) rfl ?_
        rw [← HR.out, HE.out, ← HBL.out]
        exact Told.some_ (by rw [← HGF.out]; rfl) (by have := HJ.out; omega) (by have := HJ.out; omega) S4.rd
      · skip
        have he : escP (restL s j) = some (.one b, l) := by rw [HESC.out, hv]; rfl
        have HE := Lib.hid he
        have hcv := cvi_u8 b hb9
        have hof := fun w => of_any b b w hb9 hb9
        obtain ⟨gf, hgf⟩ : ∃ f, ofS b b = f := ⟨_, rfl⟩
        rw [hgf] at hof
        have HOF := Lib.hid hof
        have HGF := Lib.hid hgf
        have q100 : ((b : Int) == 100) = ((42 : Int) == 100) := by rw [hv]; rfl
        have q119 : ((b : Int) == 119) = ((42 : Int) == 119) := by rw [hv]; rfl
        have q120 : ((b : Int) == 120) = ((42 : Int) == 120) := by rw [hv]; rfl
        have q92 : ((b : Int) == 92) = ((42 : Int) == 92) := by rw [hv]; rfl
        have q46 : ((b : Int) == 46) = ((42 : Int) == 46) := by rw [hv]; rfl
        have q91 : ((b : Int) == 91) = ((42 : Int) == 91) := by rw [hv]; rfl
        have q93 : ((b : Int) == 93) = ((42 : Int) == 93) := by rw [hv]; rfl
        have q40 : ((b : Int) == 40) = ((42 : Int) == 40) := by rw [hv]; rfl
        have q41 : ((b : Int) == 41) = ((42 : Int) == 41) := by rw [hv]; rfl
        have q123 : ((b : Int) == 123) = ((42 : Int) == 123) := by rw [hv]; rfl
        have q125 : ((b : Int) == 125) = ((42 : Int) == 125) := by rw [hv]; rfl
        have q124 : ((b : Int) == 124) = ((42 : Int) == 124) := by rw [hv]; rfl
        have q42 : ((b : Int) == 42) = ((42 : Int) == 42) := by rw [hv]; rfl
        have q43 : ((b : Int) == 43) = ((42 : Int) == 43) := by rw [hv]; rfl
        have q63 : ((b : Int) == 63) = ((42 : Int) == 63) := by rw [hv]; rfl
        have q45 : ((b : Int) == 45) = ((42 : Int) == 45) := by rw [hv]; rfl
        have q94 : ((b : Int) == 94) = ((42 : Int) == 94) := by rw [hv]; rfl
        clear he hof hgf hv
        unfold setV at HOF
        go_wp2_with fail
        refine (HOF.out _).mono ?_
        rintro e v1 ⟨rfl, bx⟩
        have S1 := Lib.hid (S0.out.go bx)
        clear bx S0
        have r0 := S1.out.b.cell 0 (by omega)
        have r1 := S1.out.b.cell 1 (by omega)
        have r2 := S1.out.b.cell 2 (by omega)
        have r3 := S1.out.b.cell 3 (by omega)
        have z := S1.out.b.free
        go_upto_region 44 with (fail)
        have S2 := Lib.hid (S1.out.setB gf)
        clear S1 r0 r1 r2 r3 z
        generalize ((((v1.setCell ⟨B, 0, none⟩ (.int .u64 (gf 0))).setCell ⟨B, 1, none⟩ (.int .u64 (gf 1))).setCell ⟨B, 2, none⟩ (.int .u64 (gf 2))).setCell ⟨B, 3, none⟩ (.int .u64 (gf 3))) = v2 at *
        obtain ⟨⟨c0, c1, c2⟩, z0, z1, z2⟩ := S2.out.rd.1.c3
        go_upto_region 45 with (fail)
        have S3 := Lib.hid S2.out.step
        clear S2 c0 c1 c2 z0 z1 z2
        generalize v2.setCell ⟨rb, 1, none⟩ (.int .i64 ((j : Int) + 1)) = v3 at *
        have d0 := S3.out.b.cell 0 (by omega)
        have d1 := S3.out.b.cell 1 (by omega)
        have d2 := S3.out.b.cell 2 (by omega)
        have d3 := S3.out.b.cell 3 (by omega)
        have r0 := S3.out.a.cell 0 (by omega)
        have r1 := S3.out.a.cell 1 (by omega)
        have r2 := S3.out.a.cell 2 (by omega)
        have r3 := S3.out.a.cell 3 (by omega)
        have z := S3.out.a.free
        go_wp2_with fail
        have S4 := S3.out.setA gf
        refine bodyPost_ret (v := .tuple #[setV gf, .bool false]) (by simp [results, Tryd.results74, go_sem, setV, r0, r1, r2, r3]) rfl ?_
        rw [← HR.out, HE.out, ← HBL.out]
        exact Told.some_ (by rw [← HGF.out]; rfl) (by have := HJ.out; omega) (by have := HJ.out; omega) S4.rd
      · skip
        have he : escP (restL s j) = some (.one b, l) := by rw [HESC.out, hv]; rfl
        have HE := Lib.hid he
        have hcv := cvi_u8 b hb9
        have hof := fun w => of_any b b w hb9 hb9
        obtain ⟨gf, hgf⟩ : ∃ f, ofS b b = f := ⟨_, rfl⟩
        rw [hgf] at hof
        have HOF := Lib.hid hof
        have HGF := Lib.hid hgf
        have q100 : ((b : Int) == 100) = ((43 : Int) == 100) := by rw [hv]; rfl
        have q119 : ((b : Int) == 119) = ((43 : Int) == 119) := by rw [hv]; rfl
        have q120 : ((b : Int) == 120) = ((43 : Int) == 120) := by rw [hv]; rfl
        have q92 : ((b : Int) == 92) = ((43 : Int) == 92) := by rw [hv]; rfl
        have q46 : ((b : Int) == 46) = ((43 : Int) == 46) := by rw [hv]; rfl
        have q91 : ((b : Int) == 91) = ((43 : Int) == 91) := by rw [hv]; rfl
        have q93 : ((b : Int) == 93) = ((43 : Int) == 93) := by rw [hv]; rfl
        have q40 : ((b : Int) == 40) = ((43 : Int) == 40) := by rw [hv]; rfl
        have q41 : ((b : Int) == 41) = ((43 : Int) == 41) := by rw [hv]; rfl
        have q123 : ((b : Int) == 123) = ((43 : Int) == 123) := by rw [hv]; rfl
        have q125 : ((b : Int) == 125) = ((43 : Int) == 125) := by rw [hv]; rfl
        have q124 : ((b : Int) == 124) = ((43 : Int) == 124) := by rw [hv]; rfl
        have q42 : ((b : Int) == 42) = ((43 : Int) == 42) := by rw [hv]; rfl
        have q43 : ((b : Int) == 43) = ((43 : Int) == 43) := by rw [hv]; rfl
        have q63 : ((b : Int) == 63) = ((43 : Int) == 63) := by rw [hv]; rfl
        have q45 : ((b : Int) == 45) = ((43 : Int) == 45) := by rw [hv]; rfl
        have q94 : ((b : Int) == 94) = ((43 : Int) == 94) := by rw [hv]; rfl
        clear he hof hgf hv
        unfold setV at HOF
        go_wp2_with fail
        refine (HOF.out _).mono ?_
        rintro e v1 ⟨rfl, bx⟩
        have S1 := Lib.hid (S0.out.go bx)
        clear bx S0
        have r0 := S1.out.b.cell 0 (by omega)
        have r1 := S1.out.b.cell 1 (by omega)
        have r2 := S1.out.b.cell 2 (by omega)
        have r3 := S1.out.b.cell 3 (by omega)
        have z := S1.out.b.free
        go_upto_region 44 with (fail)
        have S2 := Lib.hid (S1.out.setB gf)
        clear S1 r0 r1 r2 r3 z
        generalize ((((v1.setCell ⟨B, 0, none⟩ (.int .u64 (gf 0))).setCell ⟨B, 1, none⟩ (.int .u64 (gf 1))).setCell ⟨B, 2, none⟩ (.int .u64 (gf 2))).setCell ⟨B, 3, none⟩ (.int .u64 (gf 3))) = v2 at *
        obtain ⟨⟨c0, c1, c2⟩, z0, z1, z2⟩ := S2.out.rd.1.c3
        go_upto_region 45 with (fail)
        have S3 := Lib.hid S2.out.step
        clear S2 c0 c1 c2 z0 z1 z2
        generalize v2.setCell ⟨rb, 1, none⟩ (.int .i64 ((j : Int) + 1)) = v3 at *
        have d0 := S3.out.b.cell 0 (by omega)
        have d1 := S3.out.b.cell 1 (by omega)
        have d2 := S3.out.b.cell 2 (by omega)
        have d3 := S3.out.b.cell 3 (by omega)
        have r0 := S3.out.a.cell 0 (by omega)
        have r1 := S3.out.a.cell 1 (by omega)
        have r2 := S3.out.a.cell 2 (by omega)
        have r3 := S3.out.a.cell 3 (by omega)
        have z := S3.out.a.free
        go_wp2_with fail
        have S4 := S3.out.setA gf
        refine bodyPost_ret (v := .tuple #[setV gf, .bool false]) (by simp [results, Tryd.results74, go_sem, setV, r0, r1, r2, r3]) rfl ?_
        rw [← HR.out, HE.out, ← HBL.out]
        exact Told.some_ (by rw [← HGF.out]; rfl) (by have := HJ.out; omega) (by have := HJ.out; omega) S4.rd
      · skip
        have he : escP (restL s j) = some (.one b, l) := by rw [HESC.out, hv]; rfl
        have HE := Lib.hid he
        have hcv := cvi_u8 b hb9
        have hof := fun w => of_any b b w hb9 hb9
        obtain ⟨gf, hgf⟩ : ∃ f, ofS b b = f := ⟨_, rfl⟩
        rw [hgf] at hof
        have HOF := Lib.hid hof
        have HGF := Lib.hid hgf
        have q100 : ((b : Int) == 100) = ((63 : Int) == 100) := by rw [hv]; rfl
        have q119 : ((b : Int) == 119) = ((63 : Int) == 119) := by rw [hv]; rfl
        have q120 : ((b : Int) == 120) = ((63 : Int) == 120) := by rw [hv]; rfl
        have q92 : ((b : Int) == 92) = ((63 : Int) == 92) := by rw [hv]; rfl
        have q46 : ((b : Int) == 46) = ((63 : Int) == 46) := by rw [hv]; rfl
        have q91 : ((b : Int) == 91) = ((63 : Int) == 91) := by rw [hv]; rfl
        have q93 : ((b : Int) == 93) = ((63 : Int) == 93) := by rw [hv]; rfl
        have q40 : ((b : Int) == 40) = ((63 : Int) == 40) := by rw [hv]; rfl
        have q41 : ((b : Int) == 41) = ((63 : Int) == 41) := by rw [hv]; rfl
        have q123 : ((b : Int) == 123) = ((63 : Int) == 123) := by rw [hv]; rfl
        have q125 : ((b : Int) == 125) = ((63 : Int) == 125) := by rw [hv]; rfl
        have q124 : ((b : Int) == 124) = ((63 : Int) == 124) := by rw [hv]; rfl
        have q42 : ((b : Int) == 42) = ((63 : Int) == 42) := by rw [hv]; rfl
        have q43 : ((b : Int) == 43) = ((63 : Int) == 43) := by rw [hv]; rfl
        have q63 : ((b : Int) == 63) = ((63 : Int) == 63) := by rw [hv]; rfl
        have q45 : ((b : Int) == 45) = ((63 : Int) == 45) := by rw [hv]; rfl
        have q94 : ((b : Int) == 94) = ((63 : Int) == 94) := by rw [hv]; rfl
        clear he hof hgf hv
        unfold setV at HOF
        go_wp2_with fail
        refine (HOF.out _).mono ?_
        rintro e v1 ⟨rfl, bx⟩
        have S1 := Lib.hid (S0.out.go bx)
        clear bx S0
        have r0 := S1.out.b.cell 0 (by omega)
        have r1 := S1.out.b.cell 1 (by omega)
        have r2 := S1.out.b.cell 2 (by omega)
        have r3 := S1.out.b.cell 3 (by omega)
        have z := S1.out.b.free
        go_upto_region 44 with (fail)
        have S2 := Lib.hid (S1.out.setB gf)
        clear S1 r0 r1 r2 r3 z
        generalize ((((v1.setCell ⟨B, 0, none⟩ (.int .u64 (gf 0))).setCell ⟨B, 1, none⟩ (.int .u64 (gf 1))).setCell ⟨B, 2, none⟩ (.int .u64 (gf 2))).setCell ⟨B, 3, none⟩ (.int .u64 (gf 3))) = v2 at *
        obtain ⟨⟨c0, c1, c2⟩, z0, z1, z2⟩ := S2.out.rd.1.c3
        go_upto_region 45 with (fail)
        have S3 := Lib.hid S2.out.step
        clear S2 c0 c1 c2 z0 z1 z2
        generalize v2.setCell ⟨rb, 1, none⟩ (.int .i64 ((j : Int) + 1)) = v3 at *
        have d0 := S3.out.b.cell 0 (by omega)
        have d1 := S3.out.b.cell 1 (by omega)
        have d2 := S3.out.b.cell 2 (by omega)
        have d3 := S3.out.b.cell 3 (by omega)
        have r0 := S3.out.a.cell 0 (by omega)
        have r1 := S3.out.a.cell 1 (by omega)
        have r2 := S3.out.a.cell 2 (by omega)
        have r3 := S3.out.a.cell 3 (by omega)
        have z := S3.out.a.free
        go_wp2_with fail
        have S4 := S3.out.setA gf
        refine bodyPost_ret (v := .tuple #[setV gf, .bool false]) (by simp [results, Tryd.results74, go_sem, setV, r0, r1, r2, r3]) rfl ?_
        rw [← HR.out, HE.out, ← HBL.out]
        exact Told.some_ (by rw [← HGF.out]; rfl) (by have := HJ.out; omega) (by have := HJ.out; omega) S4.rd
      · skip
        have he : escP (restL s j) = some (.one b, l) := by rw [HESC.out, hv]; rfl
        have HE := Lib.hid he
        have hcv := cvi_u8 b hb9
        have hof := fun w => of_any b b w hb9 hb9
        obtain ⟨gf, hgf⟩ : ∃ f, ofS b b = f := ⟨_, rfl⟩
        rw [hgf] at hof
        have HOF := Lib.hid hof
        have HGF := Lib.hid hgf
        have q100 : ((b : Int) == 100) = ((45 : Int) == 100) := by rw [hv]; rfl
        have q119 : ((b : Int) == 119) = ((45 : Int) == 119) := by rw [hv]; rfl
        have q120 : ((b : Int) == 120) = ((45 : Int) == 120) := by rw [hv]; rfl
        have q92 : ((b : Int) == 92) = ((45 : Int) == 92) := by rw [hv]; rfl
        have q46 : ((b : Int) == 46) = ((45 : Int) == 46) := by rw [hv]; rfl
        have q91 : ((b : Int) == 91) = ((45 : Int) == 91) := by rw [hv]; rfl
        have q93 : ((b : Int) == 93) = ((45 : Int) == 93) := by rw [hv]; rfl
        have q40 : ((b : Int) == 40) = ((45 : Int) == 40) := by rw [hv]; rfl
        have q41 : ((b : Int) == 41) = ((45 : Int) == 41) := by rw [hv]; rfl
        have q123 : ((b : Int) == 123) = ((45 : Int) == 123) := by rw [hv]; rfl
        have q125 : ((b : Int) == 125) = ((45 : Int) == 125) := by rw [hv]; rfl
        have q124 : ((b : Int) == 124) = ((45 : Int) == 124) := by rw [hv]; rfl
        have q42 : ((b : Int) == 42) = ((45 : Int) == 42) := by rw [hv]; rfl
        have q43 : ((b : Int) == 43) = ((45 : Int) == 43) := by rw [hv]; rfl
        have q63 : ((b : Int) == 63) = ((45 : Int) == 63) := by rw [hv]; rfl
        have q45 : ((b : Int) == 45) = ((45 : Int) == 45) := by rw [hv]; rfl
        have q94 : ((b : Int) == 94) = ((45 : Int) == 94) := by rw [hv]; rfl
        clear he hof hgf hv
        unfold setV at HOF
        go_wp2_with fail
        refine (HOF.out _).mono ?_
        rintro e v1 ⟨rfl, bx⟩
        have S1 := Lib.hid (S0.out.go bx)
        clear bx S0
        have r0 := S1.out.b.cell 0 (by omega)
        have r1 := S1.out.b.cell 1 (by omega)
        have r2 := S1.out.b.cell 2 (by omega)
        have r3 := S1.out.b.cell 3 (by omega)
        have z := S1.out.b.free
        go_upto_region 44 with (fail)
        have S2 := Lib.hid (S1.out.setB gf)
        clear S1 r0 r1 r2 r3 z
        generalize ((((v1.setCell ⟨B, 0, none⟩ (.int .u64 (gf 0))).setCell ⟨B, 1, none⟩ (.int .u64 (gf 1))).setCell ⟨B, 2, none⟩ (.int .u64 (gf 2))).setCell ⟨B, 3, none⟩ (.int .u64 (gf 3))) = v2 at *
        obtain ⟨⟨c0, c1, c2⟩, z0, z1, z2⟩ := S2.out.rd.1.c3
        go_upto_region 45 with (fail)
        have S3 := Lib.hid S2.out.step
        clear S2 c0 c1 c2 z0 z1 z2
        generalize v2.setCell ⟨rb, 1, none⟩ (.int .i64 ((j : Int) + 1)) = v3 at *
        have d0 := S3.out.b.cell 0 (by omega)
        have d1 := S3.out.b.cell 1 (by omega)
        have d2 := S3.out.b.cell 2 (by omega)
        have d3 := S3.out.b.cell 3 (by omega)
        have r0 := S3.out.a.cell 0 (by omega)
        have r1 := S3.out.a.cell 1 (by omega)
        have r2 := S3.out.a.cell 2 (by omega)
        have r3 := S3.out.a.cell 3 (by omega)
        have z := S3.out.a.free
        go_wp2_with fail
        have S4 := S3.out.setA gf
        refine bodyPost_ret (v := .tuple #[setV gf, .bool false]) (by simp [results, Tryd.results74, go_sem, setV, r0, r1, r2, r3]) rfl ?_
        rw [← HR.out, HE.out, ← HBL.out]
        exact Told.some_ (by rw [← HGF.out]; rfl) (by have := HJ.out; omega) (by have := HJ.out; omega) S4.rd
      · skip
        have he : escP (restL s j) = some (.one b, l) := by rw [HESC.out, hv]; rfl
        have HE := Lib.hid he
        have hcv := cvi_u8 b hb9
        have hof := fun w => of_any b b w hb9 hb9
        obtain ⟨gf, hgf⟩ : ∃ f, ofS b b = f := ⟨_, rfl⟩
        rw [hgf] at hof
        have HOF := Lib.hid hof
        have HGF := Lib.hid hgf
        have q100 : ((b : Int) == 100) = ((94 : Int) == 100) := by rw [hv]; rfl
        have q119 : ((b : Int) == 119) = ((94 : Int) == 119) := by rw [hv]; rfl
        have q120 : ((b : Int) == 120) = ((94 : Int) == 120) := by rw [hv]; rfl
        have q92 : ((b : Int) == 92) = ((94 : Int) == 92) := by rw [hv]; rfl
        have q46 : ((b : Int) == 46) = ((94 : Int) == 46) := by rw [hv]; rfl
        have q91 : ((b : Int) == 91) = ((94 : Int) == 91) := by rw [hv]; rfl
        have q93 : ((b : Int) == 93) = ((94 : Int) == 93) := by rw [hv]; rfl
        have q40 : ((b : Int) == 40) = ((94 : Int) == 40) := by rw [hv]; rfl
        have q41 : ((b : Int) == 41) = ((94 : Int) == 41) := by rw [hv]; rfl
        have q123 : ((b : Int) == 123) = ((94 : Int) == 123) := by rw [hv]; rfl
        have q125 : ((b : Int) == 125) = ((94 : Int) == 125) := by rw [hv]; rfl
        have q124 : ((b : Int) == 124) = ((94 : Int) == 124) := by rw [hv]; rfl
        have q42 : ((b : Int) == 42) = ((94 : Int) == 42) := by rw [hv]; rfl
        have q43 : ((b : Int) == 43) = ((94 : Int) == 43) := by rw [hv]; rfl
        have q63 : ((b : Int) == 63) = ((94 : Int) == 63) := by rw [hv]; rfl
        have q45 : ((b : Int) == 45) = ((94 : Int) == 45) := by rw [hv]; rfl
        have q94 : ((b : Int) == 94) = ((94 : Int) == 94) := by rw [hv]; rfl
        clear he hof hgf hv
        unfold setV at HOF
        go_wp2_with fail
        refine (HOF.out _).mono ?_
        rintro e v1 ⟨rfl, bx⟩
        have S1 := Lib.hid (S0.out.go bx)
        clear bx S0
        have r0 := S1.out.b.cell 0 (by omega)
        have r1 := S1.out.b.cell 1 (by omega)
        have r2 := S1.out.b.cell 2 (by omega)
        have r3 := S1.out.b.cell 3 (by omega)
        have z := S1.out.b.free
        go_upto_region 44 with (fail)
        have S2 := Lib.hid (S1.out.setB gf)
        clear S1 r0 r1 r2 r3 z
        generalize ((((v1.setCell ⟨B, 0, none⟩ (.int .u64 (gf 0))).setCell ⟨B, 1, none⟩ (.int .u64 (gf 1))).setCell ⟨B, 2, none⟩ (.int .u64 (gf 2))).setCell ⟨B, 3, none⟩ (.int .u64 (gf 3))) = v2 at *
        obtain ⟨⟨c0, c1, c2⟩, z0, z1, z2⟩ := S2.out.rd.1.c3
        go_upto_region 45 with (fail)
        have S3 := Lib.hid S2.out.step
        clear S2 c0 c1 c2 z0 z1 z2
        generalize v2.setCell ⟨rb, 1, none⟩ (.int .i64 ((j : Int) + 1)) = v3 at *
        have d0 := S3.out.b.cell 0 (by omega)
        have d1 := S3.out.b.cell 1 (by omega)
        have d2 := S3.out.b.cell 2 (by omega)
        have d3 := S3.out.b.cell 3 (by omega)
        have r0 := S3.out.a.cell 0 (by omega)
        have r1 := S3.out.a.cell 1 (by omega)
        have r2 := S3.out.a.cell 2 (by omega)
        have r3 := S3.out.a.cell 3 (by omega)
        have z := S3.out.a.free
        go_wp2_with fail
        have S4 := S3.out.setA gf
        refine bodyPost_ret (v := .tuple #[setV gf, .bool false]) (by simp [results, Tryd.results74, go_sem, setV, r0, r1, r2, r3]) rfl ?_
        rw [← HR.out, HE.out, ← HBL.out]
        exact Told.some_ (by rw [← HGF.out]; rfl) (by have := HJ.out; omega) (by have := HJ.out; omega) S4.rd
    · have hne : b ≠ 92 ∧ b ≠ 46 ∧ b ≠ 91 ∧ b ≠ 93 ∧ b ≠ 40 ∧ b ≠ 41 ∧ b ≠ 123 ∧ b ≠ 125 ∧ b ≠ 124 ∧ b ≠ 42 ∧ b ≠ 43 ∧ b ≠ 63 ∧ b ≠ 45 ∧ b ≠ 94 := by simpa [signsE] using hsg
      have he : escP (restL s j) = none := by rw [HESC.out, if_neg h100, if_neg h119, if_neg h120, if_neg hsg]
      have HE := Lib.hid he
      have q120 : ((b : Int) == 120) = false := by rw [beq_eq_false_iff_ne]; omega
      have q92 : ((b : Int) == 92) = false := by rw [beq_eq_false_iff_ne]; omega
      have q46 : ((b : Int) == 46) = false := by rw [beq_eq_false_iff_ne]; omega
      have q91 : ((b : Int) == 91) = false := by rw [beq_eq_false_iff_ne]; omega
      have q93 : ((b : Int) == 93) = false := by rw [beq_eq_false_iff_ne]; omega
      have q40 : ((b : Int) == 40) = false := by rw [beq_eq_false_iff_ne]; omega
      have q41 : ((b : Int) == 41) = false := by rw [beq_eq_false_iff_ne]; omega
      have q123 : ((b : Int) == 123) = false := by rw [beq_eq_false_iff_ne]; omega
      have q125 : ((b : Int) == 125) = false := by rw [beq_eq_false_iff_ne]; omega
      have q124 : ((b : Int) == 124) = false := by rw [beq_eq_false_iff_ne]; omega
      have q42 : ((b : Int) == 42) = false := by rw [beq_eq_false_iff_ne]; omega
      have q43 : ((b : Int) == 43) = false := by rw [beq_eq_false_iff_ne]; omega
      have q63 : ((b : Int) == 63) = false := by rw [beq_eq_false_iff_ne]; omega
      have q45 : ((b : Int) == 45) = false := by rw [beq_eq_false_iff_ne]; omega
      have q94 : ((b : Int) == 94) = false := by rw [beq_eq_false_iff_ne]; omega
      clear hne he hsg h100 h119 h120
      go_wp2_with fail
      refine (fail_any 2 _ _ (by omega)).mono ?_
      rintro e w9 ⟨⟨E, x, rfl, hE⟩, bx⟩
      exact ⟨rfl, by rw [← HR.out, HE.out]; exact ⟨⟨E, x, rfl, hE⟩, S0.out.rd.2.put bx S0.out.rd.2.size⟩⟩
end Go.Proofs.YtpknglbpbodnbaaDoor
