/-
  The walks of sign, item and class. Conditions: the reader stands within its text, which has 256 bytes at most; the library's table lies as laid.
-/
import Derived.Test.YtpknglbpbodnbaaDoorJRgEsc
namespace Go.Proofs.YtpknglbpbodnbaaDoor
set_option linter.unusedVariables false
set_option linter.unusedSimpArgs false
open Go.RowKit Go.Sort Cs Rg Go.ChangeShapes Go.WideShapes

theorem Told.elim {α : Type} {w : World} {rb : Nat} {s : ByteArray} {i o : Nat} {r : Option (α × List Nat)} {val : α → Value → World → Prop} {e : Ending} {w' : World} (h : Told w rb s i o r val e w') :
    (r = none ∧ Broke e ∧ Only [rb] w w') ∨ (∃ x j v, r = some (x, restL s j) ∧ e = .returned v ∧ val x v w' ∧ i ≤ j ∧ j ≤ s.size ∧ RdGo w rb s j o w') := by
  cases r with
  | none => exact .inl ⟨rfl, h⟩
  | some p =>
    obtain ⟨x, l1⟩ := p
    obtain ⟨v, j, rfl, hv, hl, h1, h2, h3⟩ := h
    exact .inr ⟨x, j, v, by rw [hl], rfl, hv, h1, h2, h3⟩
/-- the reader, and one set of the call's own -/
structure Sa (w w' : World) (rb : Nat) (s : ByteArray) (i o : Nat) (f : Nat → Int) : Prop where
  rd : RdGo w rb s i o w'
  a : Four w' w.heap.size f
  la : w.heap.size < w'.heap.size
  lr : rb < w.heap.size
theorem Four.only {S : List Nat} {w w' : World} {g : Nat} {f : Nat → Int} (h : Four w g f) (ho : Only S w w') (hg : g < w.heap.size) (hS : g ∉ S) : Four w' g f :=
  ⟨fun k hk => (World.cell?_of_block (a := ⟨g, k, none⟩) (ho.block g hg hS)).trans (h.cell k hk), fun k => by
    have := h.free k
    unfold World.frozen? at this ⊢
    rw [ho.block g hg hS]; exact this⟩
section
variable {w w' w2 : World} {rb B : Nat} {s : ByteArray} {i o : Nat} {f g : Nat → Int}
theorem Sa.go (h : Sa w w' rb s i o f) (hb : Below w'.heap.size w' w2) : Sa w w2 rb s i o f := ⟨h.rd.go hb, h.a.below hb h.la, Nat.lt_of_lt_of_le h.la hb.size, h.lr⟩
theorem Sa.on (h : Sa w w' rb s i o f) {j o2 : Nat} (h2 : RdGo w' rb s j o2 w2) : Sa w w2 rb s j o2 f :=
  ⟨h.rd.on h2, h.a.only h2.2 h.la (by have := h.lr; simp; omega), Nat.lt_of_lt_of_le h.la h2.2.size, h.lr⟩
theorem Sa.step (h : Sa w w' rb s i o f) : Sa w (w'.setCell ⟨rb, 1, none⟩ (.int .i64 ((i : Int) + 1))) rb s (i + 1) o f :=
  ⟨h.rd.step, h.a.far (g' := rb) (i := 1) _ (by have := h.lr; omega), by simp; exact h.la, h.lr⟩
theorem Sa.setA (h : Sa w w' rb s i o f) (g' : Nat → Int) : Sa w ((((w'.setCell ⟨w.heap.size, 0, none⟩ (.int .u64 (g' 0))).setCell ⟨w.heap.size, 1, none⟩ (.int .u64 (g' 1))).setCell ⟨w.heap.size, 2, none⟩ (.int .u64 (g' 2))).setCell ⟨w.heap.size, 3, none⟩ (.int .u64 (g' 3))) rb s i o g' :=
  ⟨⟨h.rd.1.far4 (by have := h.lr; omega) _ _ _ _, h.rd.2.set4_ (by omega) _ _ _ _⟩, h.a.set4 g', by simp; exact h.la, h.lr⟩
theorem Sa.new (h : Rd w rb s i o) : Sa w (w.alloc (.cells #[.int .u64 0, .int .u64 0, .int .u64 0, .int .u64 0] 24)) rb s i o noneS :=
  ⟨(RdGo.refl h).go ((Below.refl _ w).alloc (Nat.le_refl _) _), Four.zero w 24, by simp, h.lt⟩
end
set_option maxHeartbeats 8000000 in
set_option maxRecDepth 1000000 in
theorem sign13_any (rb : Nat) (s : ByteArray) (i o : Nat) (w : World) (h : Rd w rb s i o) (hs : s.size ≤ 256) (hi : i ≤ s.size) :
    Calls Tryd.prog 87 #[vPtr rb] w (Told w rb s i o (signP (restL s i)) valEsc) := by
  have S0 := Lib.hid (Sa.new h)
  clear h
  have hi6 : i ≤ 256 := by omega
  obtain ⟨R, hR⟩ : ∃ R, signP (restL s i) = R := ⟨_, rfl⟩
  have HR := Lib.hid hR
  rw [hR]
  clear hR
  go_enter Tryd.func87, Tryd.ntmps87
  go_wp2_with fail
  generalize w.alloc (.cells #[.int .u64 0, .int .u64 0, .int .u64 0, .int .u64 0] 24) = w1 at *
  refine (peek_any rb s i o _ S0.out.rd.1 hs).mono ?_
  rintro e w2 ⟨rfl, bx⟩
  have S1 := Lib.hid (S0.out.go bx)
  clear bx S0
  cases hr : restL s i with
  | nil =>
    have HE := Lib.hid (show signP (restL s i) = none by rw [hr]; rfl)
    clear hr
    simp only [pkI]
    go_wp2_with fail
    refine (wrong_any rb s i o _ S1.out.rd.1 hs).mono ?_
    rintro e w9 ⟨⟨E, x, rfl, hE⟩, bx⟩
    exact ⟨rfl, by rw [← HR.out, HE.out]; exact ⟨⟨E, x, rfl, hE⟩, S1.out.rd.2.put bx S1.out.rd.2.size⟩⟩
  | cons b l =>
    have hb := restL_cons hr
    have hb9 := hb.2.2
    have HBL := Lib.hid hb.2.1
    have hil := hb.1
    have hsg : signP (restL s i) = if b = 92 then escP l else if b = 91 ∨ b = 93 ∨ b = 45 ∨ b = 94 then none else some (.one b, l) := by rw [hr, signP]
    have HSG := Lib.hid hsg
    clear hr hb hsg
    simp only [pkI]
    have kn : ((b : Int) == -1) = false := by rw [beq_eq_false_iff_ne]; omega
    by_cases h92 : b = 92
    · have he : signP (restL s i) = escP (restL s (i + 1)) := by rw [HSG.out, if_pos h92, HBL.out]
      have HE := Lib.hid he
      have q92 : ((b : Int) == 92) = true := by rw [h92]; rfl
      clear he h92
      go_wp2_with fail
      refine (escape_any rb s i o _ S1.out.rd.1 hs hil).mono ?_
      intro e w3 ht
      rcases ht.elim with ⟨hn, ⟨E, x, rfl, hE⟩, ho⟩ | ⟨x, j, v, hn, rfl, hv, hij, hj, hg⟩
      · exact ⟨rfl, by rw [← HR.out, HE.out, hn]; exact ⟨⟨E, x, rfl, hE⟩, S1.out.rd.2.trans ho⟩⟩
      · have S2 := Lib.hid (S1.out.on hg)
        have HN := Lib.hid hn
        clear hg hn ht S1
        obtain rfl := hv
        obtain ⟨f, hf⟩ : ∃ f, x.set.f = f := ⟨_, rfl⟩
        obtain ⟨sv, hsv⟩ : ∃ f, x.several = f := ⟨_, rfl⟩
        have HX := Lib.hid (And.intro hf hsv)
        rw [hf, hsv]
        clear hf hsv
        unfold setV
        have r0 := S2.out.a.cell 0 (by omega)
        have r1 := S2.out.a.cell 1 (by omega)
        have r2 := S2.out.a.cell 2 (by omega)
        have r3 := S2.out.a.cell 3 (by omega)
        have z := S2.out.a.free
        go_wp2_with fail
        have S3 := S2.out.setA f
        refine bodyPost_ret (v := .tuple #[setV f, .bool sv]) (by simp [results, Tryd.results87, go_sem, setV, r0, r1, r2, r3]) rfl ?_
        rw [← HR.out, HE.out, HN.out]
        exact Told.some_ (by show _ = _; rw [HX.out.1, HX.out.2]) hij hj S3.rd
    · by_cases hbad : b = 91 ∨ b = 93 ∨ b = 45 ∨ b = 94
      · rcases hbad with hv | hv | hv | hv
        · skip
          have he : signP (restL s i) = none := by rw [HSG.out, hv]; rfl
          have HE := Lib.hid he
          have q92 : ((b : Int) == 92) = ((91 : Int) == 92) := by rw [hv]; rfl
          have q91 : ((b : Int) == 91) = ((91 : Int) == 91) := by rw [hv]; rfl
          have q93 : ((b : Int) == 93) = ((91 : Int) == 93) := by rw [hv]; rfl
          have q45 : ((b : Int) == 45) = ((91 : Int) == 45) := by rw [hv]; rfl
          have q94 : ((b : Int) == 94) = ((91 : Int) == 94) := by rw [hv]; rfl
          clear he hv
          go_wp2_with fail
          refine (wrong_any rb s i o _ S1.out.rd.1 hs).mono ?_
          rintro e w9 ⟨⟨E, x, rfl, hE⟩, bx⟩
          exact ⟨rfl, by rw [← HR.out, HE.out]; exact ⟨⟨E, x, rfl, hE⟩, S1.out.rd.2.put bx S1.out.rd.2.size⟩⟩
        · skip
          have he : signP (restL s i) = none := by rw [HSG.out, hv]; rfl
          have HE := Lib.hid he
          have q92 : ((b : Int) == 92) = ((93 : Int) == 92) := by rw [hv]; rfl
          have q91 : ((b : Int) == 91) = ((93 : Int) == 91) := by rw [hv]; rfl
          have q93 : ((b : Int) == 93) = ((93 : Int) == 93) := by rw [hv]; rfl
          have q45 : ((b : Int) == 45) = ((93 : Int) == 45) := by rw [hv]; rfl
          have q94 : ((b : Int) == 94) = ((93 : Int) == 94) := by rw [hv]; rfl
          clear he hv
          go_wp2_with fail
          refine (wrong_any rb s i o _ S1.out.rd.1 hs).mono ?_
          rintro e w9 ⟨⟨E, x, rfl, hE⟩, bx⟩
          exact ⟨rfl, by rw [← HR.out, HE.out]; exact ⟨⟨E, x, rfl, hE⟩, S1.out.rd.2.put bx S1.out.rd.2.size⟩⟩
        · skip
          have he : signP (restL s i) = none := by rw [HSG.out, hv]; rfl
          have HE := Lib.hid he
          have q92 : ((b : Int) == 92) = ((45 : Int) == 92) := by rw [hv]; rfl
          have q91 : ((b : Int) == 91) = ((45 : Int) == 91) := by rw [hv]; rfl
          have q93 : ((b : Int) == 93) = ((45 : Int) == 93) := by rw [hv]; rfl
          have q45 : ((b : Int) == 45) = ((45 : Int) == 45) := by rw [hv]; rfl
          have q94 : ((b : Int) == 94) = ((45 : Int) == 94) := by rw [hv]; rfl
          clear he hv
          go_wp2_with fail
          refine (wrong_any rb s i o _ S1.out.rd.1 hs).mono ?_
          rintro e w9 ⟨⟨E, x, rfl, hE⟩, bx⟩
          exact ⟨rfl, by rw [← HR.out, HE.out]; exact ⟨⟨E, x, rfl, hE⟩, S1.out.rd.2.put bx S1.out.rd.2.size⟩⟩
        · skip
          have he : signP (restL s i) = none := by rw [HSG.out, hv]; rfl
          have HE := Lib.hid he
          have q92 : ((b : Int) == 92) = ((94 : Int) == 92) := by rw [hv]; rfl
          have q91 : ((b : Int) == 91) = ((94 : Int) == 91) := by rw [hv]; rfl
          have q93 : ((b : Int) == 93) = ((94 : Int) == 93) := by rw [hv]; rfl
          have q45 : ((b : Int) == 45) = ((94 : Int) == 45) := by rw [hv]; rfl
          have q94 : ((b : Int) == 94) = ((94 : Int) == 94) := by rw [hv]; rfl
          clear he hv
          go_wp2_with fail
          refine (wrong_any rb s i o _ S1.out.rd.1 hs).mono ?_
          rintro e w9 ⟨⟨E, x, rfl, hE⟩, bx⟩
          exact ⟨rfl, by rw [← HR.out, HE.out]; exact ⟨⟨E, x, rfl, hE⟩, S1.out.rd.2.put bx S1.out.rd.2.size⟩⟩
      · have he : signP (restL s i) = some (.one b, l) := by rw [HSG.out, if_neg h92, if_neg hbad]
        have HE := Lib.hid he
        have q92 : ((b : Int) == 92) = false := by rw [beq_eq_false_iff_ne]; omega
        have q91 : ((b : Int) == 91) = false := by rw [beq_eq_false_iff_ne]; omega
        have q93 : ((b : Int) == 93) = false := by rw [beq_eq_false_iff_ne]; omega
        have q45 : ((b : Int) == 45) = false := by rw [beq_eq_false_iff_ne]; omega
        have q94 : ((b : Int) == 94) = false := by rw [beq_eq_false_iff_ne]; omega
        have hcv := cvi_u8 b hb9
        have hof := fun w => of_any b b w hb9 hb9
        obtain ⟨gf, hgf⟩ : ∃ f, ofS b b = f := ⟨_, rfl⟩
        rw [hgf] at hof
        have HOF := Lib.hid hof
        have HGF := Lib.hid hgf
        clear he hof hgf hbad h92
        unfold setV at HOF
        obtain ⟨⟨c0, c1, c2⟩, z0, z1, z2⟩ := S1.out.rd.1.c3
        go_upto_region 12 with (fail)
        have S2 := Lib.hid S1.out.step
        clear c0 c1 c2 z0 z1 z2 S1
        generalize w2.setCell ⟨rb, 1, none⟩ (.int .i64 ((i : Int) + 1)) = w3 at *
        go_wp2_with fail
        refine (HOF.out _).mono ?_
        rintro e w4 ⟨rfl, bx⟩
        have S3 := Lib.hid (S2.out.go bx)
        clear bx S2
        have r0 := S3.out.a.cell 0 (by omega)
        have r1 := S3.out.a.cell 1 (by omega)
        have r2 := S3.out.a.cell 2 (by omega)
        have r3 := S3.out.a.cell 3 (by omega)
        have z := S3.out.a.free
        go_wp2_with fail
        have S4 := S3.out.setA gf
        refine bodyPost_ret (v := .tuple #[setV gf, .bool false]) (by simp [results, Tryd.results87, go_sem, setV, r0, r1, r2, r3]) rfl ?_
        rw [← HR.out, HE.out, ← HBL.out]
        exact Told.some_ (by rw [← HGF.out]; rfl) (by omega) (by omega) S4.rd
end Go.Proofs.YtpknglbpbodnbaaDoor
