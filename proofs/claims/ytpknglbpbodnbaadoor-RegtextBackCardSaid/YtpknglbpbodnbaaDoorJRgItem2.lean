/-
  The walk of item. Conditions: the reader stands within its text, which has 256 bytes at most; the library's table lies as laid.
-/
import Derived.Test.YtpknglbpbodnbaaDoorJRgItem
namespace Go.Proofs.YtpknglbpbodnbaaDoor
set_option linter.unusedVariables false
set_option linter.unusedSimpArgs false
open Go.RowKit Go.Sort Cs Rg Go.ChangeShapes Go.WideShapes

theorem TabIn.only {w w' : World} {rb : Nat} {s : ByteArray} {i o : Nat} (h : TabIn w) (hr : Rd w rb s i o) (ho : Only [rb] w w') : TabIn w' := by
  have hne : 1 ≠ rb := fun e => by
    have h1 := h.2 0 (by omega)
    have h2 := hr.cell 0
    rw [e] at h1
    rw [h1] at h2
    simp at h2
  exact ⟨Nat.lt_of_lt_of_le h.1 ho.size, fun j hj => (World.cell?_of_block (a := ⟨1, j, none⟩) (ho.block _ h.1 (by simpa using hne))).trans (h.2 j hj)⟩
theorem first_one (a : Nat) (w : World) (ha : a < 256) (hT : TabIn w) : Calls Tryd.prog 30 #[setV (ofS a a)] w fun e w' => e = .returned (.int .i64 (a : Int)) ∧ Below w.heap.size w w' :=
  first_yes (ofS a a) a w (ofIn _ _) ha (by rw [has_of]; simp) (fun b hb => by rw [has_of]; exact decide_eq_false (by omega)) hT
abbrev valSet (x : S4) (v : Value) (_ : World) : Prop := v = setV x.f
theorem signP_one {l l1 : List Nat} {e : Esc} (hl : BytesL l) (h : signP l = some (e, l1)) : (∃ a, a < 256 ∧ e = .one a) ∨ e.several = true := by
  have hx : ∀ {l l1 e}, BytesL l → escP l = some (e, l1) → (∃ a, a < 256 ∧ e = .one a) ∨ e.several = true := by
    intro l l1 e hl h
    cases l with
    | nil => cases h
    | cons b l =>
      rw [escP] at h
      split at h
      · cases h; exact .inr rfl
      · split at h
        · cases h; exact .inr rfl
        · split at h
          · cases l with
            | nil => cases h
            | cons x l =>
              cases l with
              | nil => cases h
              | cons y l =>
                rw [hexP] at h
                cases h1 : hexV x with
                | none => rw [h1] at h; cases h
                | some p =>
                  cases h2 : hexV y with
                  | none => rw [h1, h2] at h; cases h
                  | some q =>
                    rw [h1, h2] at h
                    cases h
                    have := hexV_lt h1
                    have := hexV_lt h2
                    exact .inl ⟨_, by omega, rfl⟩
          · split at h
            · cases h; exact .inl ⟨b, hl b (by simp), rfl⟩
            · cases h
  cases l with
  | nil => cases h
  | cons b l =>
    rw [signP] at h
    split at h
    · exact hx (fun c hc => hl c (by simp [hc])) h
    · split at h
      · cases h
      · cases h; exact .inl ⟨b, hl b (by simp), rfl⟩
set_option maxHeartbeats 8000000 in
set_option maxRecDepth 1000000 in
theorem item_any (rb : Nat) (s : ByteArray) (i o : Nat) (w : World) (h : Rd w rb s i o) (hs : s.size ≤ 256) (hi : i ≤ s.size) (hT : TabIn w) :
    Calls Tryd.prog 81 #[vPtr rb] w (Told w rb s i o (itemP (restL s i)) valSet) := by
  have S0 := Lib.hid (Sa.new h)
  have HT := Lib.hid (And.intro hT h)
  clear h hT
  obtain ⟨R, hR⟩ : ∃ R, itemP (restL s i) = R := ⟨_, rfl⟩
  have HR := Lib.hid hR
  rw [hR]
  clear hR
  go_enter Tryd.func81, Tryd.ntmps81
  go_wp2_with fail
  generalize w.alloc (.cells #[.int .u64 0, .int .u64 0, .int .u64 0, .int .u64 0] 24) = w1 at *
  refine (sign13_any rb s i o _ S0.out.rd.1 hs hi).mono ?_
  intro e w2 ht
  rcases ht.elim with ⟨hn, ⟨E, x, rfl, hE⟩, ho⟩ | ⟨x, j, v, hn, rfl, hv, hij, hj, hg⟩
  · have HE := Lib.hid (show itemP (restL s i) = none by unfold itemP; rw [hn])
    exact ⟨rfl, by rw [← HR.out, HE.out]; exact ⟨⟨E, x, rfl, hE⟩, S0.out.rd.2.trans ho⟩⟩
  have S1 := Lib.hid (S0.out.on hg)
  have HN := Lib.hid hn
  have hone := signP_one (restL_bytes s i) hn
  clear hg hn ht S0
  obtain rfl := hv
  have hip : itemP (restL s i) = if x.several = true ∨ (restL s j).head? ≠ some 45 then some (x.set, restL s j) else match signP (restL s j).tail with
    | none => none
    | some (g, l2) => rangeP x g l2 := by
    unfold itemP
    rw [HN.out]
    simp only
    split
    · rfl
    · cases signP (restL s j).tail <;> rfl
  obtain ⟨f, hf⟩ : ∃ f, x.set.f = f := ⟨_, rfl⟩
  obtain ⟨sv, hsv⟩ : ∃ f, x.several = f := ⟨_, rfl⟩
  have HX := Lib.hid (And.intro hf hsv)
  have HIP := Lib.hid hip
  rw [hf, hsv]
  clear hf hip
  unfold setV
  go_upto_region 2 with (fail)
  obtain ⟨B, hB⟩ : ∃ B, w2.heap.size = B := ⟨_, rfl⟩
  have hb2 := (Below.refl w2.heap.size w2).alloc (Nat.le_refl _) (.cells #[.int .u64 (f 0), .int .u64 (f 1), .int .u64 (f 2), .int .u64 (f 3)] 24)
  have S2 := Lib.hid (Sv.mk (S1.out.rd.go hb2) (S1.out.a.below hb2 S1.out.la) (Four.new w2 f 24) S1.out.la (by simp) S1.out.lr)
  clear hb2 S1
  generalize w2.alloc (.cells #[.int .u64 (f 0), .int .u64 (f 1), .int .u64 (f 2), .int .u64 (f 3)] 24) = w3 at *
  rw [hB] at S2 ⊢
  clear hB
  cases sv with
  | true =>
    have HE := Lib.hid (show itemP (restL s i) = some (x.set, restL s j) by rw [HIP.out, if_pos (.inl hsv)])
    clear hone hsv
    have d0 := S2.out.b.cell 0 (by omega)
    have d1 := S2.out.b.cell 1 (by omega)
    have d2 := S2.out.b.cell 2 (by omega)
    have d3 := S2.out.b.cell 3 (by omega)
    have r0 := S2.out.a.cell 0 (by omega)
    have r1 := S2.out.a.cell 1 (by omega)
    have r2 := S2.out.a.cell 2 (by omega)
    have r3 := S2.out.a.cell 3 (by omega)
    have z := S2.out.a.free
    go_wp2_with fail
    have S4 := S2.out.setA f
    refine bodyPost_ret (v := setV f) (by simp [results, Tryd.results81, go_sem, setV, r0, r1, r2, r3]) rfl ?_
    rw [← HR.out, HE.out]
    exact Told.some_ (by rw [← HX.out.1]) hij hj S4.rd
  | false =>
  obtain ⟨a, ha, rfl⟩ : ∃ a, a < 256 ∧ x = .one a := by
    rcases hone with h1 | h1
    · exact h1
    · rw [h1] at hsv; cases hsv
  have hfa : setV f = setV (ofS a a) := by rw [← HX.out.1]; rfl
  have HFA := Lib.hid hfa
  clear hone hfa
  go_wp2_with fail
  refine (peek_any rb s j o _ S2.out.rd.1 hs).mono ?_
  rintro e w4 ⟨rfl, bx⟩
  have S3 := Lib.hid (S2.out.go bx)
  clear bx S2
  by_cases h45 : (restL s j).head? = some 45
  case neg =>
    have HE := Lib.hid (show itemP (restL s i) = some ((Esc.one a).set, restL s j) by rw [HIP.out, if_pos (.inr h45)])
    have hp : (pkI (restL s j) != 45) = true := by
      rw [bne_iff_ne]
      cases hr : restL s j with
      | nil => simp [pkI]
      | cons b l =>
        intro e
        simp only [pkI] at e
        apply h45
        rw [hr]
        have : b = 45 := by omega
        rw [this]; rfl
    obtain ⟨p, hpp⟩ : ∃ p, pkI (restL s j) = p := ⟨_, rfl⟩
    rw [hpp] at hp ⊢
    clear hpp h45
    have d0 := S3.out.b.cell 0 (by omega)
    have d1 := S3.out.b.cell 1 (by omega)
    have d2 := S3.out.b.cell 2 (by omega)
    have d3 := S3.out.b.cell 3 (by omega)
    have r0 := S3.out.a.cell 0 (by omega)
    have r1 := S3.out.a.cell 1 (by omega)
    have r2 := S3.out.a.cell 2 (by omega)
    have r3 := S3.out.a.cell 3 (by omega)
    have z := S3.out.a.free
    go_wp2_with fail
    have S4 := S3.out.setA f
    refine bodyPost_ret (v := setV f) (by simp [results, Tryd.results81, go_sem, setV, r0, r1, r2, r3]) rfl ?_
    rw [← HR.out, HE.out]
    exact Told.some_ (by rw [← HX.out.1]) hij hj S4.rd
  case pos =>
  have hp : pkI (restL s j) = 45 := by
    cases hr : restL s j with
    | nil => rw [hr] at h45; cases h45
    | cons b l => rw [hr] at h45; simp at h45; rw [h45]; rfl
  have hjl : j < s.size := by
    cases hr : restL s j with
    | nil => rw [hr] at h45; cases h45
    | cons b l => exact (restL_cons hr).1
  have htail : (restL s j).tail = restL s (j + 1) := by rw [restL_at hjl]; rfl
  have hip2 : itemP (restL s i) = match signP (restL s (j + 1)) with
    | none => none
    | some (g, l2) => rangeP (.one a) g l2 := by
    rw [HIP.out, if_neg (by simp [Esc.several, h45]), htail]
  have HIP2 := Lib.hid hip2
  rw [hp]
  have hj6 : j < 256 := by omega
  clear hp htail hip2 h45
  obtain ⟨⟨c0, c1, c2⟩, z0, z1, z2⟩ := S3.out.rd.1.c3
  go_upto_region 5 with (fail)
  have S4 := S3.out.step
  obtain ⟨jn, hjn⟩ : ∃ jn, j + 1 = jn := ⟨_, rfl⟩
  rw [hjn] at S4 HIP2
  have HJN := Lib.hid hjn
  have S4 := Lib.hid S4
  clear c0 c1 c2 z0 z1 z2 S3 hjn
  generalize w4.setCell ⟨rb, 1, none⟩ (.int .i64 ((j : Int) + 1)) = w5 at *
  obtain ⟨⟨c0, c1, c2⟩, z0, z1, z2⟩ := S4.out.rd.1.c3
  go_wp2_with fail
  clear c0 c1 c2 z0 z1 z2
  refine (sign13_any rb s jn o _ S4.out.rd.1 hs (by have := HJN.out; omega)).mono ?_
  intro e w6 ht
  rcases ht.elim with ⟨hn, ⟨E, x, rfl, hE⟩, ho⟩ | ⟨y, j2, v, hn, rfl, hv, hij2, hj2, hg⟩
  · have HE := Lib.hid (show itemP (restL s i) = none by rw [HIP2.out, hn])
    exact ⟨rfl, by rw [← HR.out, HE.out]; exact ⟨⟨E, x, rfl, hE⟩, S4.out.rd.2.trans ho⟩⟩
  have S5 := Lib.hid (S4.out.on hg)
  have HN2 := Lib.hid hn
  have hone2 := signP_one (restL_bytes s jn) hn
  clear hg hn ht S4
  obtain rfl := hv
  obtain ⟨f2, hf2⟩ : ∃ f, y.set.f = f := ⟨_, rfl⟩
  obtain ⟨sv2, hsv2⟩ : ∃ f, y.several = f := ⟨_, rfl⟩
  have HY := Lib.hid (And.intro hf2 hsv2)
  rw [hf2, hsv2]
  clear hf2
  unfold setV
  go_upto_region 7 with (fail)
  obtain ⟨C, hC⟩ : ∃ B, w6.heap.size = B := ⟨_, rfl⟩
  have hb2 := (Below.refl w6.heap.size w6).alloc (Nat.le_refl _) (.cells #[.int .u64 (f2 0), .int .u64 (f2 1), .int .u64 (f2 2), .int .u64 (f2 3)] 24)
  have hcn := Four.new w6 f2 24
  have hcs : w6.heap.size < (w6.alloc (.cells #[.int .u64 (f2 0), .int .u64 (f2 1), .int .u64 (f2 2), .int .u64 (f2 3)] 24)).heap.size := by simp
  have hcb := S5.out.lb
  have S6 := Lib.hid (And.intro (S5.out.go hb2) (And.intro hcn (And.intro hcs hcb)))
  clear hb2 S5 hcn hcs hcb
  generalize w6.alloc (.cells #[.int .u64 (f2 0), .int .u64 (f2 1), .int .u64 (f2 2), .int .u64 (f2 3)] 24) = w7 at *
  rw [hC] at S6 ⊢
  clear hC
  have hT7 := HT.out.1.only HT.out.2 S6.out.1.rd.2
  have T7 : ∀ d os, TabIn (Sort.grow (redrawn w7 d) os) := fun d os => hT7.below (below_regrown w7 d os)
  have HT7 := Lib.hid T7
  clear hT7 T7
  have b0 := reg1 S6.out.1.b 0 (by omega) (S6.out.1.lb)
  have b1 := reg1 S6.out.1.b 1 (by omega) (S6.out.1.lb)
  have b2 := reg1 S6.out.1.b 2 (by omega) (S6.out.1.lb)
  have b3 := reg1 S6.out.1.b 3 (by omega) (S6.out.1.lb)
  have c0 := reg1 S6.out.2.1 0 (by omega) (S6.out.2.2.1)
  have c1 := reg1 S6.out.2.1 1 (by omega) (S6.out.2.2.1)
  have c2 := reg1 S6.out.2.1 2 (by omega) (S6.out.2.2.1)
  have c3 := reg1 S6.out.2.1 3 (by omega) (S6.out.2.2.1)
  cases sv2 with
  | true =>
    have HE := Lib.hid (show itemP (restL s i) = none by
      rw [HIP2.out, HN2.out]
      cases y with
      | one q => cases hsv2
      | many q => rfl)
    clear hone2 hsv2
    go_wp2_with fail
    refine wp_region_quiet_below (by kernel_rfl) (by kernel_rfl) ?_
    repeat (go_big_quiet_step (fail))
    refine wpQuiet_nil ?_
    intro _ hw'
    obtain ⟨⟨dq, osq⟩, hw''⟩ := hw'
    subst hw''
    have bb : Below w7.heap.size w7 (Sort.grow (redrawn w7 dq) osq) := below_regrown w7 dq osq
    have S7 := Lib.hid (S6.out.1.go bb)
    clear bb b0 b1 b2 b3 c0 c1 c2 c3
    generalize Sort.grow (redrawn w7 dq) osq = w8 at *
    go_wp2_with fail
    refine (fail_any 2 _ _ (by omega)).mono ?_
    rintro e w9 ⟨⟨E, x, rfl, hE⟩, bx⟩
    exact ⟨rfl, by rw [← HR.out, HE.out]; exact ⟨⟨E, x, rfl, hE⟩, S7.out.rd.2.put bx S7.out.rd.2.size⟩⟩
  | false =>
  obtain ⟨b, hb, rfl⟩ : ∃ b, b < 256 ∧ y = .one b := by
    rcases hone2 with h1 | h1
    · exact h1
    · rw [h1] at hsv2; cases hsv2
  have hfb : setV f2 = setV (ofS b b) := by rw [← HY.out.1]; rfl
  have hff1 : ∀ d os, Calls Tryd.prog 30 #[setV f] (Sort.grow (redrawn w7 d) os) fun e w' => e = .returned (.int .i64 (a : Int)) ∧ Below (Sort.grow (redrawn w7 d) os).heap.size (Sort.grow (redrawn w7 d) os) w' := fun d os => by rw [HFA.out]; exact first_one a _ ha (HT7.out _ _)
  have hff2 : ∀ d os, Calls Tryd.prog 30 #[setV f2] (Sort.grow (redrawn w7 d) os) fun e w' => e = .returned (.int .i64 (b : Int)) ∧ Below (Sort.grow (redrawn w7 d) os).heap.size (Sort.grow (redrawn w7 d) os) w' := fun d os => by rw [hfb]; exact first_one b _ hb (HT7.out _ _)
  have hrange : itemP (restL s i) = if b < a then none else some (span4 a b, restL s j2) := by rw [HIP2.out, HN2.out]; rfl
  have HRG := Lib.hid hrange
  have HF1 := Lib.hid hff1
  have HF2 := Lib.hid hff2
  have HFB := Lib.hid hfb
  clear hone2 hfb hff1 hff2 hrange
  unfold setV at HF1 HF2
  by_cases hlt : b < a
  · have k1 : decide ((b : Int) < (a : Int)) = true := decide_eq_true (by omega)
    have k1' : decide (b < a) = true := decide_eq_true hlt
    have HE := Lib.hid (show itemP (restL s i) = none by rw [HRG.out, if_pos hlt])
    clear hlt
    go_wp2_with fail
    refine wp_region_quiet_below (by kernel_rfl) (by kernel_rfl) ?_
    repeat (go_big_quiet_step (fail))
    go_big_quiet_step ((go_at_call 30; exact Calls.regrown_of (HF2.out _ _)))
    repeat (go_big_quiet_step (fail))
    go_big_quiet_step ((go_at_call 30; exact Calls.regrown_of (HF1.out _ _)))
    repeat (go_big_quiet_step (fail))
    refine wpQuiet_nil ?_
    intro _ hw'
    obtain ⟨⟨dq, osq⟩, hw''⟩ := hw'
    subst hw''
    have bb : Below w7.heap.size w7 (Sort.grow (redrawn w7 dq) osq) := below_regrown w7 dq osq
    have S7 := Lib.hid (And.intro (S6.out.1.go bb) (And.intro (S6.out.2.1.below bb S6.out.2.2.1) (And.intro (Nat.lt_of_lt_of_le S6.out.2.2.1 bb.size) (HT7.out dq osq))))
    clear bb b0 b1 b2 b3 c0 c1 c2 c3 HF1 HF2 S6 HT7
    generalize Sort.grow (redrawn w7 dq) osq = w8 at *
    go_wp2_with fail
    refine (fail_any 2 _ _ (by omega)).mono ?_
    rintro e w9 ⟨⟨E, x, rfl, hE⟩, bx⟩
    exact ⟨rfl, by rw [← HR.out, HE.out]; exact ⟨⟨E, x, rfl, hE⟩, S7.out.1.rd.2.put bx S7.out.1.rd.2.size⟩⟩
  · have k1 : decide ((b : Int) < (a : Int)) = false := decide_eq_false (by omega)
    have k1' : decide (b < a) = false := decide_eq_false hlt
    have HE := Lib.hid (show itemP (restL s i) = some (span4 a b, restL s j2) by rw [HRG.out, if_neg hlt])
    clear hlt
    go_wp2_with fail
    refine wp_region_quiet_below (by kernel_rfl) (by kernel_rfl) ?_
    repeat (go_big_quiet_step (fail))
    go_big_quiet_step ((go_at_call 30; exact Calls.regrown_of (HF2.out _ _)))
    repeat (go_big_quiet_step (fail))
    go_big_quiet_step ((go_at_call 30; exact Calls.regrown_of (HF1.out _ _)))
    repeat (go_big_quiet_step (fail))
    refine wpQuiet_nil ?_
    intro _ hw'
    obtain ⟨⟨dq, osq⟩, hw''⟩ := hw'
    subst hw''
    have bb : Below w7.heap.size w7 (Sort.grow (redrawn w7 dq) osq) := below_regrown w7 dq osq
    have S7 := Lib.hid (And.intro (S6.out.1.go bb) (And.intro (S6.out.2.1.below bb S6.out.2.2.1) (And.intro (Nat.lt_of_lt_of_le S6.out.2.2.1 bb.size) (HT7.out dq osq))))
    clear bb b0 b1 b2 b3 c0 c1 c2 c3 HF1 HF2 S6 HT7
    generalize Sort.grow (redrawn w7 dq) osq = w8 at *
    have T8 : ∀ d os, TabIn (Sort.grow (redrawn w8 d) os) := fun d os => S7.out.2.2.2.below (below_regrown w8 d os)
    have hff1 : ∀ d os, Calls Tryd.prog 30 #[setV f] (Sort.grow (redrawn w8 d) os) fun e w' => e = .returned (.int .i64 (a : Int)) ∧ Below (Sort.grow (redrawn w8 d) os).heap.size (Sort.grow (redrawn w8 d) os) w' := fun d os => by rw [HFA.out]; exact first_one a _ ha (T8 _ _)
    have hff2 : ∀ d os, Calls Tryd.prog 30 #[setV f2] (Sort.grow (redrawn w8 d) os) fun e w' => e = .returned (.int .i64 (b : Int)) ∧ Below (Sort.grow (redrawn w8 d) os).heap.size (Sort.grow (redrawn w8 d) os) w' := fun d os => by rw [HFB.out]; exact first_one b _ hb (T8 _ _)
    have hcva := cvi_u8 a ha
    have hcvb := cvi_u8 b hb
    have hof := fun w => of_any a b w ha hb
    obtain ⟨gf, hgf⟩ : ∃ f, ofS a b = f := ⟨_, rfl⟩
    rw [hgf] at hof
    have HOF := Lib.hid hof
    have HGF := Lib.hid hgf
    have HF1 := Lib.hid hff1
    have HF2 := Lib.hid hff2
    clear hof hgf hff1 hff2 T8
    unfold setV at HOF HF1 HF2
    have b0 := reg1 S7.out.1.b 0 (by omega) (S7.out.1.lb)
    have b1 := reg1 S7.out.1.b 1 (by omega) (S7.out.1.lb)
    have b2 := reg1 S7.out.1.b 2 (by omega) (S7.out.1.lb)
    have b3 := reg1 S7.out.1.b 3 (by omega) (S7.out.1.lb)
    have c0 := reg1 S7.out.2.1 0 (by omega) (S7.out.2.2.1)
    have c1 := reg1 S7.out.2.1 1 (by omega) (S7.out.2.2.1)
    have c2 := reg1 S7.out.2.1 2 (by omega) (S7.out.2.2.1)
    have c3 := reg1 S7.out.2.1 3 (by omega) (S7.out.2.2.1)
    go_wp2_with fail
    refine wp_region_below_tail 7 (by kernel_rfl) (by kernel_rfl) ?_
    show wpQuiet _ _ _ _ (_ :: _) _
    go_big_quiet_step (fail)
    show wpQuiet _ _ _ _ (_ :: _) _
    go_big_quiet_step ((go_at_call 30; exact Calls.regrown_of (HF1.out _ _)))
    iterate 2 (show wpQuiet _ _ _ _ (_ :: _) _; go_big_quiet_step (fail))
    show wpQuiet _ _ _ _ (_ :: _) _
    go_big_quiet_step ((go_at_call 30; exact Calls.regrown_of (HF2.out _ _)))
    show wpQuiet _ _ _ _ (_ :: _) _
    go_big_quiet_step (fail)
    show wpQuiet _ _ _ _ (_ :: _) _
    go_big_quiet_step ((go_at_call 27; exact Calls.regrown_of (HOF.out _)))
    refine wpQuiet_nil ?_
    intro w9 hw'
    obtain ⟨⟨dq2, osq2⟩, hw''⟩ := hw'
    have bb : Below w8.heap.size w8 w9 := by rw [hw'']; exact below_regrown w8 dq2 osq2
    have S8 := Lib.hid (S7.out.1.go bb)
    clear hw'' bb b0 b1 b2 b3 c0 c1 c2 c3 HF1 HF2
    show wpList _ _ _ (_ :: _) _ _
    have r0 := S8.out.a.cell 0 (by omega)
    have r1 := S8.out.a.cell 1 (by omega)
    have r2 := S8.out.a.cell 2 (by omega)
    have r3 := S8.out.a.cell 3 (by omega)
    have z := S8.out.a.free
    go_wp2_with fail
    have S9 := S8.out.setA gf
    refine bodyPost_ret (v := setV gf) (by simp [results, Tryd.results81, go_sem, setV, r0, r1, r2, r3]) rfl ?_
    rw [← HR.out, HE.out]
    exact Told.some_ (by rw [← HGF.out]; rfl) (by have := HJN.out; omega) hj2 S9.rd
end Go.Proofs.YtpknglbpbodnbaaDoor
