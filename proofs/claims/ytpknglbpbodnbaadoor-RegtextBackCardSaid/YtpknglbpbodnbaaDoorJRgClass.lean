/-
  The walk of class. Conditions: the reader stands within its text, which has 256 bytes at most; the library's table lies as laid.
-/
import Derived.Test.YtpknglbpbodnbaaDoorJRgItem2
namespace Go.Proofs.YtpknglbpbodnbaaDoor
set_option linter.unusedVariables false
set_option linter.unusedSimpArgs false
open Go.RowKit Go.Sort Cs Rg Go.ChangeShapes Go.WideShapes

theorem wp_region_anyW {P : Program} {ops : Array Oper} {Q : Exit → Act → World → Prop} {id : Nat} {a : Act} {w : World} (hm : P.follows .mixedOrders = true)
    (h : ∀ W, Below w.heap.size w W → wpAny P .any ops Q ops.size (Array.replicate ops.size false) a W) : (Code.region id ops true).wp P Q a w :=
  wp_region_any hm (h { w with drawn := w.drawn + 1 } ⟨rfl, rfl, rfl, Nat.le_refl _, fun _ _ => rfl⟩)
theorem Sv.eqB {w w' : World} {rb : Nat} {s : ByteArray} {i o B : Nat} {f g g' : Nat → Int} (h : Sv w w' rb s i o B f g) (e : ∀ k, k < 4 → g k = g' k) : Sv w w' rb s i o B f g' := ⟨h.rd, h.a, h.b.to e, h.la, h.lb, h.lr⟩
theorem Esc.in_ {l l1 : List Nat} {e : Esc} (hl : BytesL l) (h : signP l = some (e, l1)) : SetIn e.set.f := by
  have hx : ∀ {l l1 e}, escP l = some (e, l1) → SetIn (Esc.set e).f := by
    intro l l1 e h
    cases l with
    | nil => cases h
    | cons b l =>
      rw [escP] at h
      split at h
      · cases h; exact span4_in _ _
      · split at h
        · cases h; exact word4_in
        · split at h
          · cases l with
            | nil => cases h
            | cons x l =>
              cases l with
              | nil => cases h
              | cons y l =>
                rw [hexP] at h
                cases h1 : hexV x with
                | none => rw [h1] at h; cases h
                | some p =>
                  cases h2 : hexV y with
                  | none => rw [h1, h2] at h; cases h
                  | some q => rw [h1, h2] at h; cases h; exact one4_in _
          · split at h
            · cases h; exact one4_in _
            · cases h
  cases l with
  | nil => cases h
  | cons b l =>
    rw [signP] at h
    split at h
    · exact hx h
    · split at h
      · cases h
      · cases h; exact one4_in _
theorem itemP_in {l l1 : List Nat} {x : S4} (hl : BytesL l) (h : itemP l = some (x, l1)) : SetIn x.f := by
  unfold itemP at h
  cases h1 : signP l with
  | none => rw [h1] at h; cases h
  | some r =>
    obtain ⟨e, l2⟩ := r
    rw [h1] at h
    simp only at h
    split at h
    · cases h; exact Esc.in_ hl h1
    · cases h2 : signP l2.tail with
      | none => rw [h2] at h; cases h
      | some r =>
        obtain ⟨g, l3⟩ := r
        rw [h2] at h
        simp only at h
        cases e <;> cases g <;> simp only [rangeP] at h
        · split at h
          · cases h
          · cases h; exact span4_in _ _
        all_goals cases h
theorem item_far {s : ByteArray} {j j2 : Nat} {x : S4} (h : itemP (restL s j) = some (x, restL s j2)) : s.size - j2 < s.size - j := by
  obtain ⟨a, e1, e2⟩ := itemP_tail h
  have := congrArg List.length e1
  rw [List.length_append, restL_len, restL_len] at this
  omega
/-- what the loop still comes to -/
def KL (n : Nat) (fst : Bool) (s : S4) (l : List Nat) : Option (S4 × List Nat) := if fst = false ∧ l.head? = some 93 then some (s, l.tail) else classL n s l
set_option maxHeartbeats 8000000 in
set_option maxRecDepth 1000000 in
theorem class_any (rb : Nat) (s : ByteArray) (i o : Nat) (w : World) (h : Rd w rb s i o) (hs : s.size ≤ 256) (hi : i ≤ s.size) (hT : TabIn w) :
    Calls Tryd.prog 73 #[vPtr rb] w (Told w rb s i o (classP (restL s i)) valSet) := by
  have HT := Lib.hid (And.intro hT h)
  have hb0 := (Below.refl w.heap.size w).alloc (Nat.le_refl _) (.cells #[.int .u64 0, .int .u64 0, .int .u64 0, .int .u64 0] 24)
  have hb1 := (Below.refl (w.alloc (.cells #[.int .u64 0, .int .u64 0, .int .u64 0, .int .u64 0] 24)).heap.size (w.alloc (.cells #[.int .u64 0, .int .u64 0, .int .u64 0, .int .u64 0] 24))).alloc (Nat.le_refl _) (.cells #[.int .u64 0, .int .u64 0, .int .u64 0, .int .u64 0] 24)
  have f2 := Four.zero (w.alloc (.cells #[.int .u64 0, .int .u64 0, .int .u64 0, .int .u64 0] 24)) 24
  simp only [World.size_alloc] at f2
  have S0 := Lib.hid (Sv.mk (((RdGo.refl h).go hb0).go hb1) ((Four.zero w 24).below hb1 (by simp)) f2 (by omega) (by simp) h.lt)
  clear h hT hb0 hb1 f2
  obtain ⟨R, hR⟩ : ∃ R, classP (restL s i) = R := ⟨_, rfl⟩
  have HR := Lib.hid hR
  rw [hR]
  clear hR
  go_enter Tryd.func73, Tryd.ntmps73
  go_wp2_with fail
  generalize (w.alloc (.cells #[.int .u64 0, .int .u64 0, .int .u64 0, .int .u64 0] 24)).alloc (.cells #[.int .u64 0, .int .u64 0, .int .u64 0, .int .u64 0] 24) = w1 at *
  obtain ⟨B, hB⟩ : ∃ B, w.heap.size + 1 = B := ⟨_, rfl⟩
  rw [hB] at S0 ⊢
  clear hB
  refine (peek_any rb s i o _ S0.out.rd.1 hs).mono ?_
  rintro e w2 ⟨rfl, bx⟩
  have S1 := Lib.hid (S0.out.go bx)
  clear bx S0
  by_cases h94 : (restL s i).head? = some 94
  · have hp : pkI (restL s i) = 94 := by
      cases hr : restL s i with
      | nil => rw [hr] at h94; cases h94
      | cons b l => rw [hr] at h94; simp at h94; rw [h94]; rfl
    have hil : i < s.size := by
      cases hr : restL s i with
      | nil => rw [hr] at h94; cases h94
      | cons b l => exact (restL_cons hr).1
    have hi6 : i < 256 := by omega
    have hcp : classP (restL s i) = (classL ((restL s i).length + 1) none4 (restL s (i + 1))).map fun x => (not4 x.1, x.2) := by
      unfold classP
      rw [if_pos h94]
      congr 2
      rw [restL_at hil]; rfl
    have HCP := Lib.hid hcp
    rw [hp]
    clear hcp hp h94
    obtain ⟨⟨c0, c1, c2⟩, z0, z1, z2⟩ := S1.out.rd.1.c3
    go_upto_region 5 with (fail)
    have S2 := S1.out.step
    obtain ⟨i0, hi1⟩ : ∃ j, i + 1 = j := ⟨_, rfl⟩
    rw [hi1] at S2 HCP
    have hi0 : i0 ≤ s.size := by omega
    have hii : i ≤ i0 := by omega
    have S2 := Lib.hid S2
    clear hi1 c0 c1 c2 z0 z1 z2 S1
    generalize w2.setCell ⟨rb, 1, none⟩ (.int .i64 ((i : Int) + 1)) = w3 at *
    go_wp2_with fail
    go_loopw [5] (fun c wr => ∃ (st : S4) (j : Nat) (fst : Bool) (k : Nat), c = .bool fst ∧ i0 ≤ j ∧ j ≤ s.size ∧ Hid (SetIn st.f ∧ KL k fst st (restL s j) = classL ((restL s i).length + 1) none4 (restL s i0) ∧ s.size - j < k) ∧ Hid (Sv w wr rb s j o B noneS st.f)) (fun _ wr => s.size - idxOf rb wr)
    case atStart => exact ⟨none4, i0, true, (restL s i).length + 1, rfl, Nat.le_refl _, hi0, Lib.hid ⟨none4_in, by unfold KL; rw [if_neg (by simp)], by rw [restL_len]; omega⟩, Lib.hid (S2.out.eqB fun kk hk => (s4_f noneS hk).symm)⟩
    case round =>
      clear S2
      obtain ⟨st, j, fst, k, rfl, hij, hj, Y, S3⟩ := hrel
      have HIDX := Lib.hid S3.out.rd.1.idx
      obtain ⟨f, hf⟩ : ∃ f, st.f = f := ⟨_, rfl⟩
      have HSF := Lib.hid (And.intro (show SetIn f by rw [← hf]; exact Y.out.1) (And.intro Y.out.1 hf))
      rw [hf] at S3
      clear hf
      obtain ⟨k, rfl⟩ : ∃ k', k = k' + 1 := ⟨k - 1, by have := Y.out.2.2; omega⟩
      by_cases hend : fst = false ∧ (restL s j).head? = some 93
      · obtain ⟨rfl, h93⟩ := hend
        have hjl : j < s.size := by
          cases hr : restL s j with
          | nil => rw [hr] at h93; cases h93
          | cons b l => exact (restL_cons hr).1
        have hp : pkI (restL s j) = 93 := by
          cases hr : restL s j with
          | nil => rw [hr] at h93; cases h93
          | cons b l => rw [hr] at h93; simp at h93; rw [h93]; rfl
        have hcl : classL ((restL s i).length + 1) none4 (restL s i0) = some (st, restL s (j + 1)) := by
          rw [← Y.out.2.1]
          unfold KL
          rw [if_pos ⟨rfl, h93⟩, restL_at hjl]
          rfl
        have HCL := Lib.hid hcl
        have hj6 : j < 256 := by omega
        clear hcl h93
        go_wp2_with fail
        refine (peek_any rb s j o _ S3.out.rd.1 hs).mono ?_
        rintro e w5 ⟨rfl, bx⟩
        rw [hp]
        have S4 := Lib.hid (S3.out.go bx)
        clear bx S3 hp
        obtain ⟨⟨c0, c1, c2⟩, z0, z1, z2⟩ := S4.out.rd.1.c3
        go_upto_region 10 with (fail)
        have S5 := Lib.hid S4.out.step
        clear S4 c0 c1 c2 z0 z1 z2
        generalize w5.setCell ⟨rb, 1, none⟩ (.int .i64 ((j : Int) + 1)) = w6 at *
        have b0 := S5.out.b.cell 0 (by omega)
        have b1 := S5.out.b.cell 1 (by omega)
        have b2 := S5.out.b.cell 2 (by omega)
        have b3 := S5.out.b.cell 3 (by omega)
        go_wp2_with fail
        refine (not_any f _ HSF.out.1).mono ?_
        rintro e w7 ⟨rfl, bx⟩
        have S6 := Lib.hid (S5.out.go bx)
        clear bx S5 b0 b1 b2 b3
        obtain ⟨fn, hfn⟩ : ∃ g, notS f = g := ⟨_, rfl⟩
        rw [hfn]
        have HFN := Lib.hid hfn
        clear hfn
        unfold setV
        have r0 := S6.out.a.cell 0 (by omega)
        have r1 := S6.out.a.cell 1 (by omega)
        have r2 := S6.out.a.cell 2 (by omega)
        have r3 := S6.out.a.cell 3 (by omega)
        have z := S6.out.a.free
        go_wp2_with fail
        have S8 := S6.out.setA fn
        refine bodyPost_ret (v := setV fn) (by simp [results, Tryd.results73, go_sem, setV, r0, r1, r2, r3]) rfl ?_
        rw [← HR.out, HCP.out, HCL.out]
        exact Told.some_ (x := not4 st) (by rw [← HFN.out, ← HSF.out.2.2]; rfl) (by omega) (by omega) S8.rd
      · have NSTEP := Lib.hid (show ∀ x l1, itemP (restL s j) = some (x, l1) → KL k false (or4 st x) l1 = classL ((restL s i).length + 1) none4 (restL s i0) from fun x l1 hx => by
          rw [← Y.out.2.1]
          unfold KL
          rw [if_neg hend, classL, hx]
          simp)
        have hnf : itemP (restL s j) = none → R = none := fun hx => by
          rw [← HR.out, HCP.out, ← Y.out.2.1]
          unfold KL
          rw [if_neg hend, classL, hx]
          try rfl
        have NFAIL := Lib.hid hnf
        clear hnf
        cases fst with
        | true =>
          go_wp2_with fail
          refine wp_region_anyW (by kernel_rfl) ?_
          intro V bv
          have S6 := Lib.hid (S3.out.go bv)
          clear bv S3
          have a0 := S6.out.b.cell 0 (by omega)
          have a1 := S6.out.b.cell 1 (by omega)
          have a2 := S6.out.b.cell 2 (by omega)
          have a3 := S6.out.b.cell 3 (by omega)
          show wpAny _ _ _ _ 5 _ _ _
          refine wpAny_ready (rs := [0, 1]) (by kernel_rfl) (by simp) (AllReady.cons rfl ?_ (AllReady.cons rfl ?_ AllReady.nil))
          · skip
            intro Kx hKx
            go_simp
            refine hKx _ _ ?_
            clear hKx Kx
            clear a0 a1 a2 a3
            refine wpAny_ready (rs := [1]) (by kernel_rfl) (by simp) (AllReady.cons rfl ?_ AllReady.nil)
            intro Kx hKx
            go_simp
            refine hKx _ _ ?_
            clear hKx Kx
            refine wpAny_ready (rs := [2]) (by kernel_rfl) (by simp) (AllReady.cons rfl ?_ AllReady.nil)
            intro Kx hKx
            go_simp
            refine (item_any rb s j o _ S6.out.rd.1 hs hj (HT.out.1.only HT.out.2 S6.out.rd.2)).mono ?_
            intro e v1 ht
            rcases ht.elim with ⟨hn, ⟨E, x, rfl, hE⟩, ho⟩ | ⟨x, j2, v, hn, rfl, hv, hij2, hj2, hg⟩
            · have HE := Lib.hid (NFAIL.out hn)
              exact ⟨rfl, by rw [HE.out]; exact ⟨⟨E, x, rfl, hE⟩, S6.out.rd.2.trans ho⟩⟩
            refine hKx _ _ ?_
            clear hKx Kx
            have S7 := Lib.hid (S6.out.on hg)
            have NX := Lib.hid (And.intro hn (And.intro (itemP_in (restL_bytes s j) hn) (item_far hn)))
            clear hg hn ht
            obtain rfl := hv
            obtain ⟨fx, hfx⟩ : ∃ f, x.f = f := ⟨_, rfl⟩
            have HFX := Lib.hid hfx
            rw [hfx]
            clear hfx
            refine wpAny_ready (rs := [3]) (by kernel_rfl) (by simp) (AllReady.cons rfl ?_ AllReady.nil)
            intro Kx hKx
            go_simp
            have hor := fun w => or_any f fx w HSF.out.1 (by rw [← HFX.out]; exact NX.out.2.1)
            obtain ⟨fo, hfo⟩ : ∃ g, orS f fx = g := ⟨_, rfl⟩
            rw [hfo] at hor
            have HOR := Lib.hid hor
            have HFO := Lib.hid hfo
            clear hor hfo
            unfold setV at HOR
            refine (HOR.out _).mono ?_
            rintro e v2 ⟨rfl, bx⟩
            refine hKx _ _ ?_
            clear hKx Kx
            have S8 := Lib.hid (S7.out.go bx)
            clear bx S7
            have r0 := S8.out.b.cell 0 (by omega)
            have r1 := S8.out.b.cell 1 (by omega)
            have r2 := S8.out.b.cell 2 (by omega)
            have r3 := S8.out.b.cell 3 (by omega)
            have z := S8.out.b.free
            refine wpAny_ready (rs := [4]) (by kernel_rfl) (by simp) (AllReady.cons rfl ?_ AllReady.nil)
            intro Kx hKx
            go_simp
            refine hKx _ _ ?_
            clear hKx Kx
            have S9 := S8.out.setB fo
            refine wpAny_done (by kernel_rfl) ?_ _
            go_wp2_with fail
            go_roundw
            case rel => exact ⟨or4 st x, j2, false, k, rfl, by omega, hj2, Lib.hid ⟨or4_in HSF.out.2.1 NX.out.2.1, NSTEP.out x (restL s j2) NX.out.1, by have := NX.out.2.2; have := Y.out.2.2; omega⟩, Lib.hid (S9.eqB fun kk hk => by rw [← HFO.out, ← HSF.out.2.2, ← HFX.out]; exact (s4_f _ hk).symm)⟩
            case measure => rw [S9.rd.1.idx, HIDX.out]; have := NX.out.2.2; omega
          · skip
            intro Kx hKx
            go_simp
            refine hKx _ _ ?_
            clear hKx Kx
            refine wpAny_ready (rs := [0, 2]) (by kernel_rfl) (by simp) (AllReady.cons rfl ?_ (AllReady.cons rfl ?_ AllReady.nil))
            · skip
              intro Kx hKx
              go_simp
              refine hKx _ _ ?_
              clear hKx Kx
              clear a0 a1 a2 a3
              refine wpAny_ready (rs := [2]) (by kernel_rfl) (by simp) (AllReady.cons rfl ?_ AllReady.nil)
              intro Kx hKx
              go_simp
              refine (item_any rb s j o _ S6.out.rd.1 hs hj (HT.out.1.only HT.out.2 S6.out.rd.2)).mono ?_
              intro e v1 ht
              rcases ht.elim with ⟨hn, ⟨E, x, rfl, hE⟩, ho⟩ | ⟨x, j2, v, hn, rfl, hv, hij2, hj2, hg⟩
              · have HE := Lib.hid (NFAIL.out hn)
                exact ⟨rfl, by rw [HE.out]; exact ⟨⟨E, x, rfl, hE⟩, S6.out.rd.2.trans ho⟩⟩
              refine hKx _ _ ?_
              clear hKx Kx
              have S7 := Lib.hid (S6.out.on hg)
              have NX := Lib.hid (And.intro hn (And.intro (itemP_in (restL_bytes s j) hn) (item_far hn)))
              clear hg hn ht
              obtain rfl := hv
              obtain ⟨fx, hfx⟩ : ∃ f, x.f = f := ⟨_, rfl⟩
              have HFX := Lib.hid hfx
              rw [hfx]
              clear hfx
              refine wpAny_ready (rs := [3]) (by kernel_rfl) (by simp) (AllReady.cons rfl ?_ AllReady.nil)
              intro Kx hKx
              go_simp
              have hor := fun w => or_any f fx w HSF.out.1 (by rw [← HFX.out]; exact NX.out.2.1)
              obtain ⟨fo, hfo⟩ : ∃ g, orS f fx = g := ⟨_, rfl⟩
              rw [hfo] at hor
              have HOR := Lib.hid hor
              have HFO := Lib.hid hfo
              clear hor hfo
              unfold setV at HOR
              refine (HOR.out _).mono ?_
              rintro e v2 ⟨rfl, bx⟩
              refine hKx _ _ ?_
              clear hKx Kx
              have S8 := Lib.hid (S7.out.go bx)
              clear bx S7
              have r0 := S8.out.b.cell 0 (by omega)
              have r1 := S8.out.b.cell 1 (by omega)
              have r2 := S8.out.b.cell 2 (by omega)
              have r3 := S8.out.b.cell 3 (by omega)
              have z := S8.out.b.free
              refine wpAny_ready (rs := [4]) (by kernel_rfl) (by simp) (AllReady.cons rfl ?_ AllReady.nil)
              intro Kx hKx
              go_simp
              refine hKx _ _ ?_
              clear hKx Kx
              have S9 := S8.out.setB fo
              refine wpAny_done (by kernel_rfl) ?_ _
              go_wp2_with fail
              go_roundw
              case rel => exact ⟨or4 st x, j2, false, k, rfl, by omega, hj2, Lib.hid ⟨or4_in HSF.out.2.1 NX.out.2.1, NSTEP.out x (restL s j2) NX.out.1, by have := NX.out.2.2; have := Y.out.2.2; omega⟩, Lib.hid (S9.eqB fun kk hk => by rw [← HFO.out, ← HSF.out.2.2, ← HFX.out]; exact (s4_f _ hk).symm)⟩
              case measure => rw [S9.rd.1.idx, HIDX.out]; have := NX.out.2.2; omega
            · clear a0 a1 a2 a3
              intro Kx hKx
              go_simp
              refine (item_any rb s j o _ S6.out.rd.1 hs hj (HT.out.1.only HT.out.2 S6.out.rd.2)).mono ?_
              intro e v1 ht
              rcases ht.elim with ⟨hn, ⟨E, x, rfl, hE⟩, ho⟩ | ⟨x, j2, v, hn, rfl, hv, hij2, hj2, hg⟩
              · have HE := Lib.hid (NFAIL.out hn)
                exact ⟨rfl, by rw [HE.out]; exact ⟨⟨E, x, rfl, hE⟩, S6.out.rd.2.trans ho⟩⟩
              refine hKx _ _ ?_
              clear hKx Kx
              have S7 := Lib.hid (S6.out.on hg)
              have NX := Lib.hid (And.intro hn (And.intro (itemP_in (restL_bytes s j) hn) (item_far hn)))
              clear hg hn ht
              obtain rfl := hv
              obtain ⟨fx, hfx⟩ : ∃ f, x.f = f := ⟨_, rfl⟩
              have HFX := Lib.hid hfx
              rw [hfx]
              clear hfx
              have a0 := S7.out.b.cell 0 (by omega)
              have a1 := S7.out.b.cell 1 (by omega)
              have a2 := S7.out.b.cell 2 (by omega)
              have a3 := S7.out.b.cell 3 (by omega)
              refine wpAny_ready (rs := [0]) (by kernel_rfl) (by simp) (AllReady.cons rfl ?_ AllReady.nil)
              intro Kx hKx
              go_simp
              refine hKx _ _ ?_
              clear hKx Kx
              clear a0 a1 a2 a3
              refine wpAny_ready (rs := [3]) (by kernel_rfl) (by simp) (AllReady.cons rfl ?_ AllReady.nil)
              intro Kx hKx
              go_simp
              have hor := fun w => or_any f fx w HSF.out.1 (by rw [← HFX.out]; exact NX.out.2.1)
              obtain ⟨fo, hfo⟩ : ∃ g, orS f fx = g := ⟨_, rfl⟩
              rw [hfo] at hor
              have HOR := Lib.hid hor
              have HFO := Lib.hid hfo
              clear hor hfo
              unfold setV at HOR
              refine (HOR.out _).mono ?_
              rintro e v2 ⟨rfl, bx⟩
              refine hKx _ _ ?_
              clear hKx Kx
              have S8 := Lib.hid (S7.out.go bx)
              clear bx S7
              have r0 := S8.out.b.cell 0 (by omega)
              have r1 := S8.out.b.cell 1 (by omega)
              have r2 := S8.out.b.cell 2 (by omega)
              have r3 := S8.out.b.cell 3 (by omega)
              have z := S8.out.b.free
              refine wpAny_ready (rs := [4]) (by kernel_rfl) (by simp) (AllReady.cons rfl ?_ AllReady.nil)
              intro Kx hKx
              go_simp
              refine hKx _ _ ?_
              clear hKx Kx
              have S9 := S8.out.setB fo
              refine wpAny_done (by kernel_rfl) ?_ _
              go_wp2_with fail
              go_roundw
              case rel => exact ⟨or4 st x, j2, false, k, rfl, by omega, hj2, Lib.hid ⟨or4_in HSF.out.2.1 NX.out.2.1, NSTEP.out x (restL s j2) NX.out.1, by have := NX.out.2.2; have := Y.out.2.2; omega⟩, Lib.hid (S9.eqB fun kk hk => by rw [← HFO.out, ← HSF.out.2.2, ← HFX.out]; exact (s4_f _ hk).symm)⟩
              case measure => rw [S9.rd.1.idx, HIDX.out]; have := NX.out.2.2; omega
        | false =>
          have h93 : (restL s j).head? ≠ some 93 := fun e => hend ⟨rfl, e⟩
          have hp : (pkI (restL s j) != 93) = true := by
            rw [bne_iff_ne]
            cases hr : restL s j with
            | nil => simp [pkI]
            | cons b l =>
              intro e
              simp only [pkI] at e
              apply h93
              rw [hr]
              have : b = 93 := by omega
              rw [this]; rfl
          clear h93
          go_wp2_with fail
          refine (peek_any rb s j o _ S3.out.rd.1 hs).mono ?_
          rintro e w5 ⟨rfl, bx⟩
          have S4 := Lib.hid (S3.out.go bx)
          clear bx S3
          obtain ⟨p, hpp⟩ : ∃ p, pkI (restL s j) = p := ⟨_, rfl⟩
          rw [hpp] at hp ⊢
          clear hpp
          go_wp2_with fail
          refine wp_region_anyW (by kernel_rfl) ?_
          intro V bv
          have S6 := Lib.hid (S4.out.go bv)
          clear bv S4
          have a0 := S6.out.b.cell 0 (by omega)
          have a1 := S6.out.b.cell 1 (by omega)
          have a2 := S6.out.b.cell 2 (by omega)
          have a3 := S6.out.b.cell 3 (by omega)
          show wpAny _ _ _ _ 5 _ _ _
          refine wpAny_ready (rs := [0, 1]) (by kernel_rfl) (by simp) (AllReady.cons rfl ?_ (AllReady.cons rfl ?_ AllReady.nil))
          · skip
            intro Kx hKx
            go_simp
            refine hKx _ _ ?_
            clear hKx Kx
            clear a0 a1 a2 a3
            refine wpAny_ready (rs := [1]) (by kernel_rfl) (by simp) (AllReady.cons rfl ?_ AllReady.nil)
            intro Kx hKx
            go_simp
            refine hKx _ _ ?_
            clear hKx Kx
            refine wpAny_ready (rs := [2]) (by kernel_rfl) (by simp) (AllReady.cons rfl ?_ AllReady.nil)
            intro Kx hKx
            go_simp
            refine (item_any rb s j o _ S6.out.rd.1 hs hj (HT.out.1.only HT.out.2 S6.out.rd.2)).mono ?_
            intro e v1 ht
            rcases ht.elim with ⟨hn, ⟨E, x, rfl, hE⟩, ho⟩ | ⟨x, j2, v, hn, rfl, hv, hij2, hj2, hg⟩
            · have HE := Lib.hid (NFAIL.out hn)
              exact ⟨rfl, by rw [HE.out]; exact ⟨⟨E, x, rfl, hE⟩, S6.out.rd.2.trans ho⟩⟩
            refine hKx _ _ ?_
            clear hKx Kx
            have S7 := Lib.hid (S6.out.on hg)
            have NX := Lib.hid (And.intro hn (And.intro (itemP_in (restL_bytes s j) hn) (item_far hn)))
            clear hg hn ht
            obtain rfl := hv
            obtain ⟨fx, hfx⟩ : ∃ f, x.f = f := ⟨_, rfl⟩
            have HFX := Lib.hid hfx
            rw [hfx]
            clear hfx
            refine wpAny_ready (rs := [3]) (by kernel_rfl) (by simp) (AllReady.cons rfl ?_ AllReady.nil)
            intro Kx hKx
            go_simp
            have hor := fun w => or_any f fx w HSF.out.1 (by rw [← HFX.out]; exact NX.out.2.1)
            obtain ⟨fo, hfo⟩ : ∃ g, orS f fx = g := ⟨_, rfl⟩
            rw [hfo] at hor
            have HOR := Lib.hid hor
            have HFO := Lib.hid hfo
            clear hor hfo
            unfold setV at HOR
            refine (HOR.out _).mono ?_
            rintro e v2 ⟨rfl, bx⟩
            refine hKx _ _ ?_
            clear hKx Kx
            have S8 := Lib.hid (S7.out.go bx)
            clear bx S7
            have r0 := S8.out.b.cell 0 (by omega)
            have r1 := S8.out.b.cell 1 (by omega)
            have r2 := S8.out.b.cell 2 (by omega)
            have r3 := S8.out.b.cell 3 (by omega)
            have z := S8.out.b.free
            refine wpAny_ready (rs := [4]) (by kernel_rfl) (by simp) (AllReady.cons rfl ?_ AllReady.nil)
            intro Kx hKx
            go_simp
            refine hKx _ _ ?_
            clear hKx Kx
            have S9 := S8.out.setB fo
            refine wpAny_done (by kernel_rfl) ?_ _
            go_wp2_with fail
            go_roundw
            case rel => exact ⟨or4 st x, j2, false, k, rfl, by omega, hj2, Lib.hid ⟨or4_in HSF.out.2.1 NX.out.2.1, NSTEP.out x (restL s j2) NX.out.1, by have := NX.out.2.2; have := Y.out.2.2; omega⟩, Lib.hid (S9.eqB fun kk hk => by rw [← HFO.out, ← HSF.out.2.2, ← HFX.out]; exact (s4_f _ hk).symm)⟩
            case measure => rw [S9.rd.1.idx, HIDX.out]; have := NX.out.2.2; omega
          · skip
            intro Kx hKx
            go_simp
            refine hKx _ _ ?_
            clear hKx Kx
            refine wpAny_ready (rs := [0, 2]) (by kernel_rfl) (by simp) (AllReady.cons rfl ?_ (AllReady.cons rfl ?_ AllReady.nil))
            · skip
              intro Kx hKx
              go_simp
              refine hKx _ _ ?_
              clear hKx Kx
              clear a0 a1 a2 a3
              refine wpAny_ready (rs := [2]) (by kernel_rfl) (by simp) (AllReady.cons rfl ?_ AllReady.nil)
              intro Kx hKx
              go_simp
              refine (item_any rb s j o _ S6.out.rd.1 hs hj (HT.out.1.only HT.out.2 S6.out.rd.2)).mono ?_
              intro e v1 ht
              rcases ht.elim with ⟨hn, ⟨E, x, rfl, hE⟩, ho⟩ | ⟨x, j2, v, hn, rfl, hv, hij2, hj2, hg⟩
              · have HE := Lib.hid (NFAIL.out hn)
                exact ⟨rfl, by rw [HE.out]; exact ⟨⟨E, x, rfl, hE⟩, S6.out.rd.2.trans ho⟩⟩
              refine hKx _ _ ?_
              clear hKx Kx
              have S7 := Lib.hid (S6.out.on hg)
              have NX := Lib.hid (And.intro hn (And.intro (itemP_in (restL_bytes s j) hn) (item_far hn)))
              clear hg hn ht
              obtain rfl := hv
              obtain ⟨fx, hfx⟩ : ∃ f, x.f = f := ⟨_, rfl⟩
              have HFX := Lib.hid hfx
              rw [hfx]
              clear hfx
              refine wpAny_ready (rs := [3]) (by kernel_rfl) (by simp) (AllReady.cons rfl ?_ AllReady.nil)
              intro Kx hKx
              go_simp
              have hor := fun w => or_any f fx w HSF.out.1 (by rw [← HFX.out]; exact NX.out.2.1)
              obtain ⟨fo, hfo⟩ : ∃ g, orS f fx = g := ⟨_, rfl⟩
              rw [hfo] at hor
              have HOR := Lib.hid hor
              have HFO := Lib.hid hfo
              clear hor hfo
              unfold setV at HOR
              refine (HOR.out _).mono ?_
              rintro e v2 ⟨rfl, bx⟩
              refine hKx _ _ ?_
              clear hKx Kx
              have S8 := Lib.hid (S7.out.go bx)
              clear bx S7
              have r0 := S8.out.b.cell 0 (by omega)
              have r1 := S8.out.b.cell 1 (by omega)
              have r2 := S8.out.b.cell 2 (by omega)
              have r3 := S8.out.b.cell 3 (by omega)
              have z := S8.out.b.free
              refine wpAny_ready (rs := [4]) (by kernel_rfl) (by simp) (AllReady.cons rfl ?_ AllReady.nil)
              intro Kx hKx
              go_simp
              refine hKx _ _ ?_
              clear hKx Kx
              have S9 := S8.out.setB fo
              refine wpAny_done (by kernel_rfl) ?_ _
              go_wp2_with fail
              go_roundw
              case rel => exact ⟨or4 st x, j2, false, k, rfl, by omega, hj2, Lib.hid ⟨or4_in HSF.out.2.1 NX.out.2.1, NSTEP.out x (restL s j2) NX.out.1, by have := NX.out.2.2; have := Y.out.2.2; omega⟩, Lib.hid (S9.eqB fun kk hk => by rw [← HFO.out, ← HSF.out.2.2, ← HFX.out]; exact (s4_f _ hk).symm)⟩
              case measure => rw [S9.rd.1.idx, HIDX.out]; have := NX.out.2.2; omega
            · clear a0 a1 a2 a3
              intro Kx hKx
              go_simp
              refine (item_any rb s j o _ S6.out.rd.1 hs hj (HT.out.1.only HT.out.2 S6.out.rd.2)).mono ?_
              intro e v1 ht
              rcases ht.elim with ⟨hn, ⟨E, x, rfl, hE⟩, ho⟩ | ⟨x, j2, v, hn, rfl, hv, hij2, hj2, hg⟩
              · have HE := Lib.hid (NFAIL.out hn)
                exact ⟨rfl, by rw [HE.out]; exact ⟨⟨E, x, rfl, hE⟩, S6.out.rd.2.trans ho⟩⟩
              refine hKx _ _ ?_
              clear hKx Kx
              have S7 := Lib.hid (S6.out.on hg)
              have NX := Lib.hid (And.intro hn (And.intro (itemP_in (restL_bytes s j) hn) (item_far hn)))
              clear hg hn ht
              obtain rfl := hv
              obtain ⟨fx, hfx⟩ : ∃ f, x.f = f := ⟨_, rfl⟩
              have HFX := Lib.hid hfx
              rw [hfx]
              clear hfx
              have a0 := S7.out.b.cell 0 (by omega)
              have a1 := S7.out.b.cell 1 (by omega)
              have a2 := S7.out.b.cell 2 (by omega)
              have a3 := S7.out.b.cell 3 (by omega)
              refine wpAny_ready (rs := [0]) (by kernel_rfl) (by simp) (AllReady.cons rfl ?_ AllReady.nil)
              intro Kx hKx
              go_simp
              refine hKx _ _ ?_
              clear hKx Kx
              clear a0 a1 a2 a3
              refine wpAny_ready (rs := [3]) (by kernel_rfl) (by simp) (AllReady.cons rfl ?_ AllReady.nil)
              intro Kx hKx
              go_simp
              have hor := fun w => or_any f fx w HSF.out.1 (by rw [← HFX.out]; exact NX.out.2.1)
              obtain ⟨fo, hfo⟩ : ∃ g, orS f fx = g := ⟨_, rfl⟩
              rw [hfo] at hor
              have HOR := Lib.hid hor
              have HFO := Lib.hid hfo
              clear hor hfo
              unfold setV at HOR
              refine (HOR.out _).mono ?_
              rintro e v2 ⟨rfl, bx⟩
              refine hKx _ _ ?_
              clear hKx Kx
              have S8 := Lib.hid (S7.out.go bx)
              clear bx S7
              have r0 := S8.out.b.cell 0 (by omega)
              have r1 := S8.out.b.cell 1 (by omega)
              have r2 := S8.out.b.cell 2 (by omega)
              have r3 := S8.out.b.cell 3 (by omega)
              have z := S8.out.b.free
              refine wpAny_ready (rs := [4]) (by kernel_rfl) (by simp) (AllReady.cons rfl ?_ AllReady.nil)
              intro Kx hKx
              go_simp
              refine hKx _ _ ?_
              clear hKx Kx
              have S9 := S8.out.setB fo
              refine wpAny_done (by kernel_rfl) ?_ _
              go_wp2_with fail
              go_roundw
              case rel => exact ⟨or4 st x, j2, false, k, rfl, by omega, hj2, Lib.hid ⟨or4_in HSF.out.2.1 NX.out.2.1, NSTEP.out x (restL s j2) NX.out.1, by have := NX.out.2.2; have := Y.out.2.2; omega⟩, Lib.hid (S9.eqB fun kk hk => by rw [← HFO.out, ← HSF.out.2.2, ← HFX.out]; exact (s4_f _ hk).symm)⟩
              case measure => rw [S9.rd.1.idx, HIDX.out]; have := NX.out.2.2; omega
  · have hp : (pkI (restL s i) == 94) = false := by
      rw [beq_eq_false_iff_ne]
      cases hr : restL s i with
      | nil => simp [pkI]
      | cons b l =>
        intro e
        simp only [pkI] at e
        exact h94 (by rw [hr, show b = 94 by omega]; rfl)
    have hcp : classP (restL s i) = classL ((restL s i).length + 1) none4 (restL s i) := by
      unfold classP
      rw [if_neg h94]
    have HCP := Lib.hid hcp
    have hi0 := hi
    have hii : i ≤ i := Nat.le_refl _
    obtain ⟨p, hpp⟩ : ∃ p, pkI (restL s i) = p := ⟨_, rfl⟩
    rw [hpp] at hp ⊢
    clear hcp h94 hpp
    go_wp2_with fail
    go_loopw [5] (fun c wr => ∃ (st : S4) (j : Nat) (fst : Bool) (k : Nat), c = .bool fst ∧ i ≤ j ∧ j ≤ s.size ∧ Hid (SetIn st.f ∧ KL k fst st (restL s j) = classL ((restL s i).length + 1) none4 (restL s i) ∧ s.size - j < k) ∧ Hid (Sv w wr rb s j o B noneS st.f)) (fun _ wr => s.size - idxOf rb wr)
    case atStart => exact ⟨none4, i, true, (restL s i).length + 1, rfl, Nat.le_refl _, hi0, Lib.hid ⟨none4_in, by unfold KL; rw [if_neg (by simp)], by rw [restL_len]; omega⟩, Lib.hid (S1.out.eqB fun kk hk => (s4_f noneS hk).symm)⟩
    case round =>
      clear S1
      obtain ⟨st, j, fst, k, rfl, hij, hj, Y, S3⟩ := hrel
      have HIDX := Lib.hid S3.out.rd.1.idx
      obtain ⟨f, hf⟩ : ∃ f, st.f = f := ⟨_, rfl⟩
      have HSF := Lib.hid (And.intro (show SetIn f by rw [← hf]; exact Y.out.1) (And.intro Y.out.1 hf))
      rw [hf] at S3
      clear hf
      obtain ⟨k, rfl⟩ : ∃ k', k = k' + 1 := ⟨k - 1, by have := Y.out.2.2; omega⟩
      by_cases hend : fst = false ∧ (restL s j).head? = some 93
      · obtain ⟨rfl, h93⟩ := hend
        have hjl : j < s.size := by
          cases hr : restL s j with
          | nil => rw [hr] at h93; cases h93
          | cons b l => exact (restL_cons hr).1
        have hp : pkI (restL s j) = 93 := by
          cases hr : restL s j with
          | nil => rw [hr] at h93; cases h93
          | cons b l => rw [hr] at h93; simp at h93; rw [h93]; rfl
        have hcl : classL ((restL s i).length + 1) none4 (restL s i) = some (st, restL s (j + 1)) := by
          rw [← Y.out.2.1]
          unfold KL
          rw [if_pos ⟨rfl, h93⟩, restL_at hjl]
          rfl
        have HCL := Lib.hid hcl
        have hj6 : j < 256 := by omega
        clear hcl h93
        go_wp2_with fail
        refine (peek_any rb s j o _ S3.out.rd.1 hs).mono ?_
        rintro e w5 ⟨rfl, bx⟩
        rw [hp]
        have S4 := Lib.hid (S3.out.go bx)
        clear bx S3 hp
        obtain ⟨⟨c0, c1, c2⟩, z0, z1, z2⟩ := S4.out.rd.1.c3
        go_upto_region 10 with (fail)
        have S5 := Lib.hid S4.out.step
        clear S4 c0 c1 c2 z0 z1 z2
        generalize w5.setCell ⟨rb, 1, none⟩ (.int .i64 ((j : Int) + 1)) = w6 at *
        have b0 := S5.out.b.cell 0 (by omega)
        have b1 := S5.out.b.cell 1 (by omega)
        have b2 := S5.out.b.cell 2 (by omega)
        have b3 := S5.out.b.cell 3 (by omega)
        have r0 := S5.out.a.cell 0 (by omega)
        have r1 := S5.out.a.cell 1 (by omega)
        have r2 := S5.out.a.cell 2 (by omega)
        have r3 := S5.out.a.cell 3 (by omega)
        have z := S5.out.a.free
        go_wp2_with fail
        have S8 := S5.out.setA f
        refine bodyPost_ret (v := setV f) (by simp [results, Tryd.results73, go_sem, setV, r0, r1, r2, r3]) rfl ?_
        rw [← HR.out, HCP.out, HCL.out]
        exact Told.some_ (x := st) (by rw [← HSF.out.2.2]) (by omega) (by omega) S8.rd
      · have NSTEP := Lib.hid (show ∀ x l1, itemP (restL s j) = some (x, l1) → KL k false (or4 st x) l1 = classL ((restL s i).length + 1) none4 (restL s i) from fun x l1 hx => by
          rw [← Y.out.2.1]
          unfold KL
          rw [if_neg hend, classL, hx]
          simp)
        have hnf : itemP (restL s j) = none → R = none := fun hx => by
          rw [← HR.out, HCP.out, ← Y.out.2.1]
          unfold KL
          rw [if_neg hend, classL, hx]
          try rfl
        have NFAIL := Lib.hid hnf
        clear hnf
        cases fst with
        | true =>
          go_wp2_with fail
          refine wp_region_anyW (by kernel_rfl) ?_
          intro V bv
          have S6 := Lib.hid (S3.out.go bv)
          clear bv S3
          have a0 := S6.out.b.cell 0 (by omega)
          have a1 := S6.out.b.cell 1 (by omega)
          have a2 := S6.out.b.cell 2 (by omega)
          have a3 := S6.out.b.cell 3 (by omega)
          show wpAny _ _ _ _ 5 _ _ _
          refine wpAny_ready (rs := [0, 1]) (by kernel_rfl) (by simp) (AllReady.cons rfl ?_ (AllReady.cons rfl ?_ AllReady.nil))
          · skip
            intro Kx hKx
            go_simp
            refine hKx _ _ ?_
            clear hKx Kx
            clear a0 a1 a2 a3
            refine wpAny_ready (rs := [1]) (by kernel_rfl) (by simp) (AllReady.cons rfl ?_ AllReady.nil)
            intro Kx hKx
            go_simp
            refine hKx _ _ ?_
            clear hKx Kx
            refine wpAny_ready (rs := [2]) (by kernel_rfl) (by simp) (AllReady.cons rfl ?_ AllReady.nil)
            intro Kx hKx
            go_simp
            refine (item_any rb s j o _ S6.out.rd.1 hs hj (HT.out.1.only HT.out.2 S6.out.rd.2)).mono ?_
            intro e v1 ht
            rcases ht.elim with ⟨hn, ⟨E, x, rfl, hE⟩, ho⟩ | ⟨x, j2, v, hn, rfl, hv, hij2, hj2, hg⟩
            · have HE := Lib.hid (NFAIL.out hn)
              exact ⟨rfl, by rw [HE.out]; exact ⟨⟨E, x, rfl, hE⟩, S6.out.rd.2.trans ho⟩⟩
            refine hKx _ _ ?_
            clear hKx Kx
            have S7 := Lib.hid (S6.out.on hg)
            have NX := Lib.hid (And.intro hn (And.intro (itemP_in (restL_bytes s j) hn) (item_far hn)))
            clear hg hn ht
            obtain rfl := hv
            obtain ⟨fx, hfx⟩ : ∃ f, x.f = f := ⟨_, rfl⟩
            have HFX := Lib.hid hfx
            rw [hfx]
            clear hfx
            refine wpAny_ready (rs := [3]) (by kernel_rfl) (by simp) (AllReady.cons rfl ?_ AllReady.nil)
            intro Kx hKx
            go_simp
            have hor := fun w => or_any f fx w HSF.out.1 (by rw [← HFX.out]; exact NX.out.2.1)
            obtain ⟨fo, hfo⟩ : ∃ g, orS f fx = g := ⟨_, rfl⟩
            rw [hfo] at hor
            have HOR := Lib.hid hor
            have HFO := Lib.hid hfo
            clear hor hfo
            unfold setV at HOR
            refine (HOR.out _).mono ?_
            rintro e v2 ⟨rfl, bx⟩
            refine hKx _ _ ?_
            clear hKx Kx
            have S8 := Lib.hid (S7.out.go bx)
            clear bx S7
            have r0 := S8.out.b.cell 0 (by omega)
            have r1 := S8.out.b.cell 1 (by omega)
            have r2 := S8.out.b.cell 2 (by omega)
            have r3 := S8.out.b.cell 3 (by omega)
            have z := S8.out.b.free
            refine wpAny_ready (rs := [4]) (by kernel_rfl) (by simp) (AllReady.cons rfl ?_ AllReady.nil)
            intro Kx hKx
            go_simp
            refine hKx _ _ ?_
            clear hKx Kx
            have S9 := S8.out.setB fo
            refine wpAny_done (by kernel_rfl) ?_ _
            go_wp2_with fail
            go_roundw
            case rel => exact ⟨or4 st x, j2, false, k, rfl, by omega, hj2, Lib.hid ⟨or4_in HSF.out.2.1 NX.out.2.1, NSTEP.out x (restL s j2) NX.out.1, by have := NX.out.2.2; have := Y.out.2.2; omega⟩, Lib.hid (S9.eqB fun kk hk => by rw [← HFO.out, ← HSF.out.2.2, ← HFX.out]; exact (s4_f _ hk).symm)⟩
            case measure => rw [S9.rd.1.idx, HIDX.out]; have := NX.out.2.2; omega
          · skip
            intro Kx hKx
            go_simp
            refine hKx _ _ ?_
            clear hKx Kx
            refine wpAny_ready (rs := [0, 2]) (by kernel_rfl) (by simp) (AllReady.cons rfl ?_ (AllReady.cons rfl ?_ AllReady.nil))
            · skip
              intro Kx hKx
              go_simp
              refine hKx _ _ ?_
              clear hKx Kx
              clear a0 a1 a2 a3
              refine wpAny_ready (rs := [2]) (by kernel_rfl) (by simp) (AllReady.cons rfl ?_ AllReady.nil)
              intro Kx hKx
              go_simp
              refine (item_any rb s j o _ S6.out.rd.1 hs hj (HT.out.1.only HT.out.2 S6.out.rd.2)).mono ?_
              intro e v1 ht
              rcases ht.elim with ⟨hn, ⟨E, x, rfl, hE⟩, ho⟩ | ⟨x, j2, v, hn, rfl, hv, hij2, hj2, hg⟩
              · have HE := Lib.hid (NFAIL.out hn)
                exact ⟨rfl, by rw [HE.out]; exact ⟨⟨E, x, rfl, hE⟩, S6.out.rd.2.trans ho⟩⟩
              refine hKx _ _ ?_
              clear hKx Kx
              have S7 := Lib.hid (S6.out.on hg)
              have NX := Lib.hid (And.intro hn (And.intro (itemP_in (restL_bytes s j) hn) (item_far hn)))
              clear hg hn ht
              obtain rfl := hv
              obtain ⟨fx, hfx⟩ : ∃ f, x.f = f := ⟨_, rfl⟩
              have HFX := Lib.hid hfx
              rw [hfx]
              clear hfx
              refine wpAny_ready (rs := [3]) (by kernel_rfl) (by simp) (AllReady.cons rfl ?_ AllReady.nil)
              intro Kx hKx
              go_simp
              have hor := fun w => or_any f fx w HSF.out.1 (by rw [← HFX.out]; exact NX.out.2.1)
              obtain ⟨fo, hfo⟩ : ∃ g, orS f fx = g := ⟨_, rfl⟩
              rw [hfo] at hor
              have HOR := Lib.hid hor
              have HFO := Lib.hid hfo
              clear hor hfo
              unfold setV at HOR
              refine (HOR.out _).mono ?_
              rintro e v2 ⟨rfl, bx⟩
              refine hKx _ _ ?_
              clear hKx Kx
              have S8 := Lib.hid (S7.out.go bx)
              clear bx S7
              have r0 := S8.out.b.cell 0 (by omega)
              have r1 := S8.out.b.cell 1 (by omega)
              have r2 := S8.out.b.cell 2 (by omega)
              have r3 := S8.out.b.cell 3 (by omega)
              have z := S8.out.b.free
              refine wpAny_ready (rs := [4]) (by kernel_rfl) (by simp) (AllReady.cons rfl ?_ AllReady.nil)
              intro Kx hKx
              go_simp
              refine hKx _ _ ?_
              clear hKx Kx
              have S9 := S8.out.setB fo
              refine wpAny_done (by kernel_rfl) ?_ _
              go_wp2_with fail
              go_roundw
              case rel => exact ⟨or4 st x, j2, false, k, rfl, by omega, hj2, Lib.hid ⟨or4_in HSF.out.2.1 NX.out.2.1, NSTEP.out x (restL s j2) NX.out.1, by have := NX.out.2.2; have := Y.out.2.2; omega⟩, Lib.hid (S9.eqB fun kk hk => by rw [← HFO.out, ← HSF.out.2.2, ← HFX.out]; exact (s4_f _ hk).symm)⟩
              case measure => rw [S9.rd.1.idx, HIDX.out]; have := NX.out.2.2; omega
            · clear a0 a1 a2 a3
              intro Kx hKx
              go_simp
              refine (item_any rb s j o _ S6.out.rd.1 hs hj (HT.out.1.only HT.out.2 S6.out.rd.2)).mono ?_
              intro e v1 ht
              rcases ht.elim with ⟨hn, ⟨E, x, rfl, hE⟩, ho⟩ | ⟨x, j2, v, hn, rfl, hv, hij2, hj2, hg⟩
              · have HE := Lib.hid (NFAIL.out hn)
                exact ⟨rfl, by rw [HE.out]; exact ⟨⟨E, x, rfl, hE⟩, S6.out.rd.2.trans ho⟩⟩
              refine hKx _ _ ?_
              clear hKx Kx
              have S7 := Lib.hid (S6.out.on hg)
              have NX := Lib.hid (And.intro hn (And.intro (itemP_in (restL_bytes s j) hn) (item_far hn)))
              clear hg hn ht
              obtain rfl := hv
              obtain ⟨fx, hfx⟩ : ∃ f, x.f = f := ⟨_, rfl⟩
              have HFX := Lib.hid hfx
              rw [hfx]
              clear hfx
              have a0 := S7.out.b.cell 0 (by omega)
              have a1 := S7.out.b.cell 1 (by omega)
              have a2 := S7.out.b.cell 2 (by omega)
              have a3 := S7.out.b.cell 3 (by omega)
              refine wpAny_ready (rs := [0]) (by kernel_rfl) (by simp) (AllReady.cons rfl ?_ AllReady.nil)
              intro Kx hKx
              go_simp
              refine hKx _ _ ?_
              clear hKx Kx
              clear a0 a1 a2 a3
              refine wpAny_ready (rs := [3]) (by kernel_rfl) (by simp) (AllReady.cons rfl ?_ AllReady.nil)
              intro Kx hKx
              go_simp
              have hor := fun w => or_any f fx w HSF.out.1 (by rw [← HFX.out]; exact NX.out.2.1)
              obtain ⟨fo, hfo⟩ : ∃ g, orS f fx = g := ⟨_, rfl⟩
              rw [hfo] at hor
              have HOR := Lib.hid hor
              have HFO := Lib.hid hfo
              clear hor hfo
              unfold setV at HOR
              refine (HOR.out _).mono ?_
              rintro e v2 ⟨rfl, bx⟩
              refine hKx _ _ ?_
              clear hKx Kx
              have S8 := Lib.hid (S7.out.go bx)
              clear bx S7
              have r0 := S8.out.b.cell 0 (by omega)
              have r1 := S8.out.b.cell 1 (by omega)
              have r2 := S8.out.b.cell 2 (by omega)
              have r3 := S8.out.b.cell 3 (by omega)
              have z := S8.out.b.free
              refine wpAny_ready (rs := [4]) (by kernel_rfl) (by simp) (AllReady.cons rfl ?_ AllReady.nil)
              intro Kx hKx
              go_simp
              refine hKx _ _ ?_
              clear hKx Kx
              have S9 := S8.out.setB fo
              refine wpAny_done (by kernel_rfl) ?_ _
              go_wp2_with fail
              go_roundw
              case rel => exact ⟨or4 st x, j2, false, k, rfl, by omega, hj2, Lib.hid ⟨or4_in HSF.out.2.1 NX.out.2.1, NSTEP.out x (restL s j2) NX.out.1, by have := NX.out.2.2; have := Y.out.2.2; omega⟩, Lib.hid (S9.eqB fun kk hk => by rw [← HFO.out, ← HSF.out.2.2, ← HFX.out]; exact (s4_f _ hk).symm)⟩
              case measure => rw [S9.rd.1.idx, HIDX.out]; have := NX.out.2.2; omega
        | false =>
          have h93 : (restL s j).head? ≠ some 93 := fun e => hend ⟨rfl, e⟩
          have hp : (pkI (restL s j) != 93) = true := by
            rw [bne_iff_ne]
            cases hr : restL s j with
            | nil => simp [pkI]
            | cons b l =>
              intro e
              simp only [pkI] at e
              apply h93
              rw [hr]
              have : b = 93 := by omega
              rw [this]; rfl
          clear h93
          go_wp2_with fail
          refine (peek_any rb s j o _ S3.out.rd.1 hs).mono ?_
          rintro e w5 ⟨rfl, bx⟩
          have S4 := Lib.hid (S3.out.go bx)
          clear bx S3
          obtain ⟨p, hpp⟩ : ∃ p, pkI (restL s j) = p := ⟨_, rfl⟩
          rw [hpp] at hp ⊢
          clear hpp
          go_wp2_with fail
          refine wp_region_anyW (by kernel_rfl) ?_
          intro V bv
          have S6 := Lib.hid (S4.out.go bv)
          clear bv S4
          have a0 := S6.out.b.cell 0 (by omega)
          have a1 := S6.out.b.cell 1 (by omega)
          have a2 := S6.out.b.cell 2 (by omega)
          have a3 := S6.out.b.cell 3 (by omega)
          show wpAny _ _ _ _ 5 _ _ _
          refine wpAny_ready (rs := [0, 1]) (by kernel_rfl) (by simp) (AllReady.cons rfl ?_ (AllReady.cons rfl ?_ AllReady.nil))
          · skip
            intro Kx hKx
            go_simp
            refine hKx _ _ ?_
            clear hKx Kx
            clear a0 a1 a2 a3
            refine wpAny_ready (rs := [1]) (by kernel_rfl) (by simp) (AllReady.cons rfl ?_ AllReady.nil)
            intro Kx hKx
            go_simp
            refine hKx _ _ ?_
            clear hKx Kx
            refine wpAny_ready (rs := [2]) (by kernel_rfl) (by simp) (AllReady.cons rfl ?_ AllReady.nil)
            intro Kx hKx
            go_simp
            refine (item_any rb s j o _ S6.out.rd.1 hs hj (HT.out.1.only HT.out.2 S6.out.rd.2)).mono ?_
            intro e v1 ht
            rcases ht.elim with ⟨hn, ⟨E, x, rfl, hE⟩, ho⟩ | ⟨x, j2, v, hn, rfl, hv, hij2, hj2, hg⟩
            · have HE := Lib.hid (NFAIL.out hn)
              exact ⟨rfl, by rw [HE.out]; exact ⟨⟨E, x, rfl, hE⟩, S6.out.rd.2.trans ho⟩⟩
            refine hKx _ _ ?_
            clear hKx Kx
            have S7 := Lib.hid (S6.out.on hg)
            have NX := Lib.hid (And.intro hn (And.intro (itemP_in (restL_bytes s j) hn) (item_far hn)))
            clear hg hn ht
            obtain rfl := hv
            obtain ⟨fx, hfx⟩ : ∃ f, x.f = f := ⟨_, rfl⟩
            have HFX := Lib.hid hfx
            rw [hfx]
            clear hfx
            refine wpAny_ready (rs := [3]) (by kernel_rfl) (by simp) (AllReady.cons rfl ?_ AllReady.nil)
            intro Kx hKx
            go_simp
            have hor := fun w => or_any f fx w HSF.out.1 (by rw [← HFX.out]; exact NX.out.2.1)
            obtain ⟨fo, hfo⟩ : ∃ g, orS f fx = g := ⟨_, rfl⟩
            rw [hfo] at hor
            have HOR := Lib.hid hor
            have HFO := Lib.hid hfo
            clear hor hfo
            unfold setV at HOR
            refine (HOR.out _).mono ?_
            rintro e v2 ⟨rfl, bx⟩
            refine hKx _ _ ?_
            clear hKx Kx
            have S8 := Lib.hid (S7.out.go bx)
            clear bx S7
            have r0 := S8.out.b.cell 0 (by omega)
            have r1 := S8.out.b.cell 1 (by omega)
            have r2 := S8.out.b.cell 2 (by omega)
            have r3 := S8.out.b.cell 3 (by omega)
            have z := S8.out.b.free
            refine wpAny_ready (rs := [4]) (by kernel_rfl) (by simp) (AllReady.cons rfl ?_ AllReady.nil)
            intro Kx hKx
            go_simp
            refine hKx _ _ ?_
            clear hKx Kx
            have S9 := S8.out.setB fo
            refine wpAny_done (by kernel_rfl) ?_ _
            go_wp2_with fail
            go_roundw
            case rel => exact ⟨or4 st x, j2, false, k, rfl, by omega, hj2, Lib.hid ⟨or4_in HSF.out.2.1 NX.out.2.1, NSTEP.out x (restL s j2) NX.out.1, by have := NX.out.2.2; have := Y.out.2.2; omega⟩, Lib.hid (S9.eqB fun kk hk => by rw [← HFO.out, ← HSF.out.2.2, ← HFX.out]; exact (s4_f _ hk).symm)⟩
            case measure => rw [S9.rd.1.idx, HIDX.out]; have := NX.out.2.2; omega
          · skip
            intro Kx hKx
            go_simp
            refine hKx _ _ ?_
            clear hKx Kx
            refine wpAny_ready (rs := [0, 2]) (by kernel_rfl) (by simp) (AllReady.cons rfl ?_ (AllReady.cons rfl ?_ AllReady.nil))
            · skip
              intro Kx hKx
              go_simp
              refine hKx _ _ ?_
              clear hKx Kx
              clear a0 a1 a2 a3
              refine wpAny_ready (rs := [2]) (by kernel_rfl) (by simp) (AllReady.cons rfl ?_ AllReady.nil)
              intro Kx hKx
              go_simp
              refine (item_any rb s j o _ S6.out.rd.1 hs hj (HT.out.1.only HT.out.2 S6.out.rd.2)).mono ?_
              intro e v1 ht
              rcases ht.elim with ⟨hn, ⟨E, x, rfl, hE⟩, ho⟩ | ⟨x, j2, v, hn, rfl, hv, hij2, hj2, hg⟩
              · have HE := Lib.hid (NFAIL.out hn)
                exact ⟨rfl, by rw [HE.out]; exact ⟨⟨E, x, rfl, hE⟩, S6.out.rd.2.trans ho⟩⟩
              refine hKx _ _ ?_
              clear hKx Kx
              have S7 := Lib.hid (S6.out.on hg)
              have NX := Lib.hid (And.intro hn (And.intro (itemP_in (restL_bytes s j) hn) (item_far hn)))
              clear hg hn ht
              obtain rfl := hv
              obtain ⟨fx, hfx⟩ : ∃ f, x.f = f := ⟨_, rfl⟩
              have HFX := Lib.hid hfx
              rw [hfx]
              clear hfx
              refine wpAny_ready (rs := [3]) (by kernel_rfl) (by simp) (AllReady.cons rfl ?_ AllReady.nil)
              intro Kx hKx
              go_simp
              have hor := fun w => or_any f fx w HSF.out.1 (by rw [← HFX.out]; exact NX.out.2.1)
              obtain ⟨fo, hfo⟩ : ∃ g, orS f fx = g := ⟨_, rfl⟩
              rw [hfo] at hor
              have HOR := Lib.hid hor
              have HFO := Lib.hid hfo
              clear hor hfo
              unfold setV at HOR
              refine (HOR.out _).mono ?_
              rintro e v2 ⟨rfl, bx⟩
              refine hKx _ _ ?_
              clear hKx Kx
              have S8 := Lib.hid (S7.out.go bx)
              clear bx S7
              have r0 := S8.out.b.cell 0 (by omega)
              have r1 := S8.out.b.cell 1 (by omega)
              have r2 := S8.out.b.cell 2 (by omega)
              have r3 := S8.out.b.cell 3 (by omega)
              have z := S8.out.b.free
              refine wpAny_ready (rs := [4]) (by kernel_rfl) (by simp) (AllReady.cons rfl ?_ AllReady.nil)
              intro Kx hKx
              go_simp
              refine hKx _ _ ?_
              clear hKx Kx
              have S9 := S8.out.setB fo
              refine wpAny_done (by kernel_rfl) ?_ _
              go_wp2_with fail
              go_roundw
              case rel => exact ⟨or4 st x, j2, false, k, rfl, by omega, hj2, Lib.hid ⟨or4_in HSF.out.2.1 NX.out.2.1, NSTEP.out x (restL s j2) NX.out.1, by have := NX.out.2.2; have := Y.out.2.2; omega⟩, Lib.hid (S9.eqB fun kk hk => by rw [← HFO.out, ← HSF.out.2.2, ← HFX.out]; exact (s4_f _ hk).symm)⟩
              case measure => rw [S9.rd.1.idx, HIDX.out]; have := NX.out.2.2; omega
            · clear a0 a1 a2 a3
              intro Kx hKx
              go_simp
              refine (item_any rb s j o _ S6.out.rd.1 hs hj (HT.out.1.only HT.out.2 S6.out.rd.2)).mono ?_
              intro e v1 ht
              rcases ht.elim with ⟨hn, ⟨E, x, rfl, hE⟩, ho⟩ | ⟨x, j2, v, hn, rfl, hv, hij2, hj2, hg⟩
              · have HE := Lib.hid (NFAIL.out hn)
                exact ⟨rfl, by rw [HE.out]; exact ⟨⟨E, x, rfl, hE⟩, S6.out.rd.2.trans ho⟩⟩
              refine hKx _ _ ?_
              clear hKx Kx
              have S7 := Lib.hid (S6.out.on hg)
              have NX := Lib.hid (And.intro hn (And.intro (itemP_in (restL_bytes s j) hn) (item_far hn)))
              clear hg hn ht
              obtain rfl := hv
              obtain ⟨fx, hfx⟩ : ∃ f, x.f = f := ⟨_, rfl⟩
              have HFX := Lib.hid hfx
              rw [hfx]
              clear hfx
              have a0 := S7.out.b.cell 0 (by omega)
              have a1 := S7.out.b.cell 1 (by omega)
              have a2 := S7.out.b.cell 2 (by omega)
              have a3 := S7.out.b.cell 3 (by omega)
              refine wpAny_ready (rs := [0]) (by kernel_rfl) (by simp) (AllReady.cons rfl ?_ AllReady.nil)
              intro Kx hKx
              go_simp
              refine hKx _ _ ?_
              clear hKx Kx
              clear a0 a1 a2 a3
              refine wpAny_ready (rs := [3]) (by kernel_rfl) (by simp) (AllReady.cons rfl ?_ AllReady.nil)
              intro Kx hKx
              go_simp
              have hor := fun w => or_any f fx w HSF.out.1 (by rw [← HFX.out]; exact NX.out.2.1)
              obtain ⟨fo, hfo⟩ : ∃ g, orS f fx = g := ⟨_, rfl⟩
              rw [hfo] at hor
              have HOR := Lib.hid hor
              have HFO := Lib.hid hfo
              clear hor hfo
              unfold setV at HOR
              refine (HOR.out _).mono ?_
              rintro e v2 ⟨rfl, bx⟩
              refine hKx _ _ ?_
              clear hKx Kx
              have S8 := Lib.hid (S7.out.go bx)
              clear bx S7
              have r0 := S8.out.b.cell 0 (by omega)
              have r1 := S8.out.b.cell 1 (by omega)
              have r2 := S8.out.b.cell 2 (by omega)
              have r3 := S8.out.b.cell 3 (by omega)
              have z := S8.out.b.free
              refine wpAny_ready (rs := [4]) (by kernel_rfl) (by simp) (AllReady.cons rfl ?_ AllReady.nil)
              intro Kx hKx
              go_simp
              refine hKx _ _ ?_
              clear hKx Kx
              have S9 := S8.out.setB fo
              refine wpAny_done (by kernel_rfl) ?_ _
              go_wp2_with fail
              go_roundw
              case rel => exact ⟨or4 st x, j2, false, k, rfl, by omega, hj2, Lib.hid ⟨or4_in HSF.out.2.1 NX.out.2.1, NSTEP.out x (restL s j2) NX.out.1, by have := NX.out.2.2; have := Y.out.2.2; omega⟩, Lib.hid (S9.eqB fun kk hk => by rw [← HFO.out, ← HSF.out.2.2, ← HFX.out]; exact (s4_f _ hk).symm)⟩
              case measure => rw [S9.rd.1.idx, HIDX.out]; have := NX.out.2.2; omega
end Go.Proofs.YtpknglbpbodnbaaDoor
