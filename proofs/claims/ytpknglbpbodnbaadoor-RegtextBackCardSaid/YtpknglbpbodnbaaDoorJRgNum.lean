/-
  The walks of number and braces. Conditions: the reader stands within its text, which has 256 bytes at most.
-/
import Derived.Test.YtpknglbpbodnbaaDoorJRgRd
namespace Go.Proofs.YtpknglbpbodnbaaDoor
set_option linter.unusedVariables false
set_option linter.unusedSimpArgs false
open Go.RowKit Go.Sort Cs Rg Go.ChangeShapes Go.WideShapes

theorem peek_nil {rb : Nat} {s : ByteArray} {i o : Nat} {w : World} (hr : restL s i = []) (h : Rd w rb s i o) (hs : s.size ≤ 256) :
    Calls Tryd.prog 56 #[vPtr rb] w fun e w' => e = .returned (.int .i64 (-1)) ∧ Below w.heap.size w w' := by
  have := peek_any rb s i o w h hs
  rw [hr] at this
  exact this
theorem peek_cons {rb : Nat} {s : ByteArray} {i o b : Nat} {l : List Nat} {w : World} (hr : restL s i = b :: l) (h : Rd w rb s i o) (hs : s.size ≤ 256) :
    Calls Tryd.prog 56 #[vPtr rb] w fun e w' => e = .returned (.int .i64 (b : Int)) ∧ Below w.heap.size w w' := by
  have := peek_any rb s i o w h hs
  rw [hr] at this
  exact this
/-- where the reader stands -/
def idxOf (rb : Nat) (w : World) : Nat := match w.cell? ⟨rb, 1, none⟩ with
  | some (.int _ z) => z.toNat
  | _ => 0
theorem Rd.idx {w : World} {rb : Nat} {s : ByteArray} {i o : Nat} (h : Rd w rb s i o) : idxOf rb w = i := by
  unfold idxOf
  rw [h.cell 1]
  simp
/-- what a method hands back -/
def Told {α : Type} (w : World) (rb : Nat) (s : ByteArray) (i o : Nat) (r : Option (α × List Nat)) (val : α → Value → World → Prop) (e : Ending) (w' : World) : Prop :=
  match r with
  | some (x, l1) => ∃ (v : Value) (j : Nat), e = .returned v ∧ val x v w' ∧ restL s j = l1 ∧ i ≤ j ∧ j ≤ s.size ∧ RdGo w rb s j o w'
  | none => Broke e ∧ Only [rb] w w'
theorem Told.none_ {α : Type} {w : World} {rb : Nat} {s : ByteArray} {i o : Nat} {val : α → Value → World → Prop} {e : Ending} {w' : World} (h : Broke e) (ho : Only [rb] w w') : Told w rb s i o (none : Option (α × List Nat)) val e w' := ⟨h, ho⟩
theorem Told.some_ {α : Type} {w : World} {rb : Nat} {s : ByteArray} {i o j : Nat} {x : α} {v : Value} {val : α → Value → World → Prop} {w' : World} (h1 : val x v w') (h2 : i ≤ j) (h3 : j ≤ s.size) (h4 : RdGo w rb s j o w') : Told w rb s i o (some (x, restL s j)) val (.returned v) w' := ⟨v, j, rfl, h1, rfl, h2, h3, h4⟩
abbrev valInt (x : Nat) (v : Value) (_ : World) : Prop := v = .int .i64 (x : Int)
theorem digsF_le (n : Nat) (l : List Nat) (h : n ≤ 1000) : (digsF n l).1 ≤ 1000 := by
  induction l generalizing n with
  | nil => exact h
  | cons b l ih =>
    unfold digsF
    split
    · exact ih _ (Nat.min_le_right _ _)
    · exact h
set_option maxHeartbeats 8000000 in
set_option maxRecDepth 1000000 in
theorem number13_any (rb : Nat) (s : ByteArray) (i o : Nat) (w : World) (h : Rd w rb s i o) (hs : s.size ≤ 256) (hi : i ≤ s.size) :
    Calls Tryd.prog 75 #[vPtr rb] w (Told w rb s i o (numP (restL s i)) valInt) := by
  have G := Lib.hid (RdGo.refl h)
  have c1 := h.cell 1
  simp only [List.getElem?_toArray, List.getElem?_cons_succ, List.getElem?_cons_zero] at c1
  clear h
  obtain ⟨R, hR⟩ : ∃ R, numP (restL s i) = R := ⟨_, rfl⟩
  have HR := Lib.hid hR
  rw [hR]
  clear hR
  go_enter Tryd.func75, Tryd.ntmps75
  go_wp2_with fail
  clear c1
  go_loopw [4] (fun c wr => ∃ j n : Nat, i ≤ j ∧ j ≤ s.size ∧ n ≤ 1000 ∧ c = .int .i64 (n : Int) ∧ Hid (digsF 0 (restL s i) = digsF n (restL s j)) ∧ Hid (RdGo w rb s j o wr)) (fun _ wr => s.size - idxOf rb wr)
  case atStart => exact ⟨i, 0, Nat.le_refl _, hi, by omega, rfl, Lib.hid rfl, G⟩
  case round =>
    clear G
    obtain ⟨j, n, hij, hj, hn, rfl, X, G⟩ := hrel
    have hidx := G.out.1.idx
    have HIDX := Lib.hid hidx
    clear hidx
    cases hr : restL s j with
    | nil =>
      have HRR := Lib.hid hr
      have DG := Lib.hid (show digsF 0 (restL s i) = (n, restL s j) by rw [X.out, hr]; rfl)
      clear hr
      go_wp2_with fail
      refine (peek_nil HRR.out G.out.1 hs).mono ?_
      rintro e w1 ⟨rfl, bx⟩
      have G1 := Lib.hid (G.out.go bx)
      clear bx G
      have G := G1
      clear G1
      go_upto_region 5 with (fail)
      obtain ⟨⟨c0, c1, c2⟩, -⟩ := G.out.1.c3
      by_cases hji : j = i
      · have kj : ((j : Int) == (i : Int)) = true := by rw [hji]; simp
        have hnone : numP (restL s i) = none := by unfold numP; rw [DG.out, if_pos (by rw [hji])]
        have HNONE := Lib.hid hnone
        clear hnone hji
        go_wp2_with fail
        refine (wrong_any rb s j o _ G.out.1 hs).mono ?_
        rintro e w9 ⟨⟨E, x, rfl, hE⟩, bx⟩
        have HX := Lib.hid hE
        have BX := Lib.hid bx
        clear hE bx
        exact ⟨rfl, by rw [← HR.out, HNONE.out]; exact ⟨⟨E, x, rfl, HX.out⟩, G.out.2.put BX.out G.out.2.size⟩⟩
      · have kj : ((j : Int) == (i : Int)) = false := by rw [beq_eq_false_iff_ne]; omega
        have hil : i < s.size := by omega
        have hilx : i < 256 := by omega
        have hne : ¬ (restL s j).length = (restL s i).length := by rw [restL_len, restL_len]; omega
        have hb0 : restL s i = (s[i]'hil).toNat :: restL s (i + 1) := restL_at hil
        have hb9 := (s[i]'hil).toNat_lt
        obtain ⟨b0, hbb⟩ : ∃ b, (s[i]'hil).toNat = b := ⟨_, rfl⟩
        rw [hbb] at hb0 hb9
        have HB0 := Lib.hid hb0
        clear hb0
        have hlen : (restL s j).length + 1 < (restL s i).length ↔ i + 1 < j := by rw [restL_len, restL_len]; omega
        by_cases h48 : b0 = 48 ∧ i + 1 < j
        · have k48 : ((b0 : Int) == 48) = true := by rw [h48.1]; rfl
          have k49 : decide ((i : Int) + 1 < (j : Int)) = true := decide_eq_true (by omega)
          have k49' : decide (i + 1 < j) = true := decide_eq_true (by omega)
          have hnone : numP (restL s i) = none := by unfold numP; rw [DG.out, if_neg hne, if_pos ⟨by rw [HB0.out, h48.1]; rfl, hlen.2 h48.2⟩]
          have HNONE := Lib.hid hnone
          clear hnone h48 hne hlen hji
          go_wp2_with fail
          refine (fail_any 2 _ _ (by omega)).mono ?_
          rintro e w9 ⟨⟨E, x, rfl, hE⟩, bx⟩
          have HX := Lib.hid hE
          have BX := Lib.hid bx
          clear hE bx
          exact ⟨rfl, by rw [← HR.out, HNONE.out]; exact ⟨⟨E, x, rfl, HX.out⟩, G.out.2.put BX.out G.out.2.size⟩⟩
        · have h2 : ¬ ((restL s i).head? = some 48 ∧ (restL s j).length + 1 < (restL s i).length) := fun h => h48 ⟨by have := h.1; rw [HB0.out] at this; simpa using this, hlen.1 h.2⟩
          have k50 : ((b0 : Int) == 48) = false ∨ ((b0 : Int) == 48) = true ∧ decide ((i : Int) + 1 < (j : Int)) = false ∧ decide (i + 1 < j) = false := by
            by_cases e : b0 = 48
            · exact .inr ⟨by rw [e]; rfl, decide_eq_false (by omega), decide_eq_false (by omega)⟩
            · exact .inl (by rw [beq_eq_false_iff_ne]; omega)
          have NN := Lib.hid (And.intro hne h2)
          clear hne h2 h48 hlen hji
          by_cases h16 : 16 < n
          · have k16 : decide ((16 : Int) < (n : Int)) = true := decide_eq_true (by omega)
            have k16' : decide (16 < n) = true := decide_eq_true h16
            have hnone : numP (restL s i) = none := by unfold numP; rw [DG.out, if_neg NN.out.1, if_neg NN.out.2, if_pos h16]
            have HNONE := Lib.hid hnone
            clear hnone
            rcases k50 with k50 | ⟨k50, k51, k51'⟩
            · go_wp2_with fail
              refine (fail_any 3 _ _ (by omega)).mono ?_
              rintro e w9 ⟨⟨E, x, rfl, hE⟩, bx⟩
              have HX := Lib.hid hE
              have BX := Lib.hid bx
              clear hE bx
              exact ⟨rfl, by rw [← HR.out, HNONE.out]; exact ⟨⟨E, x, rfl, HX.out⟩, G.out.2.put BX.out G.out.2.size⟩⟩
            · go_wp2_with fail
              refine (fail_any 3 _ _ (by omega)).mono ?_
              rintro e w9 ⟨⟨E, x, rfl, hE⟩, bx⟩
              have HX := Lib.hid hE
              have BX := Lib.hid bx
              clear hE bx
              exact ⟨rfl, by rw [← HR.out, HNONE.out]; exact ⟨⟨E, x, rfl, HX.out⟩, G.out.2.put BX.out G.out.2.size⟩⟩
          · have k16 : decide ((16 : Int) < (n : Int)) = false := decide_eq_false (by omega)
            have k16' : decide (16 < n) = false := decide_eq_false h16
            have hsome : numP (restL s i) = some (n, restL s j) := by unfold numP; rw [DG.out, if_neg NN.out.1, if_neg NN.out.2, if_neg h16]
            have HSOME := Lib.hid hsome
            clear hsome
            rcases k50 with k50 | ⟨k50, k51, k51'⟩
            · go_wp2_with fail
              go_ret
              rw [← HR.out, HSOME.out]
              exact Told.some_ rfl hij hj G.out
            · go_wp2_with fail
              go_ret
              rw [← HR.out, HSOME.out]
              exact Told.some_ rfl hij hj G.out
    | cons b l =>
      have HRR := Lib.hid hr
      have hb := restL_cons hr
      have hb9 := hb.2.2
      have HBL := Lib.hid hb
      have hjs := hb.1
      by_cases h1 : 48 ≤ b ∧ b ≤ 57
      · have k1 : decide ((48 : Int) ≤ (b : Int)) = true := decide_eq_true (by omega)
        have k2 : decide ((b : Int) ≤ 57) = true := decide_eq_true (by omega)
        have hdg : digsF n (restL s j) = digsF (min (10 * n + (b - 48)) 1000) (restL s (j + 1)) := by rw [hr, digsF, if_pos h1, hb.2.1]
        have HDG := Lib.hid hdg
        clear hdg hr hb
        go_wp2_with fail
        refine (peek_cons HRR.out G.out.1 hs).mono ?_
        rintro e w1 ⟨rfl, bx⟩
        have G1 := Lib.hid (G.out.go bx)
        clear bx G
        go_wp2_with fail
        refine (peek_cons HRR.out G1.out.1 hs).mono ?_
        rintro e w2 ⟨rfl, bx⟩
        have G2 := Lib.hid (G1.out.go bx)
        clear bx G1
        go_wp2_with fail
        refine (peek_cons HRR.out G2.out.1 hs).mono ?_
        rintro e w3 ⟨rfl, bx⟩
        have G3 := Lib.hid (G2.out.go bx)
        clear bx G2
        obtain ⟨⟨c0, c1, c2⟩, z0, z1, z2⟩ := G3.out.1.c3
        go_wp2_with fail
        go_roundw
        case rel => exact ⟨j + 1, min (10 * n + (b - 48)) 1000, by omega, by omega, Nat.min_le_right _ _, by congr 1; omega, Lib.hid (X.out.trans HDG.out), Lib.hid G3.out.step⟩
        case measure => rw [G3.out.step.1.idx, HIDX.out]; omega
      · have DG := Lib.hid (show digsF 0 (restL s i) = (n, restL s j) by rw [X.out, hr, digsF, if_neg h1])
        clear hr hb
        by_cases h2 : 48 ≤ b
        · have k1 : decide ((48 : Int) ≤ (b : Int)) = true := decide_eq_true (by omega)
          have k2 : decide ((b : Int) ≤ 57) = false := decide_eq_false (by omega)
          go_wp2_with fail
          refine (peek_cons HRR.out G.out.1 hs).mono ?_
          rintro e w1 ⟨rfl, bx⟩
          have G1 := Lib.hid (G.out.go bx)
          clear bx G
          go_wp2_with fail
          refine (peek_cons HRR.out G1.out.1 hs).mono ?_
          rintro e w2 ⟨rfl, bx⟩
          have G2 := Lib.hid (G1.out.go bx)
          clear bx G1
          have G := G2
          clear G2
          go_upto_region 5 with (fail)
          obtain ⟨⟨c0, c1, c2⟩, -⟩ := G.out.1.c3
          by_cases hji : j = i
          · have kj : ((j : Int) == (i : Int)) = true := by rw [hji]; simp
            have hnone : numP (restL s i) = none := by unfold numP; rw [DG.out, if_pos (by rw [hji])]
            have HNONE := Lib.hid hnone
            clear hnone hji
            go_wp2_with fail
            refine (wrong_any rb s j o _ G.out.1 hs).mono ?_
            rintro e w9 ⟨⟨E, x, rfl, hE⟩, bx⟩
            have HX := Lib.hid hE
            have BX := Lib.hid bx
            clear hE bx
            exact ⟨rfl, by rw [← HR.out, HNONE.out]; exact ⟨⟨E, x, rfl, HX.out⟩, G.out.2.put BX.out G.out.2.size⟩⟩
          · have kj : ((j : Int) == (i : Int)) = false := by rw [beq_eq_false_iff_ne]; omega
            have hil : i < s.size := by omega
            have hilx : i < 256 := by omega
            have hne : ¬ (restL s j).length = (restL s i).length := by rw [restL_len, restL_len]; omega
            have hb0 : restL s i = (s[i]'hil).toNat :: restL s (i + 1) := restL_at hil
            have hb9 := (s[i]'hil).toNat_lt
            obtain ⟨b0, hbb⟩ : ∃ b, (s[i]'hil).toNat = b := ⟨_, rfl⟩
            rw [hbb] at hb0 hb9
            have HB0 := Lib.hid hb0
            clear hb0
            have hlen : (restL s j).length + 1 < (restL s i).length ↔ i + 1 < j := by rw [restL_len, restL_len]; omega
            by_cases h48 : b0 = 48 ∧ i + 1 < j
            · have k48 : ((b0 : Int) == 48) = true := by rw [h48.1]; rfl
              have k49 : decide ((i : Int) + 1 < (j : Int)) = true := decide_eq_true (by omega)
              have k49' : decide (i + 1 < j) = true := decide_eq_true (by omega)
              have hnone : numP (restL s i) = none := by unfold numP; rw [DG.out, if_neg hne, if_pos ⟨by rw [HB0.out, h48.1]; rfl, hlen.2 h48.2⟩]
              have HNONE := Lib.hid hnone
              clear hnone h48 hne hlen hji
              go_wp2_with fail
              refine (fail_any 2 _ _ (by omega)).mono ?_
              rintro e w9 ⟨⟨E, x, rfl, hE⟩, bx⟩
              have HX := Lib.hid hE
              have BX := Lib.hid bx
              clear hE bx
              exact ⟨rfl, by rw [← HR.out, HNONE.out]; exact ⟨⟨E, x, rfl, HX.out⟩, G.out.2.put BX.out G.out.2.size⟩⟩
            · have h2 : ¬ ((restL s i).head? = some 48 ∧ (restL s j).length + 1 < (restL s i).length) := fun h => h48 ⟨by have := h.1; rw [HB0.out] at this; simpa using this, hlen.1 h.2⟩
              have k50 : ((b0 : Int) == 48) = false ∨ ((b0 : Int) == 48) = true ∧ decide ((i : Int) + 1 < (j : Int)) = false ∧ decide (i + 1 < j) = false := by
                by_cases e : b0 = 48
                · exact .inr ⟨by rw [e]; rfl, decide_eq_false (by omega), decide_eq_false (by omega)⟩
                · exact .inl (by rw [beq_eq_false_iff_ne]; omega)
              have NN := Lib.hid (And.intro hne h2)
              clear hne h2 h48 hlen hji
              by_cases h16 : 16 < n
              · have k16 : decide ((16 : Int) < (n : Int)) = true := decide_eq_true (by omega)
                have k16' : decide (16 < n) = true := decide_eq_true h16
                have hnone : numP (restL s i) = none := by unfold numP; rw [DG.out, if_neg NN.out.1, if_neg NN.out.2, if_pos h16]
                have HNONE := Lib.hid hnone
                clear hnone
                rcases k50 with k50 | ⟨k50, k51, k51'⟩
                · go_wp2_with fail
                  refine (fail_any 3 _ _ (by omega)).mono ?_
                  rintro e w9 ⟨⟨E, x, rfl, hE⟩, bx⟩
                  have HX := Lib.hid hE
                  have BX := Lib.hid bx
                  clear hE bx
                  exact ⟨rfl, by rw [← HR.out, HNONE.out]; exact ⟨⟨E, x, rfl, HX.out⟩, G.out.2.put BX.out G.out.2.size⟩⟩
                · go_wp2_with fail
                  refine (fail_any 3 _ _ (by omega)).mono ?_
                  rintro e w9 ⟨⟨E, x, rfl, hE⟩, bx⟩
                  have HX := Lib.hid hE
                  have BX := Lib.hid bx
                  clear hE bx
                  exact ⟨rfl, by rw [← HR.out, HNONE.out]; exact ⟨⟨E, x, rfl, HX.out⟩, G.out.2.put BX.out G.out.2.size⟩⟩
              · have k16 : decide ((16 : Int) < (n : Int)) = false := decide_eq_false (by omega)
                have k16' : decide (16 < n) = false := decide_eq_false h16
                have hsome : numP (restL s i) = some (n, restL s j) := by unfold numP; rw [DG.out, if_neg NN.out.1, if_neg NN.out.2, if_neg h16]
                have HSOME := Lib.hid hsome
                clear hsome
                rcases k50 with k50 | ⟨k50, k51, k51'⟩
                · go_wp2_with fail
                  go_ret
                  rw [← HR.out, HSOME.out]
                  exact Told.some_ rfl hij hj G.out
                · go_wp2_with fail
                  go_ret
                  rw [← HR.out, HSOME.out]
                  exact Told.some_ rfl hij hj G.out
        · have k1 : decide ((48 : Int) ≤ (b : Int)) = false := decide_eq_false (by omega)
          go_wp2_with fail
          refine (peek_cons HRR.out G.out.1 hs).mono ?_
          rintro e w1 ⟨rfl, bx⟩
          have G1 := Lib.hid (G.out.go bx)
          clear bx G
          have G := G1
          clear G1
          go_upto_region 5 with (fail)
          obtain ⟨⟨c0, c1, c2⟩, -⟩ := G.out.1.c3
          by_cases hji : j = i
          · have kj : ((j : Int) == (i : Int)) = true := by rw [hji]; simp
            have hnone : numP (restL s i) = none := by unfold numP; rw [DG.out, if_pos (by rw [hji])]
            have HNONE := Lib.hid hnone
            clear hnone hji
            go_wp2_with fail
            refine (wrong_any rb s j o _ G.out.1 hs).mono ?_
            rintro e w9 ⟨⟨E, x, rfl, hE⟩, bx⟩
            have HX := Lib.hid hE
            have BX := Lib.hid bx
            clear hE bx
            exact ⟨rfl, by rw [← HR.out, HNONE.out]; exact ⟨⟨E, x, rfl, HX.out⟩, G.out.2.put BX.out G.out.2.size⟩⟩
          · have kj : ((j : Int) == (i : Int)) = false := by rw [beq_eq_false_iff_ne]; omega
            have hil : i < s.size := by omega
            have hilx : i < 256 := by omega
            have hne : ¬ (restL s j).length = (restL s i).length := by rw [restL_len, restL_len]; omega
            have hb0 : restL s i = (s[i]'hil).toNat :: restL s (i + 1) := restL_at hil
            have hb9 := (s[i]'hil).toNat_lt
            obtain ⟨b0, hbb⟩ : ∃ b, (s[i]'hil).toNat = b := ⟨_, rfl⟩
            rw [hbb] at hb0 hb9
            have HB0 := Lib.hid hb0
            clear hb0
            have hlen : (restL s j).length + 1 < (restL s i).length ↔ i + 1 < j := by rw [restL_len, restL_len]; omega
            by_cases h48 : b0 = 48 ∧ i + 1 < j
            · have k48 : ((b0 : Int) == 48) = true := by rw [h48.1]; rfl
              have k49 : decide ((i : Int) + 1 < (j : Int)) = true := decide_eq_true (by omega)
              have k49' : decide (i + 1 < j) = true := decide_eq_true (by omega)
              have hnone : numP (restL s i) = none := by unfold numP; rw [DG.out, if_neg hne, if_pos ⟨by rw [HB0.out, h48.1]; rfl, hlen.2 h48.2⟩]
              have HNONE := Lib.hid hnone
              clear hnone h48 hne hlen hji
              go_wp2_with fail
              refine (fail_any 2 _ _ (by omega)).mono ?_
              rintro e w9 ⟨⟨E, x, rfl, hE⟩, bx⟩
              have HX := Lib.hid hE
              have BX := Lib.hid bx
              clear hE bx
              exact ⟨rfl, by rw [← HR.out, HNONE.out]; exact ⟨⟨E, x, rfl, HX.out⟩, G.out.2.put BX.out G.out.2.size⟩⟩
            · have h2 : ¬ ((restL s i).head? = some 48 ∧ (restL s j).length + 1 < (restL s i).length) := fun h => h48 ⟨by have := h.1; rw [HB0.out] at this; simpa using this, hlen.1 h.2⟩
              have k50 : ((b0 : Int) == 48) = false ∨ ((b0 : Int) == 48) = true ∧ decide ((i : Int) + 1 < (j : Int)) = false ∧ decide (i + 1 < j) = false := by
                by_cases e : b0 = 48
                · exact .inr ⟨by rw [e]; rfl, decide_eq_false (by omega), decide_eq_false (by omega)⟩
                · exact .inl (by rw [beq_eq_false_iff_ne]; omega)
              have NN := Lib.hid (And.intro hne h2)
              clear hne h2 h48 hlen hji
              by_cases h16 : 16 < n
              · have k16 : decide ((16 : Int) < (n : Int)) = true := decide_eq_true (by omega)
                have k16' : decide (16 < n) = true := decide_eq_true h16
                have hnone : numP (restL s i) = none := by unfold numP; rw [DG.out, if_neg NN.out.1, if_neg NN.out.2, if_pos h16]
                have HNONE := Lib.hid hnone
                clear hnone
                rcases k50 with k50 | ⟨k50, k51, k51'⟩
                · go_wp2_with fail
                  refine (fail_any 3 _ _ (by omega)).mono ?_
                  rintro e w9 ⟨⟨E, x, rfl, hE⟩, bx⟩
                  have HX := Lib.hid hE
                  have BX := Lib.hid bx
                  clear hE bx
                  exact ⟨rfl, by rw [← HR.out, HNONE.out]; exact ⟨⟨E, x, rfl, HX.out⟩, G.out.2.put BX.out G.out.2.size⟩⟩
                · go_wp2_with fail
                  refine (fail_any 3 _ _ (by omega)).mono ?_
                  rintro e w9 ⟨⟨E, x, rfl, hE⟩, bx⟩
                  have HX := Lib.hid hE
                  have BX := Lib.hid bx
                  clear hE bx
                  exact ⟨rfl, by rw [← HR.out, HNONE.out]; exact ⟨⟨E, x, rfl, HX.out⟩, G.out.2.put BX.out G.out.2.size⟩⟩
              · have k16 : decide ((16 : Int) < (n : Int)) = false := decide_eq_false (by omega)
                have k16' : decide (16 < n) = false := decide_eq_false h16
                have hsome : numP (restL s i) = some (n, restL s j) := by unfold numP; rw [DG.out, if_neg NN.out.1, if_neg NN.out.2, if_neg h16]
                have HSOME := Lib.hid hsome
                clear hsome
                rcases k50 with k50 | ⟨k50, k51, k51'⟩
                · go_wp2_with fail
                  go_ret
                  rw [← HR.out, HSOME.out]
                  exact Told.some_ rfl hij hj G.out
                · go_wp2_with fail
                  go_ret
                  rw [← HR.out, HSOME.out]
                  exact Told.some_ rfl hij hj G.out
/-- what stands in braces, as a method hands it back -/
def bracesT (l : List Nat) : Option ((Int × Int) × List Nat) := (bracesP l).map fun r => ((r.1, r.2.1), r.2.2)
abbrev valTwo (x : Int × Int) (v : Value) (_ : World) : Prop := v = .tuple #[.int .i64 x.1, .int .i64 x.2]
theorem Told.num {w : World} {rb : Nat} {s : ByteArray} {i o : Nat} {e : Ending} {w' : World} (h : Told w rb s i o (numP (restL s i)) valInt e w') :
    (numP (restL s i) = none ∧ Broke e ∧ Only [rb] w w') ∨ (∃ x j, numP (restL s i) = some (x, restL s j) ∧ e = .returned (.int .i64 (x : Int)) ∧ i ≤ j ∧ j ≤ s.size ∧ RdGo w rb s j o w') := by
  cases hn : numP (restL s i) with
  | none => rw [hn] at h; exact .inl ⟨rfl, h⟩
  | some r =>
    obtain ⟨x, l1⟩ := r
    rw [hn] at h
    obtain ⟨v, j, rfl, hv, hl, h1, h2, h3⟩ := h
    exact .inr ⟨x, j, by rw [hl], by rw [hv], h1, h2, h3⟩
set_option maxHeartbeats 8000000 in
set_option maxRecDepth 1000000 in
theorem braces_any (rb : Nat) (s : ByteArray) (i o : Nat) (w : World) (h : Rd w rb s i o) (hs : s.size ≤ 256) (hi : i ≤ s.size) :
    Calls Tryd.prog 67 #[vPtr rb] w (Told w rb s i o (bracesT (restL s i)) valTwo) := by
  have G := Lib.hid (RdGo.refl h)
  have c1 := h.cell 1
  simp only [List.getElem?_toArray, List.getElem?_cons_succ, List.getElem?_cons_zero] at c1
  clear h
  obtain ⟨R, hR⟩ : ∃ R, bracesT (restL s i) = R := ⟨_, rfl⟩
  have HR := Lib.hid hR
  rw [hR]
  clear hR
  go_enter Tryd.func67, Tryd.ntmps67
  go_wp2_with fail
  clear c1
  refine (number13_any rb s i o _ G.out.1 hs hi).mono ?_
  intro e w1 ht
  rcases ht.num with ⟨hn, ⟨E, x9, rfl, hE⟩, ho⟩ | ⟨x, j, hn, rfl, hij, hj, hg⟩
  · have HX := Lib.hid hE
    have HNONE := Lib.hid (show bracesT (restL s i) = none by unfold bracesT bracesP; rw [hn]; rfl)
    clear hn hE ht
    exact ⟨rfl, by rw [← HR.out, HNONE.out]; exact ⟨⟨E, x9, rfl, HX.out⟩, (G.out.2.trans ho)⟩⟩
  have G1 := Lib.hid (G.out.on hg)
  have HN := Lib.hid hn
  clear hg hn ht G
  cases hr : restL s j with
  | nil =>
    have BB := Lib.hid (show bracesP (restL s i) = if x = 0 ∨ x < x then none else some ((x : Int), (x : Int), restL s j) by
      unfold bracesP
      rw [HN.out]
      simp only
      rw [hr]
      simp)
    have HRR := Lib.hid hr
    clear hr
    go_wp2_with fail
    refine (peek_nil HRR.out G1.out.1 hs).mono ?_
    rintro e w2 ⟨rfl, bx⟩
    have G := Lib.hid (G1.out.go bx)
    clear bx G1
    go_upto_region 10 with (fail)
    by_cases hx0 : x = 0
    · have hnone : bracesT (restL s i) = none := by unfold bracesT; rw [BB.out, if_pos (.inl hx0)]; rfl
      have HNONE := Lib.hid hnone
      have k1 : ((x : Int) == 0) = true := by rw [hx0]; rfl
      clear hnone hx0
      go_wp2_with fail
      refine (fail_any 2 _ _ (by omega)).mono ?_
      rintro e w9 ⟨⟨E, x9, rfl, hE⟩, bx⟩
      have HX := Lib.hid hE
      have BX := Lib.hid bx
      clear hE bx
      exact ⟨rfl, by rw [← HR.out, HNONE.out]; exact ⟨⟨E, x9, rfl, HX.out⟩, (G.out.2.put BX.out G.out.2.size)⟩⟩
    · have hsome : bracesT (restL s i) = some (((x : Int), (x : Int)), restL s j) := by unfold bracesT; rw [BB.out, if_neg (by omega)]; rfl
      have HSOME := Lib.hid hsome
      have k1 : ((x : Int) == 0) = false := by rw [beq_eq_false_iff_ne]; omega
      clear hsome hx0
      go_wp2_with fail
      refine bodyPost_ret (results_tmp2 rfl _ _ _) rfl ?_
      rw [← HR.out, HSOME.out]
      exact Told.some_ rfl (by omega) (by omega) G.out
  | cons b l =>
    have hb := restL_cons hr
    have hb9 := hb.2.2
    have hjs := hb.1
    by_cases h44 : b = 44
    · have k44 : ((b : Int) == 44) = true := by rw [h44]; rfl
      have hpar : bracesP (restL s i) = if (restL s (j + 1)).head? = some 125 then some ((x : Int), -1, restL s (j + 1)) else match numP (restL s (j + 1)) with
        | none => none
        | some (y, l2) => if y = 0 ∨ y < x then none else some ((x : Int), (y : Int), l2) := by
        unfold bracesP
        rw [HN.out]
        simp only
        rw [hr, ← hb.2.1, h44]
        simp only [List.head?_cons, if_true, List.tail_cons]
        cases numP (restL s (j + 1)) <;> rfl
      have HPAR := Lib.hid hpar
      have HRR := Lib.hid hr
      clear hr hpar hb h44
      have hj1 : j < 256 := by omega
      go_wp2_with fail
      refine (peek_cons HRR.out G1.out.1 hs).mono ?_
      rintro e w2 ⟨rfl, bx⟩
      have G2 := Lib.hid (G1.out.go bx)
      clear bx G1
      obtain ⟨⟨c0, c1, c2⟩, z0, z1, z2⟩ := G2.out.1.c3
      go_upto_region 6 with (fail)
      have G3 := Lib.hid G2.out.step
      clear c0 c1 c2 z0 z1 z2 G2
      generalize w2.setCell ⟨rb, 1, none⟩ (.int .i64 ((j : Int) + 1)) = w3 at *
      cases hr2 : restL s (j + 1) with
      | nil =>
        have hpar := HPAR.out
        rw [hr2] at hpar
        have HNONE := Lib.hid (show bracesT (restL s i) = none by unfold bracesT; rw [hpar]; rfl)
        have HRR2 := Lib.hid hr2
        clear hpar
        go_wp2_with fail
        refine (peek_nil HRR2.out G3.out.1 hs).mono ?_
        rintro e w4 ⟨rfl, bx⟩
        have G4 := Lib.hid (G3.out.go bx)
        clear bx G3
        obtain ⟨⟨c0, c1, c2⟩, z0, z1, z2⟩ := G4.out.1.c3
        go_wp2_with fail
        refine (number13_any rb s (j + 1) o _ G4.out.1 hs (by omega)).mono ?_
        intro e w5 ht
        rcases ht.num with ⟨hn, ⟨E, x9, rfl, hE⟩, ho⟩ | ⟨y, j2, hn, rfl, hij2, hj2, hg⟩
        · have HX := Lib.hid hE
          clear hn hE ht
          exact ⟨rfl, by rw [← HR.out, HNONE.out]; exact ⟨⟨E, x9, rfl, HX.out⟩, (G4.out.2.trans ho)⟩⟩
        · exfalso
          rw [hr2] at hn
          simp [numP, digsF] at hn
      | cons b2 l2 =>
        have hb2 := restL_cons hr2
        have hjs2 := hb2.1
        by_cases h125 : b2 = 125
        · have k125 : ((b2 : Int) == 125) = true := by rw [h125]; rfl
          have hpar := HPAR.out
          rw [hr2, h125] at hpar
          simp only [List.head?_cons, if_true] at hpar
          have HSOME := Lib.hid (show bracesT (restL s i) = some (((x : Int), (-1 : Int)), restL s (j + 1)) by unfold bracesT; rw [hpar, hr2, h125]; rfl)
          have HRR2 := Lib.hid hr2
          clear hpar hr2 hb2 h125
          go_wp2_with fail
          refine (peek_cons HRR2.out G3.out.1 hs).mono ?_
          rintro e w4 ⟨rfl, bx⟩
          have G4 := Lib.hid (G3.out.go bx)
          clear bx G3
          go_wp2_with fail
          refine bodyPost_ret (results_tmp2 rfl _ _ _) rfl ?_
          rw [← HR.out, HSOME.out]
          exact Told.some_ rfl (by omega) (by omega) G4.out
        · have k125 : ((b2 : Int) == 125) = false := by rw [beq_eq_false_iff_ne]; omega
          have hpar := HPAR.out
          rw [hr2, List.head?_cons, if_neg (by simp; exact h125), ← hr2] at hpar
          have HRR2 := Lib.hid hr2
          have HPAR2 := Lib.hid hpar
          clear hpar hr2 hb2 h125
          go_wp2_with fail
          refine (peek_cons HRR2.out G3.out.1 hs).mono ?_
          rintro e w4 ⟨rfl, bx⟩
          have G4 := Lib.hid (G3.out.go bx)
          clear bx G3
          obtain ⟨⟨c0, c1, c2⟩, z0, z1, z2⟩ := G4.out.1.c3
          go_wp2_with fail
          refine (number13_any rb s (j + 1) o _ G4.out.1 hs (by omega)).mono ?_
          intro e w5 ht
          rcases ht.num with ⟨hn, ⟨E, x9, rfl, hE⟩, ho⟩ | ⟨y, j2, hn, rfl, hij2, hj2, hg⟩
          · have HX := Lib.hid hE
            have HNONE := Lib.hid (show bracesT (restL s i) = none by unfold bracesT; rw [HPAR2.out, hn]; rfl)
            clear hn hE ht
            exact ⟨rfl, by rw [← HR.out, HNONE.out]; exact ⟨⟨E, x9, rfl, HX.out⟩, (G4.out.2.trans ho)⟩⟩
          · have G := Lib.hid (G4.out.on hg)
            have BB := Lib.hid (show bracesP (restL s i) = if y = 0 ∨ y < x then none else some ((x : Int), (y : Int), restL s j2) by rw [HPAR2.out, hn])
            clear hn hg ht G4 c0 c1 c2 z0 z1 z2
            go_upto_region 10 with (fail)
            by_cases hbad : y = 0 ∨ y < x
            · have hnone : bracesT (restL s i) = none := by unfold bracesT; rw [BB.out, if_pos hbad]; rfl
              have HNONE := Lib.hid hnone
              clear hnone
              by_cases hy0 : y = 0
              · have k1 : ((y : Int) == 0) = true := by rw [hy0]; rfl
                clear hy0 hbad
                go_wp2_with fail
                refine (fail_any 2 _ _ (by omega)).mono ?_
                rintro e w9 ⟨⟨E, x9, rfl, hE⟩, bx⟩
                have HX := Lib.hid hE
                have BX := Lib.hid bx
                clear hE bx
                exact ⟨rfl, by rw [← HR.out, HNONE.out]; exact ⟨⟨E, x9, rfl, HX.out⟩, (G.out.2.put BX.out G.out.2.size)⟩⟩
              · have k1 : ((y : Int) == 0) = false := by rw [beq_eq_false_iff_ne]; omega
                have k2 : decide ((y : Int) < (x : Int)) = true := decide_eq_true (by omega)
                have k2' : decide (y < x) = true := decide_eq_true (by omega)
                clear hy0 hbad
                go_wp2_with fail
                refine (fail_any 2 _ _ (by omega)).mono ?_
                rintro e w9 ⟨⟨E, x9, rfl, hE⟩, bx⟩
                have HX := Lib.hid hE
                have BX := Lib.hid bx
                clear hE bx
                exact ⟨rfl, by rw [← HR.out, HNONE.out]; exact ⟨⟨E, x9, rfl, HX.out⟩, (G.out.2.put BX.out G.out.2.size)⟩⟩
            · have hsome : bracesT (restL s i) = some (((x : Int), (y : Int)), restL s j2) := by unfold bracesT; rw [BB.out, if_neg hbad]; rfl
              have HSOME := Lib.hid hsome
              have k1 : ((y : Int) == 0) = false := by rw [beq_eq_false_iff_ne]; omega
              have k2 : decide ((y : Int) < (x : Int)) = false := decide_eq_false (by omega)
              have k2' : decide (y < x) = false := decide_eq_false (by omega)
              clear hsome hbad
              go_wp2_with fail
              refine bodyPost_ret (results_tmp2 rfl _ _ _) rfl ?_
              rw [← HR.out, HSOME.out]
              exact Told.some_ rfl (by omega) (by omega) G.out
    · have k44 : ((b : Int) == 44) = false := by rw [beq_eq_false_iff_ne]; omega
      have BB := Lib.hid (show bracesP (restL s i) = if x = 0 ∨ x < x then none else some ((x : Int), (x : Int), restL s j) by
        unfold bracesP
        rw [HN.out]
        simp only
        rw [hr, List.head?_cons, if_neg (by simp; exact h44)]
        simp)
      have HRR := Lib.hid hr
      clear hr h44 hb
      go_wp2_with fail
      refine (peek_cons HRR.out G1.out.1 hs).mono ?_
      rintro e w2 ⟨rfl, bx⟩
      have G := Lib.hid (G1.out.go bx)
      clear bx G1
      go_upto_region 10 with (fail)
      by_cases hx0 : x = 0
      · have hnone : bracesT (restL s i) = none := by unfold bracesT; rw [BB.out, if_pos (.inl hx0)]; rfl
        have HNONE := Lib.hid hnone
        have k1 : ((x : Int) == 0) = true := by rw [hx0]; rfl
        clear hnone hx0
        go_wp2_with fail
        refine (fail_any 2 _ _ (by omega)).mono ?_
        rintro e w9 ⟨⟨E, x9, rfl, hE⟩, bx⟩
        have HX := Lib.hid hE
        have BX := Lib.hid bx
        clear hE bx
        exact ⟨rfl, by rw [← HR.out, HNONE.out]; exact ⟨⟨E, x9, rfl, HX.out⟩, (G.out.2.put BX.out G.out.2.size)⟩⟩
      · have hsome : bracesT (restL s i) = some (((x : Int), (x : Int)), restL s j) := by unfold bracesT; rw [BB.out, if_neg (by omega)]; rfl
        have HSOME := Lib.hid hsome
        have k1 : ((x : Int) == 0) = false := by rw [beq_eq_false_iff_ne]; omega
        clear hsome hx0
        go_wp2_with fail
        refine bodyPost_ret (results_tmp2 rfl _ _ _) rfl ?_
        rw [← HR.out, HSOME.out]
        exact Told.some_ rfl (by omega) (by omega) G.out
end Go.Proofs.YtpknglbpbodnbaaDoor
