/-
  The reader of patterns: its state in memory; the walks of peek, fail, wrong, need, hex. Conditions: the text has 256 bytes at most.
-/
import Derived.Test.YtpknglbpbodnbaaDoorJRgSets
import Derived.Test.YtpknglbpbodnbaaDoorJRgParse
import Derived.Test.YtpknglbpbodnbaaDoorJRgTellSt
namespace Go.Proofs.YtpknglbpbodnbaaDoor
set_option linter.unusedVariables false
set_option linter.unusedSimpArgs false
open Go.RowKit Go.Sort Cs Rg Go.ChangeShapes Go.WideShapes

/-- the reader at a place, so many brackets open -/
abbrev Rd (w : World) (rb : Nat) (s : ByteArray) (i o : Nat) : Prop := Blk w rb 72 #[.string s, .int .i64 (i : Int), .int .i64 (o : Int)]
/-- what is left -/
def restL (s : ByteArray) (i : Nat) : List Nat := (natsOf s).drop i
def pkI : List Nat → Int
  | [] => -1
  | b :: _ => (b : Int)
theorem restL_end {s : ByteArray} {i : Nat} (h : s.size ≤ i) : restL s i = [] := List.drop_eq_nil_of_le (by rw [natsOf_len]; exact h)
theorem restL_at {s : ByteArray} {i : Nat} (h : i < s.size) : restL s i = (s[i]'h).toNat :: restL s (i + 1) := by
  unfold restL
  have h1 := natsOf_at h
  have h2 : i < (natsOf s).length := by rw [natsOf_len]; exact h
  rw [List.drop_eq_getElem_cons h2]
  congr 1
  rw [List.getElem?_eq_getElem h2] at h1
  exact Option.some.inj h1
theorem restL_nil {s : ByteArray} {i : Nat} (h : restL s i = []) : s.size ≤ i := by
  rcases Nat.lt_or_ge i s.size with h1 | h1
  · rw [restL_at h1] at h; cases h
  · exact h1
theorem restL_cons {s : ByteArray} {i b : Nat} {l : List Nat} (h : restL s i = b :: l) : i < s.size ∧ restL s (i + 1) = l ∧ b < 256 := by
  rcases Nat.lt_or_ge i s.size with h1 | h1
  · rw [restL_at h1] at h
    injection h with h2 h3
    exact ⟨h1, h3, by rw [← h2]; exact (s[i]'h1).toNat_lt⟩
  · rw [restL_end h1] at h; cases h
theorem restL_len (s : ByteArray) (i : Nat) : (restL s i).length = s.size - i := by unfold restL; rw [List.length_drop, natsOf_len]
theorem restL_bytes (s : ByteArray) (i : Nat) : BytesL (restL s i) := fun b hb => natsOf_bytes s b (List.mem_of_mem_drop hb)
/-- given up with -/
def Broke (e : Ending) : Prop := ∃ E x : Int, e = .panicked [{ v := .iface 69 (.agg #[.int .i64 E, .int .i64 x]), recovered := false }] ∧ (E = 1 ∨ E = 2 ∨ E = 3)

set_option maxHeartbeats 8000000 in
set_option maxRecDepth 1000000 in
theorem peek_any (rb : Nat) (s : ByteArray) (i o : Nat) (w : World) (h : Rd w rb s i o) (hs : s.size ≤ 256) :
    Calls Tryd.prog 56 #[vPtr rb] w fun e w' => e = .returned (.int .i64 (pkI (restL s i))) ∧ Below w.heap.size w w' := by
  have c0 : ∀ d os, (Sort.grow (redrawn w d) os).cell? ⟨rb, 0, none⟩ = some (.string s) := fun d os => ((below_regrown w d os).cell (p := ⟨rb, 0, none⟩) h.lt).trans (h.cell 0)
  have c1 : ∀ d os, (Sort.grow (redrawn w d) os).cell? ⟨rb, 1, none⟩ = some (.int .i64 (i : Int)) := fun d os => ((below_regrown w d os).cell (p := ⟨rb, 1, none⟩) h.lt).trans (h.cell 1)
  have H := Lib.hid h
  clear h
  go_enter Tryd.func56, Tryd.ntmps56
  go_wp2_with fail
  by_cases hi : i < s.size
  · have k1 : decide ((s.size : Int) ≤ (i : Int)) = false := decide_eq_false (by omega)
    have k1' : decide (s.size ≤ i) = false := decide_eq_false (by omega)
    have hr := restL_at hi
    have HR := Lib.hid hr
    clear hr
    refine wp_region_quiet_below (by kernel_rfl) (by kernel_rfl) ?_
    repeat (go_big_quiet_step (fail))
    refine wpQuiet_nil ?_
    intro _ hw'
    obtain ⟨⟨dq, osq⟩, hw''⟩ := hw'
    subst hw''
    have bb : Below w.heap.size w (Sort.grow (redrawn w dq) osq) := below_regrown w dq osq
    have hR2 : Rd (Sort.grow (redrawn w dq) osq) rb s i o := H.out.below bb H.out.lt
    have HB := Lib.hid (And.intro bb hR2)
    clear bb hR2 c0 c1
    generalize Sort.grow (redrawn w dq) osq = w2 at *
    have c0 : ∀ d os, (Sort.grow (redrawn w2 d) os).cell? ⟨rb, 0, none⟩ = some (.string s) := fun d os => ((below_regrown w2 d os).cell (p := ⟨rb, 0, none⟩) HB.out.2.lt).trans (HB.out.2.cell 0)
    have c1 : ∀ d os, (Sort.grow (redrawn w2 d) os).cell? ⟨rb, 1, none⟩ = some (.int .i64 (i : Int)) := fun d os => ((below_regrown w2 d os).cell (p := ⟨rb, 1, none⟩) HB.out.2.lt).trans (HB.out.2.cell 1)
    have hsz : i < 256 := by omega
    have hb := (s[i]'hi).toNat_lt
    obtain ⟨b, hbb⟩ : ∃ b, (s[i]'hi).toNat = b := ⟨_, rfl⟩
    go_wp2_with fail
    refine wp_region_quiet_below (by kernel_rfl) (by kernel_rfl) ?_
    repeat (go_big_quiet_step (fail))
    refine wpQuiet_nil ?_
    intro _ hw'
    obtain ⟨⟨dq, osq⟩, hw''⟩ := hw'
    subst hw''
    have bb : Below w2.heap.size w2 (Sort.grow (redrawn w2 dq) osq) := below_regrown w2 dq osq
    have HB2 := Lib.hid (HB.out.1.trans (bb.mono HB.out.1.size))
    clear bb c0 c1
    generalize Sort.grow (redrawn w2 dq) osq = w3 at *
    go_wp2_with fail
    go_ret
    exact ⟨by rw [HR.out, hbb]; rfl, HB2.out⟩
  · have k1 : decide ((s.size : Int) ≤ (i : Int)) = true := decide_eq_true (by omega)
    have k1' : decide (s.size ≤ i) = true := decide_eq_true (by omega)
    have hr := restL_end (s := s) (i := i) (by omega)
    have HR := Lib.hid hr
    clear hr
    refine wp_region_quiet_below (by kernel_rfl) (by kernel_rfl) ?_
    repeat (go_big_quiet_step (fail))
    refine wpQuiet_nil ?_
    intro _ hw'
    obtain ⟨⟨dq, osq⟩, hw''⟩ := hw'
    subst hw''
    have bb : Below w.heap.size w (Sort.grow (redrawn w dq) osq) := below_regrown w dq osq
    have HB := Lib.hid bb
    clear bb c0 c1
    generalize Sort.grow (redrawn w dq) osq = w2 at *
    go_wp2_with fail
    go_ret
    exact ⟨by rw [HR.out]; rfl, HB.out⟩
set_option maxHeartbeats 8000000 in
set_option maxRecDepth 1000000 in
theorem fail_any (E x : Int) (w : World) (hE : E = 1 ∨ E = 2 ∨ E = 3) :
    Calls Tryd.prog 58 #[.int .i64 E, .int .i64 x] w fun e w' => Broke e ∧ Below w.heap.size w w' := by
  have HE := Lib.hid hE
  clear hE
  go_enter Tryd.func58, Tryd.ntmps58
  go_wp2_with fail
  exact ⟨rfl, ⟨E, x, rfl, HE.out⟩, Below.refl _ _⟩
set_option maxHeartbeats 8000000 in
set_option maxRecDepth 1000000 in
theorem wrong_any (rb : Nat) (s : ByteArray) (i o : Nat) (w : World) (h : Rd w rb s i o) (hs : s.size ≤ 256) :
    Calls Tryd.prog 41 #[vPtr rb] w fun e w' => Broke e ∧ Below w.heap.size w w' := by
  have H := Lib.hid h
  clear h
  go_enter Tryd.func41, Tryd.ntmps41
  go_wp2_with fail
  refine (peek_any rb s _ o _ H.out hs).mono ?_
  rintro e w1 ⟨rfl, bx⟩
  have HB := Lib.hid bx
  clear bx
  have h1 := H.out.below HB.out H.out.lt
  obtain ⟨⟨c0, c1, c2⟩, -⟩ := h1.c3
  clear h1
  cases hr : restL s i with
  | nil =>
    have HR := Lib.hid hr
    clear hr
    simp only [pkI]
    go_wp2_with fail
    refine (fail_any 1 _ _ (by omega)).mono ?_
    rintro e w2 ⟨⟨E, x, rfl, hE⟩, bx⟩
    have HX := Lib.hid (And.intro hE (HB.out.trans (bx.mono HB.out.size)))
    clear bx hE
    exact ⟨rfl, ⟨E, x, rfl, HX.out.1⟩, HX.out.2⟩
  | cons b l =>
    have HR := Lib.hid hr
    clear hr
    simp only [pkI]
    have k1 : decide ((b : Int) < 0) = false := decide_eq_false (by omega)
    go_wp2_with fail
    refine (fail_any 2 _ _ (by omega)).mono ?_
    rintro e w2 ⟨⟨E, x, rfl, hE⟩, bx⟩
    have HX := Lib.hid (And.intro hE (HB.out.trans (bx.mono HB.out.size)))
    clear bx hE
    exact ⟨rfl, ⟨E, x, rfl, HX.out.1⟩, HX.out.2⟩
theorem Rd.step {w : World} {rb : Nat} {s : ByteArray} {i o : Nat} (h : Rd w rb s i o) : Rd (w.setCell ⟨rb, 1, none⟩ (.int .i64 ((i : Int) + 1))) rb s (i + 1) o := by
  have h1 := h.set_ 1 (.int .i64 ((i : Int) + 1))
  exact h1
/-- on the way: the reader stands at i, and nothing else has turned -/
abbrev RdGo (w : World) (rb : Nat) (s : ByteArray) (i o : Nat) (w' : World) : Prop := Rd w' rb s i o ∧ Only [rb] w w'
theorem RdGo.go {w w' w2 : World} {rb : Nat} {s : ByteArray} {i o : Nat} (h : RdGo w rb s i o w') (hb : Below w'.heap.size w' w2) : RdGo w rb s i o w2 := ⟨h.1.below hb h.1.lt, h.2.put hb h.2.size⟩
theorem RdGo.step {w w' : World} {rb : Nat} {s : ByteArray} {i o : Nat} (h : RdGo w rb s i o w') : RdGo w rb s (i + 1) o (w'.setCell ⟨rb, 1, none⟩ (.int .i64 ((i : Int) + 1))) := ⟨h.1.step, h.2.setCell (a := ⟨rb, 1, none⟩) (by simp) _⟩
theorem RdGo.on {w w' w2 : World} {rb : Nat} {s : ByteArray} {i i2 o o2 : Nat} (h : RdGo w rb s i o w') (h2 : RdGo w' rb s i2 o2 w2) : RdGo w rb s i2 o2 w2 := ⟨h2.1, h.2.trans h2.2⟩
theorem RdGo.refl {w : World} {rb : Nat} {s : ByteArray} {i o : Nat} (h : Rd w rb s i o) : RdGo w rb s i o w := ⟨h, Only.refl _ _⟩
set_option maxHeartbeats 8000000 in
set_option maxRecDepth 1000000 in
theorem need_any (rb : Nat) (s : ByteArray) (i o c : Nat) (w : World) (h : Rd w rb s i o) (hs : s.size ≤ 256) (hc : c < 256) :
    Calls Tryd.prog 68 #[vPtr rb, .int .u8 (c : Int)] w fun e w' => (((restL s i).head? = some c ∧ e = .returned (.tuple #[]) ∧ RdGo w rb s (i + 1) o w') ∨ ((restL s i).head? ≠ some c ∧ Broke e ∧ Only [rb] w w')) := by
  have H := Lib.hid (RdGo.refl h)
  clear h
  have HD := Lib.hid H.out.1
  go_enter Tryd.func68, Tryd.ntmps68
  go_wp2_with fail
  refine (peek_any rb s _ o _ HD.out hs).mono ?_
  rintro e w1 ⟨rfl, bx⟩
  have HB := Lib.hid bx
  clear bx
  have H1 := Lib.hid (H.out.go HB.out)
  clear HD H HB
  obtain ⟨⟨c0, c1, c2⟩, z0, z1, z2⟩ := H1.out.1.c3
  by_cases hh : (restL s i).head? = some c
  · have hp : pkI (restL s i) = (c : Int) := by
      cases hr : restL s i with
      | nil => rw [hr] at hh; cases hh
      | cons b l => rw [hr] at hh; simp at hh; rw [hh]; rfl
    have hi : i < 256 := by
      cases hr : restL s i with
      | nil => rw [hr] at hh; cases hh
      | cons b l => have := (restL_cons hr).1; omega
    rw [hp]
    have HH := Lib.hid hh
    clear hp hh
    go_wp2_with fail
    refine bodyPost_end (results_none rfl _ _ _) rfl ?_
    exact .inl ⟨HH.out, rfl, H1.out.step⟩
  · have hp : (pkI (restL s i) != (c : Int)) = true := by
      rw [bne_iff_ne]
      cases hr : restL s i with
      | nil => simp [pkI] <;> omega
      | cons b l =>
        intro e
        simp only [pkI] at e
        apply hh
        rw [hr]
        have : b = c := by omega
        rw [this]; rfl
    have HH := Lib.hid hh
    clear hh
    obtain ⟨p, hpp⟩ : ∃ p, pkI (restL s i) = p := ⟨_, rfl⟩
    rw [hpp] at hp ⊢
    clear hpp
    go_wp2_with fail
    refine (wrong_any rb s i o _ H1.out.1 hs).mono ?_
    rintro e w2 ⟨⟨E, x, rfl, hE⟩, bx⟩
    exact ⟨rfl, .inr ⟨HH.out, ⟨E, x, rfl, hE⟩, H1.out.2.put bx H1.out.2.size⟩⟩
/-- a digit's number; -1: none -/
def hexI (b : Nat) : Int := if 48 ≤ b ∧ b ≤ 57 then (b : Int) - 48 else if 97 ≤ b ∧ b ≤ 102 then (b : Int) - 97 + 10 else -1
theorem hexI_some {b x : Nat} (h : hexV b = some x) : hexI b = (x : Int) := by
  unfold hexV at h
  unfold hexI
  split at h
  · rename_i h1; rw [if_pos h1]; injection h with h; omega
  · rename_i h1
    split at h
    · rename_i h2; rw [if_neg h1, if_pos h2]; injection h with h; omega
    · cases h
theorem hexI_none {b : Nat} (h : hexV b = none) : hexI b = -1 := by
  unfold hexV at h
  unfold hexI
  split at h
  · cases h
  · rename_i h1
    split at h
    · cases h
    · rename_i h2; rw [if_neg h1, if_neg h2]
set_option maxHeartbeats 8000000 in
set_option maxRecDepth 1000000 in
theorem hex_any (b : Nat) (w : World) (hb : b < 256) :
    Calls Tryd.prog 85 #[.int .i64 (b : Int)] w fun e w' => e = .returned (.int .i64 (hexI b)) ∧ w' = w := by
  obtain ⟨R, hR⟩ : ∃ R, hexI b = R := ⟨_, rfl⟩
  rw [hR]
  unfold hexI at hR
  by_cases h1 : 48 ≤ b
  · have k1 : decide ((48 : Int) ≤ (b : Int)) = true := decide_eq_true (by omega)
    by_cases h2 : b ≤ 57
    · have k2 : decide ((b : Int) ≤ 57) = true := decide_eq_true (by omega)
      have hv : (b : Int) - 48 = R := by rw [if_pos ⟨h1, h2⟩] at hR; exact hR
      clear hR
      have HV := Lib.hid hv
      clear hv
      go_enter Tryd.func85, Tryd.ntmps85
      go_wp2_with fail
      go_ret
      exact ⟨by rw [← HV.out]; rfl, rfl⟩
    · have k2 : decide ((b : Int) ≤ 57) = false := decide_eq_false (by omega)
      by_cases h3 : 97 ≤ b
      · have k3 : decide ((97 : Int) ≤ (b : Int)) = true := decide_eq_true (by omega)
        by_cases h4 : b ≤ 102
        · have k4 : decide ((b : Int) ≤ 102) = true := decide_eq_true (by omega)
          have hv : (b : Int) - 97 + 10 = R := by rw [if_neg (by omega), if_pos ⟨h3, h4⟩] at hR; exact hR
          clear hR
          have HV := Lib.hid hv
          clear hv
          go_enter Tryd.func85, Tryd.ntmps85
          go_wp2_with fail
          go_ret
          exact ⟨by rw [← HV.out]; rfl, rfl⟩
        · have k4 : decide ((b : Int) ≤ 102) = false := decide_eq_false (by omega)
          have hv : (-1 : Int) = R := by rw [if_neg (by omega), if_neg (by omega)] at hR; exact hR
          clear hR
          have HV := Lib.hid hv
          clear hv
          go_enter Tryd.func85, Tryd.ntmps85
          go_wp2_with fail
          go_ret
          exact ⟨by rw [← HV.out]; rfl, rfl⟩
      · have k3 : decide ((97 : Int) ≤ (b : Int)) = false := decide_eq_false (by omega)
        have hv : (-1 : Int) = R := by rw [if_neg (by omega), if_neg (by omega)] at hR; exact hR
        clear hR
        have HV := Lib.hid hv
        clear hv
        go_enter Tryd.func85, Tryd.ntmps85
        go_wp2_with fail
        go_ret
        exact ⟨by rw [← HV.out]; rfl, rfl⟩
  · have k1 : decide ((48 : Int) ≤ (b : Int)) = false := decide_eq_false (by omega)
    have k3 : decide ((97 : Int) ≤ (b : Int)) = false := decide_eq_false (by omega)
    have hv : (-1 : Int) = R := by rw [if_neg (by omega), if_neg (by omega)] at hR; exact hR
    clear hR
    have HV := Lib.hid hv
    clear hv
    go_enter Tryd.func85, Tryd.ntmps85
    go_wp2_with fail
    go_ret
    exact ⟨by rw [← HV.out]; rfl, rfl⟩
end Go.Proofs.YtpknglbpbodnbaaDoor
