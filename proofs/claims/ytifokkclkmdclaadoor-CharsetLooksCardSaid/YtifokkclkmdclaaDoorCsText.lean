/-
  The contract of Text of package charset. Conditions: the words fit; the library's table lies as laid.
-/
import Derived.Test.YtifokkclkmdclaaDoorCsEq
namespace Go.Proofs.YtifokkclkmdclaaDoor
set_option linter.unusedVariables false
open Go.RowKit Go.Sort Cs

theorem Tryd.info5 : (Tryd.prog.info? 5).map (fun i => (i.zero, i.size, i.bytes)) = some (some (.int .u8 0), 1, 1) := by kernel_rfl

/-- the bytes below k, rising -/
def bytesTo (s : Nat → Int) (k : Nat) : List UInt8 := ((List.range k).filter fun b => hasS s b).map UInt8.ofNat
theorem bytesTo_succ (s : Nat → Int) (k : Nat) : bytesTo s (k + 1) = bytesTo s k ++ if hasS s k = true then [UInt8.ofNat k] else [] := by
  unfold bytesTo
  rw [List.range_succ, List.filter_append, List.map_append]
  by_cases h : hasS s k = true
  · simp [h]
  · simp [h]
theorem bytesTo_same (s : Nat → Int) (k m : Nat) (hkm : k ≤ m) (h : ∀ b, k ≤ b → b < m → hasS s b = false) : bytesTo s m = bytesTo s k := by
  induction hkm with
  | refl => rfl
  | step hkm ih =>
    rename_i m
    rw [bytesTo_succ, h m hkm (by omega), ih (fun b h1 h2 => h b h1 (by omega))]
    simp
theorem bytesTo_len (s : Nat → Int) (k : Nat) : (bytesTo s k).length = cnt s k := by
  induction k with
  | zero => rfl
  | succ k ih => rw [bytesTo_succ, List.length_append, ih, cnt_succ]; split <;> rfl

/-- what is left of s: its bytes from k on -/
structure LeftS (s : Nat → Int) (k : Nat) (cur : Nat → Int) : Prop where
  fits : SetIn cur
  has : ∀ b, b < 256 → hasS cur b = (decide (k ≤ b) && hasS s b)
theorem left_next (s : Nat → Int) (k m : Nat) (cur : Nat → Int) (h : LeftS s k cur) (hkm : k ≤ m) (hm : m < 256) (hbetween : ∀ b, k ≤ b → b < m → hasS s b = false) : LeftS s (m + 1) (lessS cur (ofS m m)) :=
  ⟨lessIn h.fits, fun b hb => by
    rw [has_less _ _ _ h.fits (ofIn _ _), h.has b hb, has_of]
    by_cases h1 : b < k
    · have h2 : ¬ k ≤ b := by omega
      have h3 : ¬ m + 1 ≤ b := by omega
      simp [h2, h3]
    · by_cases h4 : b < m
      · rw [hbetween b (by omega) h4]; simp
      · by_cases h5 : b = m
        · subst h5
          have h9 : ¬ b + 1 ≤ b := by omega
          simp [h9]
        · have h6 : m + 1 ≤ b := by omega
          have h7 : k ≤ b := by omega
          have h8 : ¬ b ≤ m := by omega
          simp [h6, h7, h8]⟩
theorem left_none (s : Nat → Int) (k : Nat) (cur : Nat → Int) (h : LeftS s k cur) (hno : ∀ b, k ≤ b → b < 256 → hasS s b = false) : ∀ i, i < 4 → cur i = noneS i :=
  ext cur noneS h.fits noneIn fun b hb => by
    rw [h.has b hb, has_none]
    by_cases h1 : k ≤ b
    · rw [hno b h1 hb]; simp
    · simp [h1]
theorem not_none (cur : Nat → Int) (m : Nat) (hm : m < 256) (h : hasS cur m = true) : false = true ↔ ∀ i, i < 4 → cur i = noneS i := by
  constructor
  · intro h; cases h
  · intro h0
    unfold hasS at h
    rw [h0 (m / 64) (by omega)] at h
    simp [noneS] at h
theorem least_of_any (P : Nat → Prop) [DecidablePred P] (n : Nat) (h : ∃ b, b < n ∧ P b) : ∃ b, b < n ∧ P b ∧ ∀ c, c < b → ¬ P c := by
  induction n with
  | zero => obtain ⟨b, hb, _⟩ := h; omega
  | succ n ih =>
    by_cases h1 : ∃ b, b < n ∧ P b
    · obtain ⟨b, hb, hp, hl⟩ := ih h1
      exact ⟨b, by omega, hp, hl⟩
    · obtain ⟨b, hb, hp⟩ := h
      exact ⟨b, hb, hp, fun c hc hpc => h1 ⟨c, by omega, hpc⟩⟩

/-- a slice's length -/
def lenOf : Value → Nat
  | .slice _ n _ => n
  | _ => 0
theorem own_lenOf {w : World} {base : Nat} {e : TypeId} {size n : Nat} {v : Value} {xs : List Value} (h : w.ownsRow base e size v n xs) : lenOf v = n := by
  rcases h.2 with ⟨rfl, h0⟩ | ⟨g, cap, cur, rfl, _⟩
  · exact h0.symm
  · rfl
theorem grown_set1 (w : World) (a : Addr) (u : Value) : w.grownBy (w.setCell a u) (some a.block) :=
  ⟨rfl, rfl, rfl, by simp, fun k _ hk => heap_setCell_other w a k u (fun e => hk (by simp [e]))⟩
theorem row_set4 {w : World} {base : Nat} {e : TypeId} {size n g : Nat} {v : Value} {xs : List Value} (h : w.ownsRow base e size v n xs) (u0 u1 u2 u3 : Value) (hg : v.ownBlock = none ∨ v.ownBlock ≠ some g) :
    ((((w.setCell ⟨g, 0, none⟩ u0).setCell ⟨g, 1, none⟩ u1).setCell ⟨g, 2, none⟩ u2).setCell ⟨g, 3, none⟩ u3).ownsRow base e size v n xs :=
  (((h.kept (grown_set1 _ ⟨g, 0, none⟩ u0) hg).kept (grown_set1 _ ⟨g, 1, none⟩ u1) hg).kept (grown_set1 _ ⟨g, 2, none⟩ u2) hg).kept (grown_set1 _ ⟨g, 3, none⟩ u3) hg

set_option maxHeartbeats 4000000 in
set_option maxRecDepth 100000 in
theorem text_any (s : Nat → Int) (w : World) (hs : SetIn s) (hT : TabIn w) :
    Calls Tryd.prog 14 #[setV s] w fun e w' => e = .returned (.string (txt (bytesTo s 256))) ∧ Below w.heap.size w w' := by
  obtain ⟨i0, hi, hz0, hz1, hz2⟩ := info_parts Tryd.info5
  have HT := Lib.hid hT
  clear hT
  go_enter Tryd.func14, Tryd.ntmps14
  go_wp2_with fail
  have F1 := Lib.hid (Four.new w s 24)
  have b1 : Below w.heap.size w (w.alloc (.cells #[.int .u64 (s 0), .int .u64 (s 1), .int .u64 (s 2), .int .u64 (s 3)] 24)) := (Below.refl _ _).alloc (Nat.le_refl _) _
  have hz : w.heap.size < (w.alloc (.cells #[.int .u64 (s 0), .int .u64 (s 1), .int .u64 (s 2), .int .u64 (s 3)] 24)).heap.size := by simp
  generalize w.alloc (.cells #[.int .u64 (s 0), .int .u64 (s 1), .int .u64 (s 2), .int .u64 (s 3)] 24) = w1 at *
  go_loopw [3] (fun v wr => ∃ (k : Nat) (cur : Nat → Int), k ≤ 256 ∧ Hid (Four wr w.heap.size cur) ∧ Hid (LeftS s k cur) ∧ wr.ownsRow (w.heap.size + 1) 5 1 v (bytesTo s k).length (byteCells (bytesTo s k)) ∧ Below w.heap.size w wr ∧ w.heap.size < wr.heap.size) (fun v wr => 256 - lenOf v)
  case atStart => exact ⟨0, s, by omega, F1, Lib.hid ⟨hs, fun b hb => by simp⟩, World.ownsRow_nil _ _ _ _, b1, hz⟩
  case round =>
    clear F1 b1 hz
    obtain ⟨k, cur, hk, G1, HL, hrow, hB, hz⟩ := hrel
    have c0 := G1.out.cell 0 (by omega)
    have c1 := G1.out.cell 1 (by omega)
    have c2 := G1.out.cell 2 (by omega)
    have c3 := G1.out.cell 3 (by omega)
    by_cases hany : ∃ b, b < 256 ∧ (k ≤ b ∧ hasS s b = true)
    · obtain ⟨m, hm, ⟨hkm, hhit⟩, hleast⟩ := least_of_any (fun b => k ≤ b ∧ hasS s b = true) 256 hany
      have hbetween : ∀ b, k ≤ b → b < m → hasS s b = false := fun b h1 h2 => by
        cases hh : hasS s b with
        | false => rfl
        | true => exact absurd ⟨h1, hh⟩ (hleast b h2)
      have hch : hasS cur m = true := by rw [HL.out.has m hm]; simp [hkm, hhit]
      have hcl : ∀ b, b < m → hasS cur b = false := fun b hb => by
        rw [HL.out.has b (by omega)]
        by_cases h1 : k ≤ b
        · rw [hbetween b h1 hb]; simp
        · simp [h1]
      have heq := run_eq_none cur false (not_none cur m hm hch)
      have HN := Lib.hid (left_next s k m cur HL.out hkm hm hbetween)
      have hlen : (bytesTo s (m + 1)).length = (bytesTo s k).length + 1 := by rw [bytesTo_succ, hhit, bytesTo_same s k m hkm hbetween]; simp
      have hnew : bytesTo s (m + 1) = bytesTo s k ++ [UInt8.ofNat m] := by rw [bytesTo_succ, hhit, bytesTo_same s k m hkm hbetween]; simp
      have hm8 : ((UInt8.ofNat m).toNat : Int) = m := by rw [UInt8.toNat_ofNat']; omega
      have hle : (bytesTo s (m + 1)).length ≤ 256 := by rw [bytesTo_len]; exact Nat.le_trans (cnt_le s _) (by omega)
      have HLEN := Lib.hid hlen
      have HNEW := Lib.hid hnew
      have HM8 := Lib.hid hm8
      have HCH := Lib.hid hch
      have HCL := Lib.hid hcl
      have hm5 : (m : Int) < 256 := by omega
      have HB5 := Lib.hid hbetween
      obtain ⟨N, hN⟩ : ∃ N, (bytesTo s k).length = N := ⟨_, rfl⟩
      have hN1 : N + 1 ≤ 256 := by omega
      rw [hN] at hrow
      have LN := Lib.hid (own_lenOf hrow)
      have HNN := Lib.hid hN
      have hfit := Lib.hid HL.out.fits
      have h63 : N + 1 ≤ maxLen := by unfold maxLen; omega
      have h47 : (N + 1) * 1 ≤ 140737488355328 := by omega
      clear hany hhit hleast hbetween hch hcl hlen hnew hm8 hle hN
      go_wp2_with fail
      refine (first_yes cur m _ hfit.out hm HCH.out HCL.out (HT.out.below hB)).mono ?_
      rintro e w2 ⟨rfl, b2⟩
      have hrow2 := hrow.kept (w' := w2) (row := none) ⟨b2.os, b2.tape, b2.output, b2.size, fun k hk _ => b2.block k hk⟩ (Classical.em _)
      have hB2 : Below w.heap.size w w2 := hB.trans (b2.mono hB.size)
      have G2 := Lib.hid (G1.out.below b2 hz)
      have hy2 : w.heap.size < w2.heap.size := by have := b2.size; omega
      clear c0 c1 c2 c3 hrow hB hz b2 heq
      go_wp2_with (at_builtin; refine wpList_append_own _ rfl _ _ 38 rfl (w.heap.size + 1) 5 i0 (.int .u8 0) 1 1 Tryd.underlying38 hi hz0 hz1 hz2 rfl (by decide) _ _ _ rfl (hrow2.alloc _) ⟨w2.heap.size, 0, none⟩ 1 1 [.int .u8 m] rfl rfl one_new (fun u hu => by simp at hu; subst hu; rfl) h63 h47 (by simp <;> omega) ?_)

      intro v' w3 hown3 hgrow3 _
      have hB3 : Below w.heap.size w w3 := (hB2.alloc (by omega) _).grown hgrow3 (by simp; omega) (fun j hj => by have := (hrow2.lt j hj).1; omega)
      have G3 := Lib.hid ((G2.out.old (.cells #[.int .u8 m] 5) hy2).grown hgrow3 (by simp; omega) (fun e => by have := (hrow2.lt _ e.symm).1; omega))
      have hy3 : w.heap.size < w3.heap.size := by have := hgrow3.size; simp at this; omega
      have hown4 : w3.ownsRow (w.heap.size + 1) 5 1 v' (bytesTo s (m + 1)).length (byteCells (bytesTo s (m + 1))) := by
        rw [HLEN.out, HNN.out, HNEW.out, ← byteCells_snoc, HM8.out]
        exact hown3
      clear hown3 hgrow3 hrow2 hB2 hy2
      have c0 := reg1 G3.out 0 (by omega) hy3
      have c1 := reg1 G3.out 1 (by omega) hy3
      have c2 := reg1 G3.out 2 (by omega) hy3
      have c3 := reg1 G3.out 3 (by omega) hy3
      go_wp2_with fail
      refine wp_region_below_tail 5 (by kernel_rfl) (by kernel_rfl) ?_
      simp only [List.take_succ_cons, List.take_zero, List.drop_succ_cons, List.drop_zero]
      repeat (go_big_quiet_step (fail))
      go_big_quiet_step ((go_at_call 10; exact Calls.regrown_of (of_any m m _ hm hm)))
      repeat (go_big_quiet_step (fail))
      go_big_quiet_step ((go_at_call 8; exact Calls.regrown_of (less_any cur (ofS m m) _ hfit.out (ofIn _ _))))
      refine wpQuiet_nil ?_
      intro _ hw'
      obtain ⟨⟨dq, osq⟩, hw''⟩ := hw'
      subst hw''
      have bb : Below w3.heap.size w3 (Sort.grow (redrawn w3 dq) osq) := below_regrown w3 dq osq
      have G4 := G3.out.below bb hy3
      have hrow4 := hown4.kept (w' := Sort.grow (redrawn w3 dq) osq) (row := none) ⟨bb.os, bb.tape, bb.output, bb.size, fun k hk _ => bb.block k hk⟩ (Classical.em _)
      have hB4 : Below w.heap.size w (Sort.grow (redrawn w3 dq) osq) := hB3.trans (bb.mono (by omega))
      have hy4 : w.heap.size < (Sort.grow (redrawn w3 dq) osq).heap.size := by have := bb.size; omega
      generalize Sort.grow (redrawn w3 dq) osq = w4 at *
      clear c0 c1 c2 c3 hown4 hB3 hy3 G3
      have r0 := G4.cell 0 (by omega)
      have r1 := G4.cell 1 (by omega)
      have r2 := G4.cell 2 (by omega)
      have r3 := G4.cell 3 (by omega)
      have z := G4.free
      go_wp2_with fail
      have hfar : v'.ownBlock = none ∨ v'.ownBlock ≠ some w.heap.size := .inr (fun e => by have := (hrow4.lt _ e).1; omega)
      have k1 := G4.set4 (lessS cur (ofS m m))
      have k2 := row_set4 hrow4 (.int .u64 (lessS cur (ofS m m) 0)) (.int .u64 (lessS cur (ofS m m) 1)) (.int .u64 (lessS cur (ofS m m) 2)) (.int .u64 (lessS cur (ofS m m) 3)) hfar
      have k4 := below_set4 (g := w.heap.size) hB4 (.int .u64 (lessS cur (ofS m m) 0)) (.int .u64 (lessS cur (ofS m m) 1)) (.int .u64 (lessS cur (ofS m m) 2)) (.int .u64 (lessS cur (ofS m m) 3)) (Nat.le_refl _)
      have LM := own_lenOf hrow4
      have L1 := LN.out
      have L2 := HLEN.out
      have L3 := HNN.out
      exact ⟨⟨m + 1, lessS cur (ofS m m), by omega, Lib.hid k1, HN, k2, k4, by simpa using hy4⟩, by omega⟩
    · have hno : ∀ b, k ≤ b → b < 256 → hasS s b = false := fun b h1 h2 => by
        cases hh : hasS s b with
        | false => rfl
        | true => exact absurd ⟨b, h2, h1, hh⟩ hany
      have heq := run_eq_none cur true ⟨fun _ => left_none s k cur HL.out hno, fun _ => rfl⟩
      have HE := Lib.hid (bytesTo_same s k 256 hk hno)
      have hconv := run_convert_own 38 9 Tryd.underlying38 Tryd.underlying5 Tryd.underlying9 hrow
      clear hany hno
      go_wp2_with fail
      go_ret
      exact ⟨by rw [HE.out]; rfl, hB⟩
end Go.Proofs.YtifokkclkmdclaaDoor
