/-
  The walk of labels.Text (a strings.Builder). Conditions: at most 40 labels, names and values as the statements speak of; the tables of unicode/utf8.
-/
import Derived.Test.YtgdfklgbdfpinaaDoorLbText
namespace Go.Proofs.YtgdfklgbdfpinaaDoor
set_option linter.unusedVariables false
set_option linter.unusedSimpArgs false
open Go.RowKit Go.Sort

theorem others_blk {w w' : World} {b g : Nat} {t : TypeId} {cs : Array Value} (h : Lib.OthersKept 5 (some b) w w') (hB : Blk w g t cs) (hg : g ≠ b) (ht : t ≠ 5) : Blk w' g t cs :=
  h g _ hB (fun e => hg (Option.some.inj e)) (fun _ _ e => by injection e with _ e2; exact ht e2)

set_option maxRecDepth 1000000 in
set_option maxHeartbeats 4000000 in
theorem ltext_any (A : Option Addr) (cap : Nat) (l : List Lab) (w : World) (h : IsLab w w.heap.size A l) (hs : Small l) (hT : Lib.Utf8Tabs 0 1 w) :
    Calls Tryd.prog 20 #[.slice A l.length cap] w fun e w' => e = .returned (.string (txt (ltext l))) ∧ Below w.heap.size w w' := by
  have hlen := hs.1
  have H := Lib.hid (And.intro h (And.intro hs hT))
  have hfr := Lib.IsBuilderF.of (Lib.fresh_isBuilder 65 5 w)
  have F0 := Lib.hid hfr
  clear h hs hT hfr
  go_enter Tryd.func20, Tryd.ntmps20
  go_wp2_with fail
  go_loopw [8] (fun c8 wr => ∃ (j : Nat), j ≤ l.length ∧ c8 = .int .i64 j ∧ Lib.IsBuilderF 65 5 w.heap.size w.heap.size (Lib.byteCells (textK l j)) wr ∧ Below w.heap.size w wr ∧ w.heap.size < wr.heap.size) (fun c _ => l.length - (intOf c).toNat)
  case atStart => exact ⟨0, by omega, rfl, F0.out, (Below.refl _ _).alloc (Nat.le_refl _) _, by simp⟩
  case round =>
    obtain ⟨j, hj, rfl, hI, hb, hz⟩ := hrel
    have hk := textK_len H.out.2.1 j
    have hk2 : j * 4602 ≤ 40 * 4602 := Nat.mul_le_mul_right _ (by omega)
    by_cases hlt : j < l.length
    · obtain ⟨b, off, ⟨nm1, vl⟩, rfl, hbB, hx, hcell⟩ := H.out.1.at_ hlt
      obtain ⟨z1, z2⟩ := H.out.2.1.2 _ (List.mem_of_getElem? hx)
      obtain ⟨m0, m1⟩ := hcell wr hb
      simp only at z1 z2 m0 m1
      have hnx := textK_next hx
      have q4 := Blk.new wr 42 #[.string nm1, .string vl]
      have b4 := hb.alloc (by omega) (.cells #[.string nm1, .string vl] 42)
      have i4 := hI.alloc (.cells #[.string nm1, .string vl] 42)
      have HX := Lib.hid (And.intro hnx (And.intro q4 (And.intro b4 i4)))
      clear hx hcell hnx q4 b4 i4 hI
      by_cases j0 : j = 0
      · have j0' : decide (0 < j) = false := decide_eq_false (by omega)
        have J0 := Lib.hid j0
        clear j0
        have f2 := HX.out.2.2.2
        have qx := HX.out.2.1
        have B2 := HX.out.2.2.1
        go_wp2_with fail
        generalize wr.alloc (.cells #[.string nm1, .string vl] 42) = W2 at *
        have hTb := fun d os => Utf8Tabs_below H.out.2.2 (B2.trans ((below_regrown W2 d os).mono B2.size))
        obtain ⟨Q, hQ⟩ : ∃ Q, txt (qtext vl) = Q := ⟨_, rfl⟩
        have hq := qtext_len vl
        have zq : Q.size ≤ 5000 := by rw [← hQ, txt_size]; omega
        have hcall : ∀ d os, _ := fun d os => text_any vl (grow (redrawn W2 d) os) (by omega) (hTb d os)
        rw [hQ] at hcall
        have HQ := Lib.hid hQ
        have y1 : ((nm1 ++ ⟨#[61]⟩).size : Int) ≤ 8388608 := by rw [ByteArray.size_append]; show ((nm1.size + 1 : Nat) : Int) ≤ _; omega
        have c0 : ∀ d os, (grow (redrawn W2 d) os).cell? ⟨wr.heap.size, 0, none⟩ = some (.string nm1) := fun d os => (qx.below (below_regrown W2 d os) qx.lt).cell 0
        have c1 : ∀ d os, (grow (redrawn W2 d) os).cell? ⟨wr.heap.size, 1, none⟩ = some (.string vl) := fun d os => (qx.below (below_regrown W2 d os) qx.lt).cell 1
        have F2 := Lib.hid (And.intro f2 B2)
        clear f2 B2 hTb hQ qx
        try go_wp2_with fail
        refine wp_region_below_tail 7 (by kernel_rfl) (by kernel_rfl) ?_
        iterate 7 (show wpQuiet _ _ _ _ (_ :: _) _; go_big_quiet_step ((go_at_call 38; exact Calls.regrown_of (hcall _ _))))
        refine wpQuiet_nil ?_
        intro w3 hw'
        obtain ⟨⟨dq, osq⟩, hw''⟩ := hw'
        have bb : Below W2.heap.size W2 w3 := by rw [hw'']; exact below_regrown W2 dq osq
        have f3 := isF_below F2.out.1 bb
        have B3 := F2.out.2.trans (bb.mono F2.out.2.size)
        clear hw'' c0 c1 bb hcall
        show wpList _ _ _ (_ :: _) _ _
        go_wp2_with fail
        refine (Builder_WriteString_k w.heap.size w.heap.size _ _ _ f3 (by simp [Lib.byteCells, Lib.strCells_eq]; first | omega | (have : (⟨#[44, 32]⟩ : ByteArray).size = 2 := rfl; have : (⟨#[61]⟩ : ByteArray).size = 1 := rfl; omega)) (by have := B3.size; omega)).mono ?_
        rintro e W4 ⟨rfl, h4, b4, k4⟩
        have B4 := B3.trans b4
        have f4 : Lib.IsBuilderF 65 5 w.heap.size w.heap.size (Lib.byteCells (textK l (j + 1))) W4 := by
          have e1 : (nm1 ++ (⟨#[61]⟩ : ByteArray) ++ Q).data.toList = nm1.data.toList ++ [61] ++ qtext vl := by rw [← HQ.out]; simp [txt]
          rw [HX.out.1, if_pos J0.out, ltext1]
          have h5 := h4
          rw [Lib.strCells_eq, e1, ← Lib.byteCells_append] at h5
          simp only [List.append_assoc, List.nil_append] at h5 ⊢
          exact Or.inr h5
        have z4 := h4.lt
        clear h4 b4 k4 f3 B3
        go_wp2_with fail
        go_roundw
        case rel => exact ⟨j + 1, by omega, by go_num, f4, B4, z4⟩
        case measure => simp [intOf]; omega
      · have j0' : decide (0 < j) = true := decide_eq_true (by omega)
        have J0 := Lib.hid j0
        clear j0
        go_wp2_with fail
        refine (Builder_WriteString_k w.heap.size w.heap.size _ _ _ HX.out.2.2.2 (by simp [Lib.byteCells]; have : (⟨#[44, 32]⟩ : ByteArray).size = 2 := rfl; omega) (by simp; omega)).mono ?_
        rintro e W2 ⟨rfl, h2, b2, k2⟩
        have f2 : Lib.IsBuilderF 65 5 w.heap.size w.heap.size _ W2 := Or.inr h2
        have qx := others_blk k2 HX.out.2.1 (by omega) (by decide)
        have B2 := HX.out.2.2.1.trans b2
        have hTb := fun d os => Utf8Tabs_below H.out.2.2 (B2.trans ((below_regrown W2 d os).mono B2.size))
        obtain ⟨Q, hQ⟩ : ∃ Q, txt (qtext vl) = Q := ⟨_, rfl⟩
        have hq := qtext_len vl
        have zq : Q.size ≤ 5000 := by rw [← hQ, txt_size]; omega
        have hcall : ∀ d os, _ := fun d os => text_any vl (grow (redrawn W2 d) os) (by omega) (hTb d os)
        rw [hQ] at hcall
        have HQ := Lib.hid hQ
        have y1 : ((nm1 ++ ⟨#[61]⟩).size : Int) ≤ 8388608 := by rw [ByteArray.size_append]; show ((nm1.size + 1 : Nat) : Int) ≤ _; omega
        have c0 : ∀ d os, (grow (redrawn W2 d) os).cell? ⟨wr.heap.size, 0, none⟩ = some (.string nm1) := fun d os => (qx.below (below_regrown W2 d os) qx.lt).cell 0
        have c1 : ∀ d os, (grow (redrawn W2 d) os).cell? ⟨wr.heap.size, 1, none⟩ = some (.string vl) := fun d os => (qx.below (below_regrown W2 d os) qx.lt).cell 1
        have F2 := Lib.hid (And.intro f2 B2)
        clear f2 B2 hTb hQ qx
        try go_wp2_with fail
        refine wp_region_below_tail 7 (by kernel_rfl) (by kernel_rfl) ?_
        iterate 7 (show wpQuiet _ _ _ _ (_ :: _) _; go_big_quiet_step ((go_at_call 38; exact Calls.regrown_of (hcall _ _))))
        refine wpQuiet_nil ?_
        intro w3 hw'
        obtain ⟨⟨dq, osq⟩, hw''⟩ := hw'
        have bb : Below W2.heap.size W2 w3 := by rw [hw'']; exact below_regrown W2 dq osq
        have f3 := isF_below F2.out.1 bb
        have B3 := F2.out.2.trans (bb.mono F2.out.2.size)
        clear hw'' c0 c1 bb hcall
        show wpList _ _ _ (_ :: _) _ _
        go_wp2_with fail
        refine (Builder_WriteString_k w.heap.size w.heap.size _ _ _ f3 (by simp [Lib.byteCells, Lib.strCells_eq]; first | omega | (have : (⟨#[44, 32]⟩ : ByteArray).size = 2 := rfl; have : (⟨#[61]⟩ : ByteArray).size = 1 := rfl; omega)) (by have := B3.size; omega)).mono ?_
        rintro e W4 ⟨rfl, h4, b4, k4⟩
        have B4 := B3.trans b4
        have f4 : Lib.IsBuilderF 65 5 w.heap.size w.heap.size (Lib.byteCells (textK l (j + 1))) W4 := by
          have e1 : (nm1 ++ (⟨#[61]⟩ : ByteArray) ++ Q).data.toList = nm1.data.toList ++ [61] ++ qtext vl := by rw [← HQ.out]; simp [txt]
          rw [HX.out.1, if_neg J0.out, ltext1]
          have h5 := h4
          rw [Lib.strCells_eq, Lib.strCells_eq, e1, ← Lib.byteCells_append, ← Lib.byteCells_append] at h5
          simp only [List.append_assoc] at h5 ⊢
          exact Or.inr h5
        have z4 := h4.lt
        clear h4 b4 k4 f3 B3
        go_wp2_with fail
        go_roundw
        case rel => exact ⟨j + 1, by omega, by go_num, f4, B4, z4⟩
        case measure => simp [intOf]; omega
    · obtain rfl : j = l.length := by omega
      go_wp2_with fail
      refine (Builder_String_any_k w.heap.size w.heap.size _ _ hI (by omega)).mono ?_
      rintro e W3 ⟨rfl, _, b3, _⟩
      have B3 := hb.trans b3
      have HE : Hid (ltext l = [123] ++ (textK l l.length ++ [125])) := Lib.hid rfl
      obtain ⟨T, hT⟩ : ∃ T, (⟨(textK l l.length).toArray⟩ : ByteArray) = T := ⟨_, rfl⟩
      have zt : T.size ≤ 1100000 := by
        rw [← hT]
        have := txt_size (textK l l.length)
        unfold txt at this
        omega
      have y1 : (((⟨#[123]⟩ : ByteArray) ++ T).size : Int) ≤ 8388608 := by rw [ByteArray.size_append]; show ((1 + T.size : Nat) : Int) ≤ _; omega
      rw [hT]
      have HTT := Lib.hid hT
      clear hT b3
      go_wp2_with fail
      go_ret
      refine ⟨?_, B3⟩
      refine congrArg (fun s => Ending.returned (.string s)) ?_
      rw [HE.out, ← HTT.out, show (⟨#[125]⟩ : ByteArray) = txt [125] from rfl, show (⟨#[123]⟩ : ByteArray) = txt [123] from rfl, show (⟨(textK l l.length).toArray⟩ : ByteArray) = txt (textK l l.length) from rfl, txt_append, txt_append]
      simp
end Go.Proofs.YtgdfklgbdfpinaaDoor
