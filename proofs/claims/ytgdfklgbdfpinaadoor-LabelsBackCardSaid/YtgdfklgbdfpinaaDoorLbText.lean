/-
  Labels as a text: in plain words; the walk of the reference's Text. Conditions: at most 40 labels, their names and values no longer than the statements speak of.
-/
import Derived.Test.YtgdfklgbdfpinaaDoorLbList
import Derived.Test.YtgdfklgbdfpinaaDoorQuRefText
import Derived.Test.YtgdfklgbdfpinaaDoorQuText
namespace Go.Proofs.YtgdfklgbdfpinaaDoor
set_option linter.unusedVariables false
set_option linter.unusedSimpArgs false
open Go.RowKit Go.Sort

def ltext1 (x : Lab) : List UInt8 := x.1.data.toList ++ ([61] ++ qtext x.2)
def textK (l : List Lab) : Nat → List UInt8
  | 0 => []
  | j + 1 => textK l j ++ ((if j = 0 then [] else [44, 32]) ++ match l[j]? with | some x => ltext1 x | none => [])
/-- the text of labels -/
def ltext (l : List Lab) : List UInt8 := [123] ++ (textK l l.length ++ [125])
def Small (l : List Lab) : Prop := l.length ≤ 40 ∧ ∀ x ∈ l, x.1.size ≤ 100 ∧ x.2.size ≤ 1100
theorem ltext1_len {x : Lab} (h : x.1.size ≤ 100 ∧ x.2.size ≤ 1100) : (ltext1 x).length ≤ 4600 := by
  have := qtext_len x.2
  have h3 : x.1.size = x.1.data.toList.length := by simp
  simp only [ltext1, List.length_append, List.length_cons, List.length_nil]
  omega
theorem textK_len {l : List Lab} (h : Small l) : ∀ j, (textK l j).length ≤ j * 4602
  | 0 => by simp [textK]
  | j + 1 => by
    have ih := textK_len h j
    simp only [textK, List.length_append]
    have h1 : (if j = 0 then ([] : List UInt8) else [44, 32]).length ≤ 2 := by split <;> simp
    have h2 : (match l[j]? with | some x => ltext1 x | none => []).length ≤ 4600 := by
      cases hx : l[j]? with
      | none => simp
      | some x => exact ltext1_len (h.2 x (List.mem_of_getElem? hx))
    omega
theorem textK_next {l : List Lab} {j : Nat} {x : Lab} (h : l[j]? = some x) : textK l (j + 1) = textK l j ++ ((if j = 0 then [] else [44, 32]) ++ ltext1 x) := by
  rw [textK, h]

set_option maxRecDepth 100000 in
set_option maxHeartbeats 2000000 in
theorem rltext_any (A : Option Addr) (cap : Nat) (l : List Lab) (w : World) (h : IsLab w w.heap.size A l) (hs : Small l) :
    Calls Tryd.prog 21 #[.slice A l.length cap] w fun e w' => e = .returned (.string (txt (ltext l))) ∧ Below w.heap.size w w' := by
  have hlen := hs.1
  have H := Lib.hid (And.intro h hs)
  clear h hs
  go_enter Tryd.func21, Tryd.ntmps21
  go_wp2_with fail
  go_loopw [3, 4] (fun c3 c4 wr => ∃ (j : Nat), j ≤ l.length ∧ c4 = .int .i64 j ∧ c3 = .string (txt ([123] ++ textK l j)) ∧ Below w.heap.size w wr) (fun _ c _ => l.length - (intOf c).toNat)
  case atStart => exact ⟨0, by omega, rfl, rfl, Below.refl _ _⟩
  case round =>
    obtain ⟨j, hj, rfl, rfl, hb⟩ := hrel
    have hk := textK_len H.out.2 j
    have hk2 : j * 4602 ≤ 40 * 4602 := Nat.mul_le_mul_right _ (by omega)
    by_cases hlt : j < l.length
    · obtain ⟨b, off, ⟨nm1, vl⟩, rfl, hbB, hx, hcell⟩ := H.out.1.at_ hlt
      obtain ⟨z1, z2⟩ := H.out.2.2 _ (List.mem_of_getElem? hx)
      simp only at z1 z2
      have hnx := textK_next hx
      have HX := Lib.hid (And.intro hx hnx)
      have HC := Lib.hid hcell
      clear hx hcell hnx
      obtain ⟨acc, hacc⟩ : ∃ acc, [123] ++ textK l j = acc := ⟨_, rfl⟩
      rw [hacc]
      have ha : acc.length ≤ 1000000 := by rw [← hacc]; simp; omega
      have HA := Lib.hid hacc
      have hq := qtext_len vl
      obtain ⟨Q, hQ⟩ : ∃ Q, txt (qtext vl) = Q := ⟨_, rfl⟩
      have zq : Q.size ≤ 5000 := by rw [← hQ, txt_size]; omega
      have hcall : ∀ w, _ := fun w => reftext_any vl w (by omega)
      rw [hQ] at hcall
      have c0 : ∀ d os, (grow (redrawn wr d) os).cell? ⟨b, off + j * 2, none⟩ = some (.string nm1) := fun d os => (HC.out _ (hb.trans ((below_regrown wr d os).mono hb.size))).1
      have c1 : ∀ d os, (grow (redrawn wr d) os).cell? ⟨b, off + j * 2 + 1, none⟩ = some (.string vl) := fun d os => (HC.out _ (hb.trans ((below_regrown wr d os).mono hb.size))).2
      have HQ := Lib.hid hQ
      clear hacc hQ hk hk2 hq
      by_cases j0 : j = 0
      · have j0' : decide (0 < j) = false := decide_eq_false (by omega)
        have J0 := Lib.hid j0
        clear j0
        obtain ⟨T, hT⟩ : ∃ T, txt acc = T := ⟨_, rfl⟩
        have zt : T.size ≤ 1100000 := by rw [← hT, txt_size]; omega
        rw [hT]
        have HT := Lib.hid hT
        clear hT ha
        have y1 : ((T ++ nm1).size : Int) ≤ 8388608 := by rw [ByteArray.size_append]; omega
        have y2 : ((T ++ nm1 ++ ⟨#[61]⟩).size : Int) ≤ 8388608 := by rw [ByteArray.size_append, ByteArray.size_append]; show ((T.size + nm1.size + 1 : Nat) : Int) ≤ _; omega
        go_wp2_with fail
        refine wp_region_quiet_below (by kernel_rfl) (by kernel_rfl) ?_
        repeat (go_big_quiet_step ((go_at_call 40; exact Calls.regrown_of (hcall _))))
        refine wpQuiet_nil ?_
        intro w3 hw'
        obtain ⟨⟨dq, osq⟩, hw''⟩ := hw'
        have bb : Below wr.heap.size wr w3 := by rw [hw'']; exact below_regrown wr dq osq
        have B3 := hb.trans (bb.mono hb.size)
        clear hw'' c0 c1 bb
        go_wp2_with fail
        go_roundw
        case rel =>
          refine ⟨j + 1, by omega, by go_num, ?_, B3⟩
          congr 1
          rw [HX.out.2, if_pos J0.out, ← HT.out, ← HA.out, ← HQ.out, ltext1]
          conv => lhs; rw [← txt_data nm1]
          rw [show (⟨#[61]⟩ : ByteArray) = txt [61] from rfl, txt_append, txt_append, txt_append]
          simp
        case measure => simp [intOf]; omega
      · have j0' : decide (0 < j) = true := decide_eq_true (by omega)
        have J0 := Lib.hid j0
        clear j0
        obtain ⟨T, hT⟩ : ∃ T, txt acc = T := ⟨_, rfl⟩
        have zt : T.size ≤ 1100000 := by rw [← hT, txt_size]; omega
        rw [hT]
        have HT := Lib.hid hT
        clear hT ha
        have y0 : ((T ++ ⟨#[44, 32]⟩).size : Int) ≤ 8388608 := by rw [ByteArray.size_append]; show ((T.size + 2 : Nat) : Int) ≤ _; omega
        have y1 : ((T ++ ⟨#[44, 32]⟩ ++ nm1).size : Int) ≤ 8388608 := by rw [ByteArray.size_append, ByteArray.size_append]; show ((T.size + 2 + nm1.size : Nat) : Int) ≤ _; omega
        have y2 : ((T ++ ⟨#[44, 32]⟩ ++ nm1 ++ ⟨#[61]⟩).size : Int) ≤ 8388608 := by rw [ByteArray.size_append, ByteArray.size_append, ByteArray.size_append]; show ((T.size + 2 + nm1.size + 1 : Nat) : Int) ≤ _; omega
        go_wp2_with fail
        refine wp_region_quiet_below (by kernel_rfl) (by kernel_rfl) ?_
        repeat (go_big_quiet_step ((go_at_call 40; exact Calls.regrown_of (hcall _))))
        refine wpQuiet_nil ?_
        intro w3 hw'
        obtain ⟨⟨dq, osq⟩, hw''⟩ := hw'
        have bb : Below wr.heap.size wr w3 := by rw [hw'']; exact below_regrown wr dq osq
        have B3 := hb.trans (bb.mono hb.size)
        clear hw'' c0 c1 bb
        go_wp2_with fail
        go_roundw
        case rel =>
          refine ⟨j + 1, by omega, by go_num, ?_, B3⟩
          congr 1
          rw [HX.out.2, if_neg J0.out, ← HT.out, ← HA.out, ← HQ.out, ltext1]
          conv => lhs; rw [← txt_data nm1]
          rw [show (⟨#[61]⟩ : ByteArray) = txt [61] from rfl, show (⟨#[44, 32]⟩ : ByteArray) = txt [44, 32] from rfl, txt_append, txt_append, txt_append, txt_append]
          simp
        case measure => simp [intOf]; omega
    · obtain rfl : j = l.length := by omega
      obtain ⟨T, hT⟩ : ∃ T, txt ([123] ++ textK l l.length) = T := ⟨_, rfl⟩
      have zt : T.size ≤ 1100000 := by rw [← hT, txt_size]; simp; omega
      rw [hT]
      have HT := Lib.hid hT
      clear hT
      go_wp2_with fail
      go_ret
      refine ⟨?_, hb⟩
      refine congrArg (fun s => Ending.returned (.string s)) ?_
      rw [← HT.out, show (⟨#[125]⟩ : ByteArray) = txt [125] from rfl, txt_append, ltext]
      simp
end Go.Proofs.YtgdfklgbdfpinaaDoor
