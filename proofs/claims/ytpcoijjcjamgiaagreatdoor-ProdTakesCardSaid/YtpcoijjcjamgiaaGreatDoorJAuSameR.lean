/-
  The walks of the base's SameInts and SameBools. Conditions: the rows lie in memory.
-/
import Derived.Test.YtpcoijjcjamgiaaGreatDoorJDfa
namespace Go.Proofs.YtpcoijjcjamgiaaGreatDoor
set_option linter.unusedVariables false
set_option linter.unusedSimpArgs false
open Go.RowKit Go.Maps Go.Sort Go.ChangeShapes Go.WideShapes
set_option maxHeartbeats 4000000 in
set_option maxRecDepth 100000 in
theorem sameints_any (va vb : Value) (l m : List Int) (w : World) (ha : IntsAt w va l) (hb : IntsAt w vb m) (hl : l.length ≤ 9223372036854775807) (hm : m.length ≤ 9223372036854775807) :
    Calls Tryz.prog 38 #[va, vb] w fun e w' => e = .returned (.bool (decide (l = m))) ∧ Below w.heap.size w w' := by
  obtain ⟨a1, c1, rfl, -⟩ := id ha
  obtain ⟨a2, c2, rfl, -⟩ := id hb
  have H := Lib.hid (And.intro ha hb)
  clear ha hb
  go_enter Tryz.func38, Tryz.ntmps38
  by_cases hlm : l.length = m.length
  case neg =>
    have h7 : ((l.length : Int) != (m.length : Int)) = true := by simp; omega
    have HL := Lib.hid hlm
    clear hlm
    go_wp2_with fail
    go_ret
    exact ⟨ret_bool (decide_eq_false fun e => HL.out (by rw [e])).symm, Below.refl _ _⟩
  have HLM := Lib.hid hlm
  have h7 : ((l.length : Int) != (m.length : Int)) = false := by simp; omega
  go_wp2_with fail
  go_loopw [5] (fun c wr => ∃ j : Nat, j ≤ l.length ∧ c = .int .i64 j ∧ Hid (l.take j = m.take j) ∧ Below w.heap.size w wr) (fun c _ => l.length - (intOf c).toNat)
  case atStart => exact ⟨0, by omega, rfl, Lib.hid rfl, Below.refl _ _⟩
  case round =>
    obtain ⟨j, hj, rfl, hok, hB⟩ := hrel
    by_cases hlt : j < l.length
    · obtain ⟨x, hx⟩ : ∃ x, l[j]? = some x := ⟨_, List.getElem?_eq_getElem hlt⟩
      obtain ⟨y, hy⟩ : ∃ y, m[j]? = some y := ⟨_, List.getElem?_eq_getElem (by omega)⟩
      obtain ⟨b1, o1, rfl, m1⟩ := (H.out.1.below hB).get hx
      obtain ⟨b2, o2, rfl, m2⟩ := (H.out.2.below hB).get hy
      have hjm : j < m.length := by omega
      have HX := Lib.hid (And.intro hx hy)
      clear hx hy
      by_cases e : x = y
      · have e' : (x != y) = false := by simp [e]
        have E := Lib.hid e
        clear e
        go_wp2_with fail
        go_quiet (fail)
        have B2 : Below w.heap.size w (wr.drewN nq) := hB.trans ((below_regrownN wr nq).mono hB.size)
        generalize wr.drewN nq = w2 at *
        clear m1 m2
        go_wp2_with fail
        go_roundw
        case rel => exact ⟨j + 1, by omega, by go_num, Lib.hid (take_eq hok.out HX.out.1 (by rw [E.out]; exact HX.out.2)), B2⟩
        case measure => simp [intOf]; omega
      · have e' : (x != y) = true := by simp [e]
        have E := Lib.hid e
        clear e
        go_wp2_with fail
        go_quiet (fail)
        have B2 : Below w.heap.size w (wr.drewN nq) := hB.trans ((below_regrownN wr nq).mono hB.size)
        generalize wr.drewN nq = w2 at *
        clear m1 m2
        go_wp2_with fail
        go_ret
        exact ⟨ret_bool (decide_eq_false (ne_at HX.out.1 HX.out.2 E.out)).symm, B2⟩
    · obtain rfl : j = l.length := by omega
      have hok' := hok.out
      rw [List.take_length, List.take_of_length_le (by omega)] at hok'
      have HOK := Lib.hid hok'
      clear hok' hok
      go_wp2_with fail
      go_ret
      exact ⟨ret_bool (decide_eq_true HOK.out).symm, hB⟩
set_option maxHeartbeats 4000000 in
set_option maxRecDepth 100000 in
theorem samebools_any (va vb : Value) (l m : List Bool) (w : World) (ha : BoolsL w va l) (hb : BoolsL w vb m) (hl : l.length ≤ 9223372036854775807) (hm : m.length ≤ 9223372036854775807) :
    Calls Tryz.prog 37 #[va, vb] w fun e w' => e = .returned (.bool (decide (l = m))) ∧ Below w.heap.size w w' := by
  obtain ⟨a1, c1, rfl, -⟩ := id ha
  obtain ⟨a2, c2, rfl, -⟩ := id hb
  have H := Lib.hid (And.intro ha hb)
  clear ha hb
  go_enter Tryz.func37, Tryz.ntmps37
  by_cases hlm : l.length = m.length
  case neg =>
    have h7 : ((l.length : Int) != (m.length : Int)) = true := by simp; omega
    have HL := Lib.hid hlm
    clear hlm
    go_wp2_with fail
    go_ret
    exact ⟨ret_bool (decide_eq_false fun e => HL.out (by rw [e])).symm, Below.refl _ _⟩
  have HLM := Lib.hid hlm
  have h7 : ((l.length : Int) != (m.length : Int)) = false := by simp; omega
  go_wp2_with fail
  go_loopw [5] (fun c wr => ∃ j : Nat, j ≤ l.length ∧ c = .int .i64 j ∧ Hid (l.take j = m.take j) ∧ Below w.heap.size w wr) (fun c _ => l.length - (intOf c).toNat)
  case atStart => exact ⟨0, by omega, rfl, Lib.hid rfl, Below.refl _ _⟩
  case round =>
    obtain ⟨j, hj, rfl, hok, hB⟩ := hrel
    by_cases hlt : j < l.length
    · obtain ⟨x, hx⟩ : ∃ x, l[j]? = some x := ⟨_, List.getElem?_eq_getElem hlt⟩
      obtain ⟨y, hy⟩ : ∃ y, m[j]? = some y := ⟨_, List.getElem?_eq_getElem (by omega)⟩
      obtain ⟨b1, o1, rfl, m1⟩ := (H.out.1.below hB).get hx
      obtain ⟨b2, o2, rfl, m2⟩ := (H.out.2.below hB).get hy
      have hjm : j < m.length := by omega
      have HX := Lib.hid (And.intro hx hy)
      clear hx hy
      cases x
      · cases y
        · have E := Lib.hid HX
          go_wp2_with fail
          go_quiet (fail)
          have B2 : Below w.heap.size w (wr.drewN nq) := hB.trans ((below_regrownN wr nq).mono hB.size)
          generalize wr.drewN nq = w2 at *
          clear m1 m2
          go_wp2_with fail
          go_roundw
          case rel => exact ⟨j + 1, by omega, by go_num, Lib.hid (take_eq hok.out HX.out.1 HX.out.2), B2⟩
          case measure => simp [intOf]; omega
        · go_wp2_with fail
          go_quiet (fail)
          have B2 : Below w.heap.size w (wr.drewN nq) := hB.trans ((below_regrownN wr nq).mono hB.size)
          generalize wr.drewN nq = w2 at *
          clear m1 m2
          go_wp2_with fail
          go_ret
          exact ⟨ret_bool (decide_eq_false (ne_at HX.out.1 HX.out.2 (by decide))).symm, B2⟩
      · cases y
        · go_wp2_with fail
          go_quiet (fail)
          have B2 : Below w.heap.size w (wr.drewN nq) := hB.trans ((below_regrownN wr nq).mono hB.size)
          generalize wr.drewN nq = w2 at *
          clear m1 m2
          go_wp2_with fail
          go_ret
          exact ⟨ret_bool (decide_eq_false (ne_at HX.out.1 HX.out.2 (by decide))).symm, B2⟩
        · have E := Lib.hid HX
          go_wp2_with fail
          go_quiet (fail)
          have B2 : Below w.heap.size w (wr.drewN nq) := hB.trans ((below_regrownN wr nq).mono hB.size)
          generalize wr.drewN nq = w2 at *
          clear m1 m2
          go_wp2_with fail
          go_roundw
          case rel => exact ⟨j + 1, by omega, by go_num, Lib.hid (take_eq hok.out HX.out.1 HX.out.2), B2⟩
          case measure => simp [intOf]; omega
    · obtain rfl : j = l.length := by omega
      have hok' := hok.out
      rw [List.take_length, List.take_of_length_le (by omega)] at hok'
      have HOK := Lib.hid hok'
      clear hok' hok
      go_wp2_with fail
      go_ret
      exact ⟨ret_bool (decide_eq_true HOK.out).symm, hB⟩
end Go.Proofs.YtpcoijjcjamgiaaGreatDoor
