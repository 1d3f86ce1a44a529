/-
  The walk of the reference's Right of automata. Conditions: the automaton lies in memory.
-/
import Derived.Test.YtgkpgjbgcimijaaDoorAuRight
namespace Go.Proofs.YtgkpgjbgcimijaaDoor
set_option linter.unusedVariables false
set_option linter.unusedSimpArgs false
open Go.RowKit Go.Maps Go.Sort Go.ChangeShapes Go.WideShapes

set_option maxHeartbeats 8000000 in
set_option maxRecDepth 100000 in
theorem refdright_any (v : Value) (D : DfaI) (w : World) (h : DfaAt w v D) (hD : D.In) : Calls Tryd.prog 15 #[v] w fun e w' => e = .returned (.bool (rightD D)) ∧ Below w.heap.size w w' := by
  obtain ⟨fv, bv, nv, rfl, hf, hb, hn⟩ := h
  obtain ⟨af, cf, rfl, -⟩ := id hf
  obtain ⟨ab, cb, rfl, -⟩ := id hb
  obtain ⟨an, cn, rfl, -⟩ := id hn
  obtain ⟨hS1, hS2⟩ := hD.start
  have hF := hD.fin
  have hM := hD.many
  obtain ⟨S, hS⟩ : ∃ S, D.start = S := ⟨_, rfl⟩
  obtain ⟨M, hMe⟩ : ∃ M, D.next.length = M := ⟨_, rfl⟩
  obtain ⟨F, hFe⟩ : ∃ F, D.fin.length = F := ⟨_, rfl⟩
  have hR : rightD D = ((decide (1 ≤ M) && decide (M ≤ 4096) && decide (F = M) && decide (0 ≤ S) && decide (S < M)) && (decide (0 < wideI D) && D.next.all (rowB (wideI D) M))) := by rw [rightD, hS, hMe, hFe]
  rw [hS] at hS1 hS2
  rw [hFe] at hF
  rw [hMe] at hM
  simp only [hS, hMe, hFe]
  have hbw := (Below.refl w.heap.size w).alloc (Nat.le_refl _) (.cells #[.int .i64 S, .slice af F cf, .slice ab D.block.length cb, .slice an M cn] 26)
  have hq := Blk.new w 26 #[.int .i64 S, .slice af F cf, .slice ab D.block.length cb, .slice an M cn]
  obtain ⟨⟨y0, y1, y2, y3⟩, -⟩ := hq.c4
  have H := Lib.hid (And.intro hb (And.intro hn (And.intro hD (And.intro hMe (And.intro hR (And.intro hbw hq))))))
  clear hf hb hn hbw hq hD hMe hFe hR hS
  have hcount := refcount_any ab D.block.length cb D.z (w.alloc (.cells #[.int .i64 S, .slice af F cf, .slice ab D.block.length cb, .slice an M cn] 26)) ((H.out.1.below H.out.2.2.2.2.2.1).isInts H.out.2.2.1.block)
  have hl : D.block.length ≤ 9223372036854775807 := H.out.2.2.1.block.1
  go_enter Tryd.func15, Tryd.ntmps15
  go_wp2_with fail
  refine hcount.mono ?_
  rintro e w1 ⟨rfl, b1⟩
  clear hcount
  have hz0 : (w.alloc (.cells #[.int .i64 S, .slice af F cf, .slice ab D.block.length cb, .slice an M cn] 26)).heap.size = w.heap.size + 1 := by simp
  rw [hz0] at b1
  have hz2 := b1.size
  rw [hz0] at hz2
  have HW1 := Lib.hid (And.intro (H.out.2.2.2.2.2.1.trans (b1.mono (by omega))) (H.out.2.2.2.2.2.2.below b1 (by omega)))
  clear b1 y0 y1 y2 y3
  obtain ⟨y0, y1, y2, y3⟩ := HW1.out.2.c4.1
  obtain ⟨wd, hwd⟩ : ∃ wd, wideI D = wd := ⟨_, rfl⟩
  have hcd : countI D.z D.block.length = wd := hwd
  have hR := H.out.2.2.2.2.1
  rw [hwd] at hR
  have HR0 := Lib.hid (And.intro hR hwd)
  rw [hcd]
  clear hR hwd hcd
  by_cases k1 : M < 1
  · go_wp2_with fail
    go_ret
    exact ⟨ret_bool (by rw [HR0.out.1]; simp; omega), HW1.out.1⟩
  by_cases k2 : 4096 < M
  · go_wp2_with fail
    go_ret
    exact ⟨ret_bool (by rw [HR0.out.1]; simp; omega), HW1.out.1⟩
  by_cases k3 : F = M
  case neg =>
    have k3' : ((F : Int) == (M : Int)) = false := by simp; omega
    go_wp2_with fail
    go_ret
    exact ⟨ret_bool (by rw [HR0.out.1]; simp; omega), HW1.out.1⟩
  obtain rfl : F = M := k3
  by_cases k4 : S < 0
  · go_wp2_with fail
    go_ret
    exact ⟨ret_bool (by rw [HR0.out.1]; simp; omega), HW1.out.1⟩
  by_cases k5 : F ≤ S
  · go_wp2_with fail
    go_ret
    exact ⟨ret_bool (by rw [HR0.out.1]; simp; omega), HW1.out.1⟩
  by_cases k5' : wd < 1
  · go_wp2_with fail
    go_ret
    exact ⟨ret_bool (by rw [HR0.out.1]; simp; omega), HW1.out.1⟩
  have hR2 : rightD D = D.next.all (rowB wd F) := by
    rw [HR0.out.1]
    have e : (decide (1 ≤ F) && decide (F ≤ 4096) && decide (F = F) && decide (0 ≤ S) && decide (S < F) && decide (0 < wd)) = true := by simp; omega
    simp only [Bool.and_eq_true] at e
    simp [e]
  have HR := Lib.hid (And.intro hR2 HR0.out.2)
  clear hR2 HR0
  have HN := Lib.hid (H.out.2.1.below HW1.out.1)
  go_wp2_with fail
  go_loop [5, 6] (fun c _ => ∃ j : Nat, j ≤ F ∧ c = .int .i64 j ∧ Hid ((D.next.take j).all (rowB wd F) = true)) (fun c _ => F - (intOf c).toNat)
  case atStart => exact ⟨0, by omega, rfl, Lib.hid rfl⟩
  case round =>
    obtain ⟨j, hj, rfl, hok⟩ := hrel
    have hlen := H.out.2.2.2.1
    by_cases hlt : j < F
    · obtain ⟨l, hl⟩ : ∃ l, D.next[j]? = some l := ⟨_, List.getElem?_eq_getElem (by omega)⟩
      have hlm := List.mem_of_getElem? hl
      have hlI := H.out.2.2.1.rows l hlm
      obtain ⟨b, off, a, c, rfl, m0, hIl⟩ := HN.out.get hl
      have HL := Lib.hid (And.intro hl hlm)
      have hlz := hlI.1
      clear hl hlm
      have hno : rowB wd F l = false → D.next.all (rowB wd F) = false := fun h => by
        rw [List.all_eq_false]
        exact ⟨l, HL.out.2, by simp [h]⟩
      have hyes : rowB wd F l = true → (D.next.take (j + 1)).all (rowB wd F) = true := fun h => by
        have ht : D.next.take (j + 1) = D.next.take j ++ [l] := by rw [List.take_add_one, HL.out.1]; rfl
        rw [ht, List.all_append, hok.out]
        simp [h]
      have HNY := Lib.hid (And.intro hno hyes)
      clear hno hyes hlen
      by_cases k6 : (l.length : Int) = wd
      · subst k6
        have k6' : ((l.length : Int) != l.length) = false := by simp
        have HI := Lib.hid (And.intro hIl hlI)
        clear hIl hlI hok
        go_wp2_with fail
        go_loop [6] (fun c => ∃ k : Nat, k ≤ l.length ∧ c = .int .i64 k ∧ Hid (inB F (l.take k) = true)) (fun c => l.length - (intOf c).toNat)
        case atStart => exact ⟨0, by omega, rfl, Lib.hid rfl⟩
        case round =>
          obtain ⟨k, hk, rfl, hok⟩ := hrel
          by_cases hkl : k < l.length
          · obtain ⟨x, hx⟩ : ∃ x, l[k]? = some x := ⟨_, List.getElem?_eq_getElem hkl⟩
            obtain ⟨hx1, hx2⟩ := HI.out.2.2 x (List.mem_of_getElem? hx)
            obtain ⟨b', off', rfl, m1⟩ := HI.out.1.get hx
            have HX := Lib.hid hx
            clear hx
            by_cases c1 : x < 0
            · go_wp2_with fail
              go_ret
              exact ⟨ret_bool (by rw [HR.out.1, HNY.out.1 (by rw [rowB_eq, inB_no HX.out (by simp; omega)]; simp)]), HW1.out.1⟩
            · by_cases c2 : (F : Int) ≤ x
              · go_wp2_with fail
                go_ret
                exact ⟨ret_bool (by rw [HR.out.1, HNY.out.1 (by rw [rowB_eq, inB_no HX.out (by simp; omega)]; simp)]), HW1.out.1⟩
              · go_wp2_with fail
                go_round
                case rel => exact ⟨k + 1, by omega, by go_num, Lib.hid (by rw [inB_take HX.out, hok.out]; simp; omega)⟩
                case measure => simp [intOf]; omega
          · obtain rfl : k = l.length := by omega
            have hok' := hok.out
            rw [List.take_length] at hok'
            have HOK := Lib.hid hok'
            clear hok' hok
            go_wp2_with fail
            go_round
            case rel => exact ⟨j + 1, by omega, by go_num, Lib.hid (HNY.out.2 (by rw [rowB_eq, HOK.out]; simp))⟩
            case measure => simp [intOf]; omega
      · have k6' : ((l.length : Int) != wd) = true := by simp [k6]
        have K6 := Lib.hid k6
        clear k6
        go_wp2_with fail
        go_ret
        exact ⟨ret_bool (by rw [HR.out.1, HNY.out.1 (by rw [rowB_eq, decide_eq_false K6.out]; rfl)]), HW1.out.1⟩
    · obtain rfl : j = F := by omega
      have hok' := hok.out
      rw [List.take_of_length_le (by omega)] at hok'
      have HOK := Lib.hid hok'
      clear hok' hok hlen
      go_wp2_with fail
      go_ret
      exact ⟨ret_bool (by rw [HR.out.1, HOK.out]), HW1.out.1⟩
end Go.Proofs.YtgkpgjbgcimijaaDoor
