/-
  The walk of lang.firsts. Conditions: the blocks are right and lie in memory.
-/
import Derived.Test.YtmmlakheimfijaaGreatDoorJLgStr
import Derived.Test.YtmmlakheimfijaaGreatDoorJDfa
import Derived.Test.YtmmlakheimfijaaGreatDoorJAuShelf
namespace Go.Proofs.YtmmlakheimfijaaGreatDoor
set_option linter.unusedVariables false
set_option linter.unusedSimpArgs false
open Go.RowKit

theorem infoByteL : (Tryz.prog.info? 5).map (fun i => (i.zero, i.size, i.bytes)) = some (some (.int .u8 0), 1, 1) := by kernel_rfl
set_option maxHeartbeats 4000000 in
set_option maxRecDepth 100000 in
theorem firsts_any (v : Value) (l : List Int) (wide : Nat) (w : World) (h : IntsAt w v l) (hl : l.length = 256) (hb : BlkOk (fun j => l.getD j 0) wide) :
    Calls Tryz.prog 44 #[v] w fun e w' => ∃ rv, e = .returned rv ∧ w'.ownsRow w.heap.size 5 1 rv wide (byteCells (u8L (firstsL (fun j => l.getD j 0) wide))) ∧ Below w.heap.size w w' := by
  obtain ⟨a, c, rfl, -⟩ := id h
  obtain ⟨i0, hi, hz0, hz1, hz2⟩ := info_parts infoByteL
  obtain ⟨z, hz⟩ : ∃ z : Nat → Int, (fun j => l.getD j 0) = z := ⟨_, rfl⟩
  have hzj : ∀ j, j < 256 → l[j]? = some (z j) := fun j hj => by
    rw [← hz]
    show l[j]? = some (l.getD j 0)
    rw [List.getD_eq_getElem?_getD, List.getElem?_eq_getElem (by omega)]
    rfl
  rw [hz] at hb ⊢
  have H := Lib.hid (And.intro h (And.intro hb hzj))
  rw [hl]
  clear h hb hzj hz
  go_enter Tryz.func44, Tryz.ntmps44
  go_wp2_with fail
  go_loopw [3, 8] (fun v c8 wr => ∃ j : Nat, j ≤ 256 ∧ c8 = .int .i64 j ∧ ∃ t : Nat, Hid (Bl.top z j = (t : Int)) ∧ t ≤ 256 ∧
      wr.ownsRow w.heap.size 5 1 v t (byteCells (u8L (firstsL z t))) ∧ Below w.heap.size w wr) (fun _ c _ => 256 - (intOf c).toNat)
  case atStart => exact ⟨0, by omega, rfl, 0, Lib.hid rfl, by omega, World.ownsRow_nil _ _ _ _, Below.refl _ _⟩
  case round =>
    obtain ⟨j, hj, rfl, t, ht, htl, hown, hB⟩ := hrel
    obtain ⟨ar, cr, rfl⟩ := own_shape hown
    by_cases hlt : j < 256
    · have hja := H.out.2.2 j hlt
      obtain ⟨b, off, rfl, m0⟩ := (H.out.1.below hB).get hja
      have hok := ok_at H.out.2.1.ok hlt
      obtain ⟨x, hx⟩ : ∃ x, z j = x := ⟨_, rfl⟩
      rw [hx] at m0
      by_cases he : x = (t : Int)
      · have hnew := firsts_new H.out.2.1 hlt (by rw [hx, ht.out, he])
        have e1 : (Bl.top z (j + 1)) = ((t + 1 : Nat) : Int) := by
          have h1 := hnew.1
          have h2 := Bl.top_nonneg z (j + 1)
          have h3 := ht.out
          omega
        have e2 : firstsL z (t + 1) = firstsL z t ++ [j] := by
          have h1 := hnew.2
          rw [e1, ht.out] at h1
          exact h1
        have h63 : t + 1 ≤ maxLen := by unfold maxLen; omega
        have h47 : (t + 1) * 1 ≤ 140737488355328 := by omega
        have HN := Lib.hid (And.intro e1 e2)
        have hsz := hB.size
        have hjm : (j : Int) % 256 = j := by omega
        have ht2 : t + 1 ≤ 256 := by
          have := Bl.top_nonneg z (j + 1)
          omega
        have HT := Lib.hid ht2
        subst he
        clear hnew e1 e2 hok hja hx ht2
        go_wp2_with (at_builtin; refine wpList_append_own _ rfl _ _ 48 rfl w.heap.size 5 i0 (.int .u8 0) 1 1 Tryz.underlying48 hi hz0 hz1 hz2 rfl (by decide) _ _ _ rfl (hown.alloc _) ⟨wr.heap.size, 0, none⟩ 1 1 [.int .u8 (j : Int)] rfl rfl one_new (fun u hu => by simp at hu; subst hu; rfl) h63 h47 (by simp; omega) ?_; intro v' w1 hown' hgrow _)
        have hb1 := (hB.alloc hsz _).grown hgrow (by simp; omega) (fun j hj => (hown.lt j hj).1)
        go_roundw
        case rel =>
          refine ⟨j + 1, by omega, by go_num, t + 1, Lib.hid HN.out.1, HT.out, ?_, hb1⟩
          rw [HN.out.2, u8L_app, ← byteCells_append]
          have e : byteCells (u8L [j]) = [.int .u8 (j : Int)] := by
            show [Value.int .u8 (((UInt8.ofNat j).toNat : Nat) : Int)] = _
            rw [u8_nat hlt]
          rw [e]
          exact hown'
        case measure => simp [intOf]; omega
      · have hold := firsts_old H.out.2.1 hlt (by rw [hx, ht.out]; exact he)
        have HN := Lib.hid hold
        clear hold hok hja hx
        go_wp2_with fail
        go_roundw
        case rel => exact ⟨j + 1, by omega, by go_num, t, Lib.hid (by rw [HN.out]; exact ht.out), htl, hown, hB⟩
        case measure => simp [intOf]; omega
    · obtain rfl : j = 256 := by omega
      have hw := H.out.2.1.wide
      rw [ht.out] at hw
      obtain rfl : wide = t := by omega
      have HO := Lib.hid (And.intro hown hB)
      clear hown hB hw
      go_wp2_with fail
      go_ret
      exact ⟨_, rfl, HO.out.1, HO.out.2⟩
end Go.Proofs.YtmmlakheimfijaaGreatDoor
