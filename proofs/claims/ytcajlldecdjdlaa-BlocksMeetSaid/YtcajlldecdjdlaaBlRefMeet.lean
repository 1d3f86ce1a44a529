/-
  The contract of the reference's Meet. Conditions: the numbers' cells.
-/
import Derived.Test.YtcajlldecdjdlaaBlRefOf
namespace Go.Proofs.Ytcajlldecdjdlaa
set_option linter.unusedVariables false
open Go.RowKit Go.Maps Go.Sort

set_option maxHeartbeats 4000000 in
set_option maxRecDepth 100000 in
theorem refmeet_yes (ga oa ca gb ob cb : Nat) (y z : Nat → Int) (w : World) (ha : IsInts w (some ⟨ga, oa, none⟩) 256 ca y) (hb : IsInts w (some ⟨gb, ob, none⟩) 256 cb z)
    (hA : Bl.right y 256 = true) (hB : Bl.right z 256 = true) (lga : ga < w.heap.size) (lgb : gb < w.heap.size) (hca : ∀ j, j < 256 → w.cell? ⟨ga, oa + j, none⟩ = some (.int .i64 (y j))) (hcb : ∀ j, j < 256 → w.cell? ⟨gb, ob + j, none⟩ = some (.int .i64 (z j))) :
    Calls Try.prog 16 #[.slice (some ⟨ga, oa, none⟩) 256 ca, .slice (some ⟨gb, ob, none⟩) 256 cb] w fun e w' =>
      ∃ g c, e = .returned (.slice (some ⟨g, 0, none⟩) 256 c) ∧ IsInts w' (some ⟨g, 0, none⟩) 256 c (fun b => (Bl.num (pairK y z) b : Int)) ∧ Below w.heap.size w w' := by
  obtain ⟨i0, hi, hz0, hz1, hz2⟩ := info_parts Try.info3
  have HA := Lib.hid ha
  have HB := Lib.hid hb
  have EA := Lib.hid hA
  have EB := Lib.hid hB
  have Ca := Lib.hid hca
  have Cb := Lib.hid hcb
  clear hca hcb ha hb hA hB
  obtain ⟨f, hf⟩ : ∃ f, pairK y z = f := ⟨_, rfl⟩
  rw [hf]
  have HF := Lib.hid hf
  clear hf
  go_enter Try.func16, Try.ntmps16
  go_wp2_with fail
  refine (refright_lit _ _ _ y true _ HA.out EA.out).mono ?_
  rintro e w1 ⟨rfl, b1⟩
  go_wp2_with fail
  refine (refright_lit _ _ _ z true _ (HB.out.keep b1) EB.out).mono ?_
  rintro e w2 ⟨rfl, b2⟩
  have hB2 : Below w.heap.size w w2 := b1.trans (b2.mono b1.size)
  clear b1 b2
  go_wp2_with fail
  go_loopw [5, 6, 7] (fun v m c wr => ∃ (b : Nat), b ≤ 256 ∧ c = .int .i64 b ∧ m = .int .i64 (Bl.many f b) ∧ wr.ownsRow w.heap.size 3 1 v b (numL f b) ∧ Below w.heap.size w wr) (fun _ _ c _ => 256 - (intOf c).toNat)
  case atStart => exact ⟨0, by omega, rfl, rfl, World.ownsRow_nil _ _ _ _, hB2⟩
  case round =>
    clear hB2
    rename World => wo
    obtain ⟨b, hb, rfl, rfl, hrow, hB⟩ := hrel
    by_cases hlt : b < 256
    · have hm1 := Bl.many_le f b
      obtain ⟨m, hm⟩ : ∃ m : Int, (Bl.many f b : Int) = m := ⟨_, rfl⟩
      rw [hm]
      have hm2 : 0 ≤ m ∧ m ≤ 256 := by omega
      have hd : decide ((b : Int) < 256) = true := by simp; omega
      have HM := Lib.hid hm
      have HROW := Lib.hid hrow
      have hn1 := Bl.num_lt_256 f b hlt
      obtain ⟨n, hn⟩ : ∃ n : Int, (Bl.num f b : Int) = n := ⟨_, rfl⟩
      have hn2 : 0 ≤ n ∧ n ≤ 256 := by omega
      have HN := Lib.hid hn
      have hbs := hB.size
      have h63 : b + 1 ≤ maxLen := by unfold maxLen; omega
      have h47 : (b + 1) * 8 ≤ 140737488355328 := by omega
      clear hm hrow hm1 hn1 hn
      go_wp2_with fail
      go_loopw [8, 9] (fun at' c wi => ∃ (k : Nat), k ≤ b ∧ c = .int .i64 k ∧ ((at' = .int .i64 (-1) ∧ Hid (∀ j, j < k → f j ≠ f b)) ∨ (at' = .int .i64 n ∧ Hid (∃ j, j < b ∧ f j = f b))) ∧ Below wo.heap.size wo wi) (fun _ c _ => b - (intOf c).toNat)
      case atStart => exact ⟨0, by omega, rfl, .inl ⟨rfl, Lib.hid (fun j hj => by omega)⟩, Below.refl _ _⟩
      case round =>
        obtain ⟨k, hk, rfl, hat, hBi⟩ := hrel
        rcases hat with ⟨rfl, hnone⟩ | ⟨rfl, hsome⟩
        · by_cases hkb : k < b
          · rcases HROW.out.2 with ⟨_, h0⟩ | ⟨g, cap', cur, rfl, _⟩
            · omega
            have hBx : Below w.heap.size w wr := hB.trans (hBi.mono (by omega))
            have hya := (hBx.cell (p := ⟨ga, oa + k, none⟩) lga).trans (Ca.out k (by omega))
            have hyb := (hBx.cell (p := ⟨ga, oa + b, none⟩) lga).trans (Ca.out b hlt)
            have hza := (hBx.cell (p := ⟨gb, ob + k, none⟩) lgb).trans (Cb.out k (by omega))
            have hzb := (hBx.cell (p := ⟨gb, ob + b, none⟩) lgb).trans (Cb.out b hlt)
            obtain ⟨p, hp⟩ : ∃ p, y k = p := ⟨_, rfl⟩
            obtain ⟨p', hp'⟩ : ∃ p, y b = p := ⟨_, rfl⟩
            obtain ⟨q, hq⟩ : ∃ p, z k = p := ⟨_, rfl⟩
            obtain ⟨q', hq'⟩ : ∃ p, z b = p := ⟨_, rfl⟩
            rw [hp] at hya
            rw [hp'] at hyb
            rw [hq] at hza
            rw [hq'] at hzb
            have hkey : f k = f b ↔ p = p' ∧ q = q' := by rw [← HF.out, ← hp, ← hp', ← hq, ← hq']; simp [pairK]
            have HKEY := Lib.hid hkey
            clear hp hp' hq hq' hkey
            go_wp2_with fail
            by_cases e1 : p = p'
            · have E1 := Lib.hid e1
              have d1 : (p == p') = true := by simp [e1]
              clear e1
              by_cases e2 : q = q'
              · have E2 := Lib.hid e2
                have d2 : (q == q') = true := by simp [e2]
                clear e2
                go_quiet (fail)
                have hB2 : Below wo.heap.size wo (wr.drewN nq) := hBi.trans ((below_regrownN wr nq).mono hBi.size)
                generalize wr.drewN nq = w2 at *
                clear hya hyb hza hzb
                have hkf : f k = f b := HKEY.out.2 ⟨E1.out, E2.out⟩
                have hown := HROW.out.kept (grown_of_below hB2) (Classical.em _)
                have hc := hown.cellAt k (by omega)
                rw [numL_at f b k hkb, Bl.num_key f k b hkf, HN.out] at hc
                have HKF := Lib.hid hkf
                clear hkf hown
                go_wp2_with fail
                go_roundw
                case rel => exact ⟨k + 1, by omega, by simp, .inr ⟨rfl, Lib.hid ⟨k, hkb, HKF.out⟩⟩, hB2⟩
                case measure => simp [intOf]; omega
              · have E2 := Lib.hid e2
                have d2 : (q == q') = false := by simp [e2]
                clear e2
                go_quiet (fail)
                have hB2 : Below wo.heap.size wo (wr.drewN nq) := hBi.trans ((below_regrownN wr nq).mono hBi.size)
                generalize wr.drewN nq = w2 at *
                clear hya hyb hza hzb
                have hkf : f k ≠ f b := fun e => E2.out (HKEY.out.1 e).2
                have HKF := Lib.hid hkf
                clear hkf
                go_wp2_with fail
                go_roundw
                case rel => exact ⟨k + 1, by omega, by simp, .inl ⟨rfl, Lib.hid (fun j hj => by
                  by_cases e : j = k
                  · subst e; exact HKF.out
                  · exact hnone.out j (by omega))⟩, hB2⟩
                case measure => simp [intOf]; omega
            · have E1 := Lib.hid e1
              have d1 : (p == p') = false := by simp [e1]
              clear e1
              go_quiet (fail)
              have hB2 : Below wo.heap.size wo (wr.drewN nq) := hBi.trans ((below_regrownN wr nq).mono hBi.size)
              generalize wr.drewN nq = w2 at *
              clear hya hyb hza hzb
              have hkf : f k ≠ f b := fun e => E1.out (HKEY.out.1 e).1
              have HKF := Lib.hid hkf
              clear hkf
              go_wp2_with fail
              go_roundw
              case rel => exact ⟨k + 1, by omega, by simp, .inl ⟨rfl, Lib.hid (fun j hj => by
                by_cases e : j = k
                · subst e; exact HKF.out
                · exact hnone.out j (by omega))⟩, hB2⟩
              case measure => simp [intOf]; omega
          · have e : k = b := by omega
            subst e
            have hown := HROW.out.kept (grown_of_below hBi) (Classical.em _)
            have hbi := hBi.size
            have hBx : Below w.heap.size w wr := hB.trans (hBi.mono (by omega))
            have hmn : m = n := by have := Bl.num_new f k hnone.out; rw [← HM.out, ← HN.out, this]
            have hmo : (Bl.many f (k + 1) : Int) = m + 1 := by rw [Bl.many_new f k hnone.out, ← HM.out]; rfl
            have HMN := Lib.hid hmn
            have HMO := Lib.hid hmo
            clear hmn hmo
            go_wp2_with (at_builtin; refine wpList_append_own _ rfl _ _ 24 rfl w.heap.size 3 i0 (.int .i64 0) 1 8 Try.underlying24 hi hz0 hz1 hz2 rfl (by decide) _ _ _ rfl (hown.alloc _) ⟨wr.heap.size, 0, none⟩ 1 1 [.int .i64 m] rfl rfl one_new (fun u hu => by simp at hu; subst hu; rfl) h63 h47 (by simp; omega) ?_)
            intro v' w1 hown' hgrow _
            have hb1 : Below w.heap.size w w1 := (hBx.alloc (by omega) _).grown hgrow (by simp; omega) (fun j hj => (hown.lt j hj).1)
            rw [HMN.out, ← HN.out, numL_succ] at hown'
            clear hgrow hown
            go_wp2_with fail
            go_roundw
            case rel => exact ⟨k + 1, by omega, by simp, by rw [HMO.out], hown', hb1⟩
            case measure => simp [intOf]; omega
        · have hown := HROW.out.kept (grown_of_below hBi) (Classical.em _)
          have hbi := hBi.size
          have hBx : Below w.heap.size w wr := hB.trans (hBi.mono (by omega))
          have hmo : (Bl.many f (b + 1) : Int) = m := by obtain ⟨j, hj, he⟩ := hsome.out; rw [Bl.many_old f b j hj he, ← HM.out]
          have HMO := Lib.hid hmo
          clear hmo
          have hn3 : ¬ n < 0 := by omega
          go_wp2_with (at_builtin; refine wpList_append_own _ rfl _ _ 24 rfl w.heap.size 3 i0 (.int .i64 0) 1 8 Try.underlying24 hi hz0 hz1 hz2 rfl (by decide) _ _ _ rfl (hown.alloc _) ⟨wr.heap.size, 0, none⟩ 1 1 [.int .i64 n] rfl rfl one_new (fun u hu => by simp at hu; subst hu; rfl) h63 h47 (by simp; omega) ?_)
          all_goals
            intro v' w1 hown' hgrow _
            have hb1 : Below w.heap.size w w1 := (hBx.alloc (by omega) _).grown hgrow (by simp; omega) (fun j hj => (hown.lt j hj).1)
            rw [← HN.out, numL_succ] at hown'
            clear hgrow hown
            go_wp2_with fail
            go_roundw
            case rel => exact ⟨b + 1, by omega, by simp, by rw [HMO.out], hown', hb1⟩
            case measure => simp [intOf]; omega
    · have e : b = 256 := by omega
      subst e
      rcases hrow.2 with ⟨_, h0⟩ | ⟨g, cap', cur, rfl, _⟩
      · omega
      go_wp2_with fail
      go_ret
      refine ⟨g, cap', rfl, ⟨.inr ⟨g, 0, rfl, (hrow.lt _ rfl).2, fun j hj => ?_⟩, fun j hj => ?_, by decide⟩, hB⟩
      · rw [Nat.zero_add, hrow.cellAt j (by omega), numL_at f 256 j hj]
      · have := Bl.num_lt_256 f j hj
        unfold In64
        omega


set_option maxHeartbeats 1000000 in
set_option maxRecDepth 100000 in
theorem refmeet_any (xa xb : Option Addr) (la ca lb cb : Nat) (y z : Nat → Int) (w : World) (ha : IsInts w xa la ca y) (hb : IsInts w xb lb cb z) :
    Calls Try.prog 16 #[.slice xa la ca, .slice xb lb cb] w fun e w' =>
      ∃ x n c, e = .returned (.slice x n c) ∧ n = meetLen y z la lb ∧ IsInts w' x n c (fun b => (Bl.num (pairK y z) b : Int)) ∧ Below w.heap.size w w' := by
  by_cases hA : Bl.right y la = true
  · by_cases hB : Bl.right z lb = true
    · have hn : meetLen y z la lb = 256 := by unfold meetLen; rw [if_pos ⟨hA, hB⟩]
      have hl1 : la = 256 := by simp [Bl.right] at hA; exact hA.1
      have hl2 : lb = 256 := by simp [Bl.right] at hB; exact hB.1
      subst hl1 hl2
      rcases ha.place with h0 | ⟨ga, oa, rfl, lga, hca⟩
      · omega
      rcases hb.place with h0 | ⟨gb, ob, rfl, lgb, hcb⟩
      · omega
      refine (refmeet_yes ga oa ca gb ob cb y z w ha hb hA hB lga lgb hca hcb).mono ?_
      rintro e w1 ⟨g, c, rfl, h1, h2⟩
      exact ⟨_, 256, c, rfl, hn.symm, h1, h2⟩
    · have hn : meetLen y z la lb = 0 := by unfold meetLen; rw [if_neg (fun h => hB h.2)]
      have hB' : Bl.right z lb = false := by simpa using hB
      have EA := Lib.hid hA
      have EB := Lib.hid hB'
      have HN := Lib.hid hn
      have HA := Lib.hid ha
      have HB := Lib.hid hb
      clear hA hB hB' hn ha hb
      go_enter Try.func16, Try.ntmps16
      go_wp2_with fail
      refine (refright_lit _ _ _ y true _ HA.out EA.out).mono ?_
      rintro e w1 ⟨rfl, b1⟩
      go_wp2_with fail
      refine (refright_lit _ _ _ z false _ (HB.out.keep b1) EB.out).mono ?_
      rintro e w2 ⟨rfl, b2⟩
      go_wp2_with fail
      go_ret
      exact ⟨none, 0, 0, rfl, HN.out.symm, ⟨.inl rfl, fun j hj => by omega, by decide⟩, b1.trans (b2.mono b1.size)⟩
  · have hn : meetLen y z la lb = 0 := by unfold meetLen; rw [if_neg (fun h => hA h.1)]
    have hA' : Bl.right y la = false := by simpa using hA
    have EA := Lib.hid hA'
    have HN := Lib.hid hn
    have HA := Lib.hid ha
    clear hA hA' hn ha hb
    go_enter Try.func16, Try.ntmps16
    go_wp2_with fail
    refine (refright_lit _ _ _ y false _ HA.out EA.out).mono ?_
    rintro e w1 ⟨rfl, b1⟩
    go_wp2_with fail
    go_ret
    exact ⟨none, 0, 0, rfl, HN.out.symm, ⟨.inl rfl, fun j hj => by omega, by decide⟩, b1⟩
end Go.Proofs.Ytcajlldecdjdlaa
