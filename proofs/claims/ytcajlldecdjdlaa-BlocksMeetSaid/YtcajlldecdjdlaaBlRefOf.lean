/-
  The contracts of the references' Of and Meet. Conditions: the numbers' and the sets' cells.
-/
import Derived.Test.YtcajlldecdjdlaaBlSame
namespace Go.Proofs.Ytcajlldecdjdlaa
set_option linter.unusedVariables false
open Go.RowKit Go.Maps Go.Sort

theorem IsSets.keep {w w' : World} {x : Option Addr} {len cap : Nat} {sf : Nat → Nat → Int} (h : IsSets w x len cap sf) (hb : Below w.heap.size w w') : IsSets w' x len cap sf := by
  refine ⟨?_, h.ins, h.bound⟩
  rcases h.place with h0 | ⟨bb, off, rfl, hbb, hc⟩
  · exact .inl h0
  · exact .inr ⟨bb, off, rfl, by have := hb.size; omega, fun j hj i hi => (hb.cell (p := ⟨bb, off + j * 4 + i, none⟩) hbb).trans (hc j hj i hi)⟩

section
variable {α : Type} [DecidableEq α]
/-- the first n numbers as cells -/
def numL (f : Nat → α) (n : Nat) : List Value := (List.range n).map fun b => Value.int .i64 (Bl.num f b)
theorem numL_succ (f : Nat → α) (n : Nat) : numL f n ++ [Value.int .i64 (Bl.num f n)] = numL f (n + 1) := by simp [numL, List.range_succ]
theorem numL_at (f : Nat → α) (n k : Nat) (h : k < n) : (numL f n)[k]? = some (.int .i64 (Bl.num f k)) := by simp [numL, h]
theorem numL_all (f : Nat → α) : numL f 256 = numCells f := rfl
end

theorem alike_lit (x : Option Addr) (len cap : Nat) (sf : Nat → Nat → Int) (a b : Nat) (w : World) (hs : IsSets w x len cap sf) (ha : a < 256) (hb : b < 256) (R : Bool) (hR : decide (F sf len a = F sf len b) = R) :
    Calls Try.prog 20 #[.slice x len cap, .int .i64 a, .int .i64 b] w fun e w' => e = .returned (.bool R) ∧ Below w.heap.size w w' := by
  subst hR; exact alike_any x len cap sf a b w hs ha hb _ (by simp)

set_option maxHeartbeats 4000000 in
set_option maxRecDepth 100000 in
theorem refof_any (x : Option Addr) (len cap : Nat) (sf : Nat → Nat → Int) (w : World) (hs : IsSets w x len cap sf) :
    Calls Try.prog 9 #[.slice x len cap] w fun e w' =>
      ∃ g c, e = .returned (.slice (some ⟨g, 0, none⟩) 256 c) ∧ IsInts w' (some ⟨g, 0, none⟩) 256 c (fun b => (Bl.num (F sf len) b : Int)) ∧ Below w.heap.size w w' := by
  obtain ⟨i0, hi, hz0, hz1, hz2⟩ := info_parts Try.info3
  have HS := Lib.hid hs
  clear hs
  obtain ⟨f, hf⟩ : ∃ f, F sf len = f := ⟨_, rfl⟩
  rw [hf]
  have HF := Lib.hid hf
  clear hf
  go_enter Try.func9, Try.ntmps9
  go_wp2_with fail
  go_loopw [3, 4, 5] (fun v m c wr => ∃ (b : Nat), b ≤ 256 ∧ c = .int .i64 b ∧ m = .int .i64 (Bl.many f b) ∧ wr.ownsRow w.heap.size 3 1 v b (numL f b) ∧ Below w.heap.size w wr) (fun _ _ c _ => 256 - (intOf c).toNat)
  case atStart => exact ⟨0, by omega, rfl, rfl, World.ownsRow_nil _ _ _ _, Below.refl _ _⟩
  case round =>
    rename World => wo
    obtain ⟨b, hb, rfl, rfl, hrow, hB⟩ := hrel
    by_cases hlt : b < 256
    · have hm1 := Bl.many_le f b
      obtain ⟨m, hm⟩ : ∃ m : Int, (Bl.many f b : Int) = m := ⟨_, rfl⟩
      rw [hm]
      have hm2 : 0 ≤ m ∧ m ≤ 256 := by omega
      have hd : decide ((b : Int) < 256) = true := by simp; omega
      have HM := Lib.hid hm
      have HROW := Lib.hid hrow
      have hn1 := Bl.num_lt_256 f b hlt
      obtain ⟨n, hn⟩ : ∃ n : Int, (Bl.num f b : Int) = n := ⟨_, rfl⟩
      have hn2 : 0 ≤ n ∧ n ≤ 256 := by omega
      have HN := Lib.hid hn
      have hbs := hB.size
      have h63 : b + 1 ≤ maxLen := by unfold maxLen; omega
      have h47 : (b + 1) * 8 ≤ 140737488355328 := by omega
      clear hm hrow hm1 hn1 hn
      go_wp2_with fail
      go_loopw [6, 7] (fun at' c wi => ∃ (k : Nat), k ≤ b ∧ c = .int .i64 k ∧ ((at' = .int .i64 (-1) ∧ Hid (∀ j, j < k → f j ≠ f b)) ∨ (at' = .int .i64 n ∧ Hid (∃ j, j < b ∧ f j = f b))) ∧ Below wo.heap.size wo wi) (fun _ c _ => b - (intOf c).toNat)
      case atStart => exact ⟨0, by omega, rfl, .inl ⟨rfl, Lib.hid (fun j hj => by omega)⟩, Below.refl _ _⟩
      case round =>
        obtain ⟨k, hk, rfl, hat, hBi⟩ := hrel
        rcases hat with ⟨rfl, hnone⟩ | ⟨rfl, hsome⟩
        · by_cases hkb : k < b
          · rcases HROW.out.2 with ⟨_, h0⟩ | ⟨g, cap', cur, rfl, _⟩
            · omega
            have hBx : Below w.heap.size w wr := hB.trans (hBi.mono (by omega))
            obtain ⟨R, hR⟩ : ∃ R, decide (F sf len k = F sf len b) = R := ⟨_, rfl⟩
            have HR := Lib.hid hR
            clear hR
            go_wp2_with fail
            refine (alike_lit _ _ _ sf k b _ (HS.out.keep hBx) (by omega) hlt R HR.out).mono ?_
            rintro e w2 ⟨rfl, b2⟩
            have hB2 : Below wo.heap.size wo w2 := hBi.trans (b2.mono hBi.size)
            have hown := HROW.out.kept (grown_of_below hB2) (Classical.em _)
            have hc := hown.cellAt k (by omega)
            rw [numL_at f b k hkb] at hc
            have HR2 := Lib.hid (show decide (f k = f b) = R by rw [← HF.out]; exact HR.out)
            clear b2 hown
            cases R with
            | true =>
              have hkf : f k = f b := by simpa using HR2.out
              rw [Bl.num_key f k b hkf, HN.out] at hc
              have HKF := Lib.hid hkf
              clear hkf
              go_wp2_with fail
              go_roundw
              case rel => exact ⟨k + 1, by omega, by simp, .inr ⟨rfl, Lib.hid ⟨k, hkb, HKF.out⟩⟩, hB2⟩
              case measure => simp [intOf]; omega
            | false =>
              have hkf : f k ≠ f b := by simpa using HR2.out
              have HKF := Lib.hid hkf
              clear hkf
              go_wp2_with fail
              go_roundw
              case rel => exact ⟨k + 1, by omega, by simp, .inl ⟨rfl, Lib.hid (fun j hj => by
                by_cases e : j = k
                · subst e; exact HKF.out
                · exact hnone.out j (by omega))⟩, hB2⟩
              case measure => simp [intOf]; omega
          · have e : k = b := by omega
            subst e
            have hown := HROW.out.kept (grown_of_below hBi) (Classical.em _)
            have hbi := hBi.size
            have hBx : Below w.heap.size w wr := hB.trans (hBi.mono (by omega))
            have hmn : m = n := by have := Bl.num_new f k hnone.out; rw [← HM.out, ← HN.out, this]
            have hmo : (Bl.many f (k + 1) : Int) = m + 1 := by rw [Bl.many_new f k hnone.out, ← HM.out]; rfl
            have HMN := Lib.hid hmn
            have HMO := Lib.hid hmo
            clear hmn hmo
            go_wp2_with (at_builtin; refine wpList_append_own _ rfl _ _ 24 rfl w.heap.size 3 i0 (.int .i64 0) 1 8 Try.underlying24 hi hz0 hz1 hz2 rfl (by decide) _ _ _ rfl (hown.alloc _) ⟨wr.heap.size, 0, none⟩ 1 1 [.int .i64 m] rfl rfl one_new (fun u hu => by simp at hu; subst hu; rfl) h63 h47 (by simp; omega) ?_)
            intro v' w1 hown' hgrow _
            have hb1 : Below w.heap.size w w1 := (hBx.alloc (by omega) _).grown hgrow (by simp; omega) (fun j hj => (hown.lt j hj).1)
            rw [HMN.out, ← HN.out, numL_succ] at hown'
            clear hgrow hown
            go_wp2_with fail
            go_roundw
            case rel => exact ⟨k + 1, by omega, by simp, by rw [HMO.out], hown', hb1⟩
            case measure => simp [intOf]; omega
        · have hown := HROW.out.kept (grown_of_below hBi) (Classical.em _)
          have hbi := hBi.size
          have hBx : Below w.heap.size w wr := hB.trans (hBi.mono (by omega))
          have hmo : (Bl.many f (b + 1) : Int) = m := by obtain ⟨j, hj, he⟩ := hsome.out; rw [Bl.many_old f b j hj he, ← HM.out]
          have HMO := Lib.hid hmo
          clear hmo
          have hn3 : ¬ n < 0 := by omega
          go_wp2_with (at_builtin; refine wpList_append_own _ rfl _ _ 24 rfl w.heap.size 3 i0 (.int .i64 0) 1 8 Try.underlying24 hi hz0 hz1 hz2 rfl (by decide) _ _ _ rfl (hown.alloc _) ⟨wr.heap.size, 0, none⟩ 1 1 [.int .i64 n] rfl rfl one_new (fun u hu => by simp at hu; subst hu; rfl) h63 h47 (by simp; omega) ?_)
          all_goals
            intro v' w1 hown' hgrow _
            have hb1 : Below w.heap.size w w1 := (hBx.alloc (by omega) _).grown hgrow (by simp; omega) (fun j hj => (hown.lt j hj).1)
            rw [← HN.out, numL_succ] at hown'
            clear hgrow hown
            go_wp2_with fail
            go_roundw
            case rel => exact ⟨b + 1, by omega, by simp, by rw [HMO.out], hown', hb1⟩
            case measure => simp [intOf]; omega
    · have e : b = 256 := by omega
      subst e
      rcases hrow.2 with ⟨_, h0⟩ | ⟨g, cap', cur, rfl, _⟩
      · omega
      go_wp2_with fail
      go_ret
      refine ⟨g, cap', rfl, ⟨.inr ⟨g, 0, rfl, (hrow.lt _ rfl).2, fun j hj => ?_⟩, fun j hj => ?_, by decide⟩, hB⟩
      · rw [Nat.zero_add, hrow.cellAt j (by omega), numL_at f 256 j hj]
      · have := Bl.num_lt_256 f j hj
        unfold In64
        omega
end Go.Proofs.Ytcajlldecdjdlaa
