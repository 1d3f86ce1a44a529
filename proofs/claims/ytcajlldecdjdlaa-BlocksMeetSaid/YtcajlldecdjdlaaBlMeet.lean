/-
  The contracts of Meet, of its reference, and of SameInts. Conditions: the numbers' cells.
-/
import Derived.Test.YtcajlldecdjdlaaBlRight
namespace Go.Proofs.Ytcajlldecdjdlaa
set_option linter.unusedVariables false
open Go.RowKit Go.Maps Go.Sort

/-- the keys that meet -/
def pairK (y z : Nat → Int) (i : Nat) : Int × Int := (y i, z i)
def meetLen (y z : Nat → Int) (la lb : Nat) : Nat := if Bl.right y la = true ∧ Bl.right z lb = true then 256 else 0
theorem below2 (w : World) (o o' : Obj) : Below w.heap.size w ((w.alloc o).alloc o') := ((Below.refl _ _).alloc (Nat.le_refl _) o).alloc (by simp) o'
theorem in_wf {a : Int} (h : In64 a) : (Lit.int .i64 a).wf = true := by unfold In64 at h; simpa [Lit.wf, IntKind.min, IntKind.max, IntKind.signed, IntKind.bits] using h

set_option maxHeartbeats 2000000 in
set_option maxRecDepth 100000 in
theorem meet_any (xa xb : Option Addr) (la ca lb cb : Nat) (y z : Nat → Int) (w : World) (ha : IsInts w xa la ca y) (hb : IsInts w xb lb cb z) :
    Calls Try.prog 15 #[.slice xa la ca, .slice xb lb cb] w fun e w' =>
      ∃ x n c, e = .returned (.slice x n c) ∧ n = meetLen y z la lb ∧ IsInts w' x n c (fun b => (Bl.num (pairK y z) b : Int)) ∧ Below w.heap.size w w' := by
  by_cases hA : Bl.right y la = true
  · have EA := Lib.hid hA
    by_cases hB : Bl.right z lb = true
    · have EB := Lib.hid hB
      have hn : meetLen y z la lb = 256 := by unfold meetLen; rw [if_pos ⟨hA, hB⟩]
      have HN := Lib.hid hn
      have hl1 : la = 256 := by simp [Bl.right] at hA; exact hA.1
      have hl2 : lb = 256 := by simp [Bl.right] at hB; exact hB.1
      subst hl1 hl2
      clear hA hB hn
      have HA := Lib.hid ha
      have HB := Lib.hid hb
      rcases ha.place with h0 | ⟨ga, oa, rfl, lga, hca⟩
      · omega
      rcases hb.place with h0 | ⟨gb, ob, rfl, lgb, hcb⟩
      · omega
      have Ca := Lib.hid hca
      have Cb := Lib.hid hcb
      clear hca hcb ha hb
      go_enter Try.func15, Try.ntmps15
      go_wp2_with fail
      have q0 := oldB (.cells #[.slice (some ⟨gb, ob, none⟩) 256 cb] 24) (newB w #[.slice (some ⟨ga, oa, none⟩) 256 ca] 24) (by simp)
      have q1 := newB (w.alloc (.cells #[.slice (some ⟨ga, oa, none⟩) 256 ca] 24)) #[.slice (some ⟨gb, ob, none⟩) 256 cb] 24
      have hq : Below w.heap.size w ((w.alloc (.cells #[.slice (some ⟨ga, oa, none⟩) 256 ca] 24)).alloc (.cells #[.slice (some ⟨gb, ob, none⟩) 256 cb] 24)) := below2 _ _ _
      have hz : ((w.alloc (.cells #[.slice (some ⟨ga, oa, none⟩) 256 ca] 24)).alloc (.cells #[.slice (some ⟨gb, ob, none⟩) 256 cb] 24)).heap.size = w.heap.size + 2 := by simp
      rw [show (w.alloc (.cells #[.slice (some ⟨ga, oa, none⟩) 256 ca] 24)).heap.size = w.heap.size + 1 by simp] at q1
      generalize (w.alloc (.cells #[.slice (some ⟨ga, oa, none⟩) 256 ca] 24)).alloc (.cells #[.slice (some ⟨gb, ob, none⟩) 256 cb] 24) = wq at *
      refine (right_lit _ _ _ y true _ (HA.out.keep hq) EA.out).mono ?_
      rintro e w1 ⟨rfl, b1⟩
      have q0' := keepB b1 q0 (by omega)
      have q1' := keepB b1 q1 (by omega)
      have hq' : Below w.heap.size w w1 := hq.trans (b1.mono hq.size)
      have hz' : w.heap.size + 2 ≤ w1.heap.size := by have := b1.size; omega
      clear q0 q1 hq hz b1
      have d0 : w1.cell? ⟨w.heap.size, 0, none⟩ = some (.slice (some ⟨ga, oa, none⟩) 256 ca) := q0' 0
      have d1 : w1.cell? ⟨w.heap.size + 1, 0, none⟩ = some (.slice (some ⟨gb, ob, none⟩) 256 cb) := q1' 0
      go_wp2_with fail
      refine (right_lit _ _ _ z true _ (HB.out.keep hq') EB.out).mono ?_
      rintro e w2 ⟨rfl, b2⟩
      have q0 := keepB b2 q0' (by omega)
      have q1 := keepB b2 q1' (by omega)
      have hq : Below w.heap.size w w2 := hq'.trans (b2.mono hq'.size)
      have hz : w.heap.size + 2 ≤ w2.heap.size := by have := b2.size; omega
      clear q0' q1' hq' hz' b2 d0 d1
      go_wp2_with fail
      refine (number_any _ (.inr rfl) _ _ (pairK y z) _ (fun k hk => ⟨in_wf (HA.out.ins k hk), in_wf (HB.out.ins k hk)⟩) (fun k W hk hb => ?_)).mono ?_
      · have hW : Below w.heap.size w W := hq.trans (hb.mono hq.size)
        have := hb.size
        exact meetkey_any w.heap.size (w.heap.size + 1) ga oa gb ob 256 ca 256 cb k hk _ _ W rfl rfl (keepB hb q0 (by omega) 0) (keepB hb q1 (by omega) 0)
          ((hW.cell (p := ⟨ga, oa + k, none⟩) lga).trans (Ca.out k hk)) ((hW.cell (p := ⟨gb, ob + k, none⟩) lgb).trans (Cb.out k hk)) (by omega) (by omega) (by omega) (by omega)
      · rintro e w3 ⟨rfl, r3, b3⟩
        go_wp2_with fail
        go_ret
        exact ⟨_, 256, 256, rfl, HN.out.symm, ints_num r3, hq.trans (b3.mono hq.size)⟩
    · have hn : meetLen y z la lb = 0 := by unfold meetLen; rw [if_neg (fun h => hB h.2)]
      have hB' : Bl.right z lb = false := by simpa using hB
      have EB := Lib.hid hB'
      have HN := Lib.hid hn
      have HA := Lib.hid ha
      have HB := Lib.hid hb
      clear hA hB hB' hn ha hb
      go_enter Try.func15, Try.ntmps15
      go_wp2_with fail
      have hq : Below w.heap.size w ((w.alloc (.cells #[.slice xa la ca] 24)).alloc (.cells #[.slice xb lb cb] 24)) := below2 _ _ _
      have q1 := newB (w.alloc (.cells #[.slice xa la ca] 24)) #[.slice xb lb cb] 24
      have hz : ((w.alloc (.cells #[.slice xa la ca] 24)).alloc (.cells #[.slice xb lb cb] 24)).heap.size = w.heap.size + 2 := by simp
      rw [show (w.alloc (.cells #[.slice xa la ca] 24)).heap.size = w.heap.size + 1 by simp] at q1
      generalize (w.alloc (.cells #[.slice xa la ca] 24)).alloc (.cells #[.slice xb lb cb] 24) = wq at *
      refine (right_lit _ _ _ y true _ (HA.out.keep hq) EA.out).mono ?_
      rintro e w1 ⟨rfl, b1⟩
      have q1' := keepB b1 q1 (by omega)
      have hq' : Below w.heap.size w w1 := hq.trans (b1.mono hq.size)
      have d1 : w1.cell? ⟨w.heap.size + 1, 0, none⟩ = some (.slice xb lb cb) := q1' 0
      clear q1 hq hz b1
      go_wp2_with fail
      refine (right_lit _ _ _ z false _ (HB.out.keep hq') EB.out).mono ?_
      rintro e w2 ⟨rfl, b2⟩
      go_wp2_with fail
      go_ret
      exact ⟨none, 0, 0, rfl, HN.out.symm, ⟨.inl rfl, fun j hj => by omega, by decide⟩, hq'.trans (b2.mono hq'.size)⟩
  · have hn : meetLen y z la lb = 0 := by unfold meetLen; rw [if_neg (fun h => hA h.1)]
    have hA' : Bl.right y la = false := by simpa using hA
    have EA := Lib.hid hA'
    have HN := Lib.hid hn
    have HA := Lib.hid ha
    clear hA hA' hn ha hb
    go_enter Try.func15, Try.ntmps15
    go_wp2_with fail
    refine (right_lit _ _ _ y false _ (HA.out.keep (below2 _ _ _)) EA.out).mono ?_
    rintro e w1 ⟨rfl, b1⟩
    go_wp2_with fail
    go_ret
    exact ⟨none, 0, 0, rfl, HN.out.symm, ⟨.inl rfl, fun j hj => by omega, by decide⟩, (below2 _ _ _).trans (b1.mono (by simp; omega))⟩
end Go.Proofs.Ytcajlldecdjdlaa
