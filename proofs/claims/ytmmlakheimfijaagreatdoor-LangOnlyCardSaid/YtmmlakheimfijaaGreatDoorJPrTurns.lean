/-
  De Morgan and the other laws of prod, in plain words. Conditions: both automata are right and have at most 30 states.
-/
import Derived.Test.YtmmlakheimfijaaGreatDoorJBoth
namespace Go.Proofs.YtmmlakheimfijaaGreatDoor
set_option linter.unusedVariables false
set_option linter.unusedSimpArgs false

section
variable {A B : DfaI}
theorem ofD_small (hA : RightD A) : (ofD A).next.length ≤ A.next.length := by
  rw [ofD_pos hA, canonI_many]
  have h1 := Aut.statesL_le hA.ok hA.blk.1.blk
  have h2 : A.aut.many = A.next.length := A.nx_len
  unfold langD DfaI.blk
  omega
theorem notC_small (hA : RightD A) : (notC A).next.length ≤ A.next.length := by
  rw [notC_eq hA]
  exact ofD_small (flipD_right hA)
theorem bothD_small {op : Bool → Bool → Bool} (hA : RightD A) (hB : RightD B) (hl : (pairsL A B).length ≤ 4096) : (bothD op A B).next.length ≤ (pairsL A B).length := by
  rw [(bothD_eq hA hB hl).1, canonI_many]
  have hR := prodD_right (op := op) (mbP_meet A B) (pairsL_all hA hB) hl
  have h2 := Aut.statesL_le hR.ok hR.blk.1.blk
  have h3 : (statesL (langD (prodD A B op (mbP A B) (fsP A B) (pairsL A B)))).length ≤ (pairsL A B).length := by
    refine Nat.le_trans h2 ?_
    show (prodD _ _ _ _ _ _).nx.length ≤ _
    rw [DfaI.nx_len]
    simp [prodD]
  rwa [statesL_congr fun u hu => prodD_lang (op := op) (mbP_meet A B) (pairsL_all hA hB) hu] at h3
theorem ofD_of_lang {D : DfaI} {L : Lang} (hA : RightD A) (h : ∀ u, Bytes u → L u = langD A u) (hD : D = canonI L) : D = ofD A := by
  rw [ofD_pos hA, hD]
  exact canonI_congr h
theorem pairs_small (hA : RightD A) (hB : RightD B) (h1 : A.next.length ≤ 60) (h2 : B.next.length ≤ 60) : (pairsL A B).length ≤ 3600 :=
  Nat.le_trans (pairs_le hA hB) (Nat.mul_le_mul h1 h2)
theorem notC_canon (hA : RightD A) : notC A = canonI (fun u => !langD A u) := by unfold notC; rw [if_pos (rightD_iff.2 hA)]
structure TurnsP (A B : DfaI) : Prop where
  e1 : bothE A B = 0
  e2 : bothE (notC A) (notC B) = 0
  e5 : bothE A A = 0
  whole : (bothE (bothD lessB A B) (bothD andB A B) = 0 ∧ eqD (bothD orB (bothD lessB A B) (bothD andB A B)) (ofD A) = true) ∨ bothE (bothD lessB A B) (bothD andB A B) = 16
  same : eqD (notC (bothD andB A B)) (bothD orB (notC A) (notC B)) = true
  self : eqD (bothD andB A A) (ofD A) = true
  none : (bothD unlikeB A A).fin.length = 1 ∧ (bothD unlikeB A A).fin.getD 0 false = false
  dbl : eqD (notC (notC A)) (ofD A) = true
theorem turnsP (hA : RightD A) (hB : RightD B) (h1 : A.next.length ≤ 30) (h2 : B.next.length ≤ 30) : TurnsP A B := by
  have p1 := pairs_small hA hB (by omega) (by omega)
  have p2 := pairs_small hA hA (by omega) (by omega)
  have n1 := notC_right hA
  have n2 := notC_right hB
  have p3 := pairs_small n1 n2 (by have := notC_small hA; omega) (by have := notC_small hB; omega)
  have rl := bothD_right (op := lessB) hA hB (by omega)
  have ra := bothD_right (op := andB) hA hB (by omega)
  refine ⟨(bothD_eq (op := andB) hA hB (by omega)).2, (bothD_eq (op := andB) n1 n2 (by omega)).2, (bothD_eq (op := andB) hA hA (by omega)).2, ?_, ?_, ?_, ?_, ?_⟩
  · by_cases hl : (pairsL (bothD lessB A B) (bothD andB A B)).length ≤ 4096
    · refine .inl ⟨(bothD_eq (op := orB) rl ra hl).2, eqD_iff.2 (ofD_of_lang hA (fun u hu => ?_) (bothD_eq rl ra hl).1)⟩
      unfold opL
      rw [bothD_lang hA hB (by omega) hu, bothD_lang hA hB (by omega) hu]
      cases langD A u <;> cases langD B u <;> rfl
    · right
      unfold bothE
      rw [rightD_iff.2 rl, rightD_iff.2 ra]
      simp only [Bool.and_self, if_true, if_neg hl]
  · rw [eqD_iff, notC_canon ra, (bothD_eq n1 n2 (by omega)).1]
    refine canonI_congr fun u hu => ?_
    unfold opL
    rw [bothD_lang hA hB (by omega) hu, notC_lang hA hu, notC_lang hB hu]
    cases langD A u <;> cases langD B u <;> rfl
  · refine eqD_iff.2 (ofD_of_lang hA (fun u hu => ?_) (bothD_eq hA hA (by omega)).1)
    unfold opL
    cases langD A u <;> rfl
  · rw [(bothD_eq hA hA (by omega)).1]
    have e : canonI (opL unlikeB A A) = canonI (fun _ => false) := canonI_congr fun u hu => by
      unfold opL
      cases langD A u <;> rfl
    rw [e, canonI_fin, none_states, canonI_fin0]
    exact ⟨rfl, rfl⟩
  · refine eqD_iff.2 (ofD_of_lang hA (fun u hu => ?_) (notC_canon n1))
    rw [notC_lang hA hu]
    cases langD A u <;> rfl
end
end Go.Proofs.YtmmlakheimfijaaGreatDoor
