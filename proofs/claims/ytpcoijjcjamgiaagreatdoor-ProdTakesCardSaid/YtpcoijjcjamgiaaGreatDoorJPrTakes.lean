/-
  ProdTakes in plain words: what is made of two automata takes what the document says, and is its own least one. Conditions: at most 12 states each.
-/
import Derived.Test.YtpcoijjcjamgiaaGreatDoorJBoth
namespace Go.Proofs.YtpcoijjcjamgiaaGreatDoor
set_option linter.unusedVariables false
set_option linter.unusedSimpArgs false

section
variable {A B : DfaI}
theorem ofD_of_lang' {D : DfaI} {L : Lang} (hA : RightD A) (h : ∀ u, Bytes u → L u = langD A u) (hD : D = canonI L) : ofD A = D := by
  rw [ofD_pos hA, hD]
  exact (canonI_congr h).symm
theorem takes_fine (op : Bool → Bool → Bool) (hA : RightD A) (hB : RightD B) (h1 : A.next.length ≤ 12) (h2 : B.next.length ≤ 12) (s : ByteArray) :
    bothE A B = 0 ∧ rightD (bothD op A B) = true ∧ runD (bothD op A B) s = op (runD A s) (runD B s) ∧ eqD (ofD (bothD op A B)) (bothD op A B) = true := by
  have hl : (pairsL A B).length ≤ 4096 := by
    have := Nat.mul_le_mul h1 h2
    have := pairs_le hA hB
    omega
  have hr := bothD_right (op := op) hA hB hl
  refine ⟨(bothD_eq (op := op) hA hB hl).2, rightD_iff.2 hr, ?_, eqD_iff.2 (ofD_of_lang' hr (fun u hu => (bothD_lang (op := op) hA hB hl hu).symm) (bothD_eq (op := op) hA hB hl).1)⟩
  unfold runD
  rw [rightD_iff.2 hr, rightD_iff.2 hA, rightD_iff.2 hB, bothD_lang hA hB hl (bytesTo_in s s.size)]
  simp
theorem takes_wrong (op : Bool → Bool → Bool) (h : (rightD A && rightD B) = false) : bothE A B = 7 ∧ (bothD op A B).next.length = 0 := by
  constructor
  · unfold bothE
    rw [if_neg (by rw [h]; decide)]
  · unfold bothD
    rw [if_neg (by rw [h]; decide)]
    rfl
theorem takes_not (hA : RightD A) (s : ByteArray) : runD (notC A) s = !runD A s ∧ eqD (ofD (notC A)) (notC A) = true := by
  have hr := notC_right hA
  constructor
  · unfold runD
    rw [rightD_iff.2 hr, rightD_iff.2 hA, notC_lang hA (bytesTo_in s s.size)]
    simp
  · exact eqD_iff.2 (ofD_of_lang' hr (fun u hu => (notC_lang hA hu).symm) ((by unfold notC; rw [if_pos (rightD_iff.2 hA)])))
theorem takes_wrongn (h : rightD A = false) : (notC A).next.length = 0 := by
  unfold notC
  rw [if_neg (by rw [h]; decide)]
  rfl
end
end Go.Proofs.YtpcoijjcjamgiaaGreatDoor
