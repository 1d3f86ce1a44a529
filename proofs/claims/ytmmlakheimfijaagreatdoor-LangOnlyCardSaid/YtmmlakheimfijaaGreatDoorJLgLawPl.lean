/-
  What the laws LangOnly and LangInside lean on: plain words. Conditions: each lemma says its own.
-/
import Derived.Test.YtmmlakheimfijaaGreatDoorJLgWorksPl
namespace Go.Proofs.YtmmlakheimfijaaGreatDoor
set_option linter.unusedVariables false
set_option linter.unusedSimpArgs false

theorem firstRes_least {D : DfaI} (hR : RightD D) {t : List Nat} (h : firstRes D = some t) : IsLeastT (langD D) t := by
  unfold firstRes at h
  rw [if_pos (rightD_iff.2 hR)] at h
  exact firstD_some hR h
theorem inside_iff {D E : DfaI} (hD : RightD D) (hE : RightD E) (hl : (pairsL D E).length ≤ 4096) : insideB D E = true ↔ ∀ u, Bytes u → langD D u = true → langD E u = true := by
  have hR := bothD_right (op := lessB) hD hE hl
  have e : insideB D E = !(firstRes (bothD lessB D E)).isSome := by
    unfold insideB
    rw [(bothD_eq (op := lessB) hD hE hl).2]
    simp
  rw [e]
  cases hf : firstRes (bothD lessB D E) with
  | none =>
    refine ⟨fun _ u hu h1 => ?_, fun _ => rfl⟩
    have := firstRes_none hR hf hu
    rw [bothD_lang hD hE hl hu, h1] at this
    cases h2 : langD E u with
    | true => rfl
    | false => rw [h2] at this; cases this
  | some t =>
    have ht := firstRes_least hR hf
    have h1 := ht.2.1
    rw [bothD_lang hD hE hl ht.1] at h1
    refine ⟨fun h => (by cases h), fun h => ?_⟩
    have h2 := h t ht.1
    cases h3 : langD D t with
    | true => rw [h3, h2 h3] at h1; cases h1
    | false => rw [h3] at h1; cases langD E t <;> cases h1
theorem inside_apart {D E : DfaI} (hD : RightD D) (hE : RightD E) (hl : (pairsL D E).length ≤ 4096) {t : List Nat} {b : Bool} (hb : Bytes t) (ht : b = true → langD (bothD andB D E) t ≠ langD D t) (hf : b = false → ∀ u, Bytes u → langD (bothD andB D E) u = langD D u) : insideB D E = !b := by
  cases b with
  | false =>
    refine (inside_iff hD hE hl).2 fun u hu h1 => ?_
    have := hf rfl u hu
    rw [bothD_lang hD hE hl hu, h1] at this
    cases h2 : langD E u with
    | true => rfl
    | false => rw [h2] at this; cases this
  | true =>
    cases hi : insideB D E with
    | false => rfl
    | true =>
      have h1 := (inside_iff hD hE hl).1 hi t hb
      have h2 := ht rfl
      rw [bothD_lang hD hE hl hb] at h2
      cases h3 : langD D t with
      | true => rw [h3, h1 h3] at h2; exact (h2 rfl).elim
      | false => rw [h3] at h2; exact (h2 rfl).elim
theorem alike_apart {D E : DfaI} (hD : RightD D) (hE : RightD E) {t : List Nat} {b : Bool} (hb : Bytes t) (ht : b = true → langD D t ≠ langD E t) (hf : b = false → ∀ u, Bytes u → langD D u = langD E u) : alikeD D E = !b := by
  cases b with
  | false => exact (alikeD_iff hD hE).2 (hf rfl)
  | true =>
    cases hi : alikeD D E with
    | false => rfl
    | true => exact (ht rfl ((alikeD_iff hD hE).1 hi t hb)).elim
theorem inside_both {D E : DfaI} (hD : RightD D) (hE : RightD E) (hl : (pairsL D E).length ≤ 4096) (hl' : (pairsL E D).length ≤ 4096) : (insideB D E && insideB E D) = alikeD D E := by
  cases h : alikeD D E with
  | true =>
    have h1 := (alikeD_iff hD hE).1 h
    rw [(inside_iff hD hE hl).2 fun u hu hx => by rw [← h1 u hu]; exact hx, (inside_iff hE hD hl').2 fun u hu hx => by rw [h1 u hu]; exact hx]
    rfl
  | false =>
    rw [Bool.eq_false_iff]
    intro hx
    rw [Bool.and_eq_true] at hx
    have h1 := (inside_iff hD hE hl).1 hx.1
    have h2 := (inside_iff hE hD hl').1 hx.2
    have : alikeD D E = true := (alikeD_iff hD hE).2 fun u hu => by
      cases h3 : langD D u with
      | true => exact (h1 u hu h3).symm
      | false =>
        cases h4 : langD E u with
        | false => rfl
        | true => rw [h2 u hu h4] at h3; cases h3
    rw [h] at this
    cases this
theorem wrong_alike {D E : DfaI} (h : (rightD D && rightD E) = false) : alikeD D E = false ∧ insideB D E = false ∧ bothE D E = 7 := by
  have h3 : bothE D E = 7 := by unfold bothE; rw [h]; rfl
  refine ⟨by unfold alikeD; rw [h]; rfl, ?_, h3⟩
  unfold insideB
  rw [h3]
  rfl
end Go.Proofs.YtmmlakheimfijaaGreatDoor
