/-
  The chapter's examples (lang): plain words. Conditions: none.
-/
import Derived.Test.YtmmlakheimfijaaGreatDoorJLgAlike
import Derived.Test.YtmmlakheimfijaaGreatDoorJPrTurns
import Derived.Test.YtmmlakheimfijaaGreatDoorJWord
namespace Go.Proofs.YtmmlakheimfijaaGreatDoor
set_option linter.unusedVariables false
set_option linter.unusedSimpArgs false

/-- what First tells is told by the language -/
theorem firstRes_only {D : DfaI} (hR : RightD D) {t : List Nat} (h : IsOnly (langD D) t) : firstRes D = some t := by
  unfold firstRes
  rw [if_pos (rightD_iff.2 hR)]
  cases hf : firstD D with
  | none =>
    have := firstD_none hR hf h.1
    rw [(h.2 t h.1).2 rfl] at this
    cases this
  | some u => rw [(firstD_some hR hf).eq h.least]
theorem firstRes_some {D : DfaI} (hR : RightD D) {u : List Nat} (hu : Bytes u) (h : langD D u = true) : ∃ t, firstRes D = some t := by
  unfold firstRes
  rw [if_pos (rightD_iff.2 hR)]
  cases hf : firstD D with
  | none =>
    have := firstD_none hR hf hu
    rw [h] at this
    cases this
  | some t => exact ⟨t, rfl⟩
theorem firstRes_none {D : DfaI} (hR : RightD D) (h : firstRes D = none) {u : List Nat} (hu : Bytes u) : langD D u = false := by
  cases hl : langD D u with
  | false => rfl
  | true =>
    obtain ⟨t, ht⟩ := firstRes_some hR hu hl
    rw [h] at ht
    cases ht
theorem onlyIs_some {D : DfaI} (hR : RightD D) {o : OT} (h : OnlyIs D o) {t : List Nat} (ht : IsOnly (langD D) t) : o = some t := by
  cases o with
  | none => exact (h hR t ht).elim
  | some u => rw [h.2.eq ht]
theorem finiteD_lang {D : DfaI} (hR : RightD D) : finiteD D = true ↔ FinL (langD D) := by
  unfold finiteD
  rw [rightD_iff.2 hR, Bool.not_true, Bool.false_or]
  exact refFin_iff hR.ok hR.blk.1.blk
theorem word_only {l : List Nat} (hl : l.length ≤ 4094) (hb : Bytes l) : IsOnly (langD (wordD l)) l := ⟨hb, fun u hu => by rw [wordD_lang hb hu]; simp⟩
theorem alikeD_iff {D E : DfaI} (hD : RightD D) (hE : RightD E) : alikeD D E = true ↔ ∀ u, Bytes u → langD D u = langD E u := by
  unfold alikeD
  rw [rightD_iff.2 hD, rightD_iff.2 hE, Bool.true_and, Bool.true_and, eqD_iff]
  exact ofD_eq_iff hD hE

def exAb : List Nat := [97, 98]
theorem exAb_bytes : Bytes exAb := fun b hb => by
  unfold exAb at hb
  simp at hb
  omega
def wab : DfaI := wordD exAb
theorem wab_right : RightD wab := wordD_right (by simp [exAb])
theorem wab_in : wab.In := wordD_in (by simp [exAb])
theorem wab_only : IsOnly (langD wab) exAb := word_only (by simp [exAb]) exAb_bytes
theorem wab_many : wab.next.length = 4 := by simp [wab, wordD, exAb]
theorem wab_first : firstRes wab = some exAb := firstRes_only wab_right wab_only
theorem wab_fin : finiteD wab = true := (finiteD_lang wab_right).2 wab_only.fin
theorem wab_inf : finiteD (notC wab) = false := by
  cases h : finiteD (notC wab) with
  | false => rfl
  | true =>
    obtain ⟨n, hn⟩ := (finiteD_lang (notC_right wab_right)).1 h
    have hb : Bytes (List.replicate (n + 3) 0) := fun b hb => by rw [(List.mem_replicate.1 hb).2]; omega
    have hl : langD (notC wab) (List.replicate (n + 3) 0) = true := by
      rw [notC_lang wab_right hb]
      cases hw : langD wab (List.replicate (n + 3) 0) with
      | false => rfl
      | true =>
        have := congrArg List.length ((wab_only.2 _ hb).1 hw)
        simp [exAb] at this
    have := hn _ hb hl
    simp at this
    omega
theorem wab_two : manyI wab 2 = 1 := by
  unfold manyI
  rw [if_pos ⟨rightD_iff.2 wab_right, by omega, by omega⟩]
  have h1 : manyF wab.aut wab.blk exAb.length = 1 := many_only wab_right.ok wab_right.blk.1.blk wab_only
  have h2 : (2 : Int).toNat = exAb.length := rfl
  rw [h2, h1]
  exact cutN_small (by omega)
theorem wab_pairs : (pairsL wab (notC wab)).length ≤ 4096 := by
  have h1 := pairs_le wab_right (notC_right wab_right)
  have h2 : (notC wab).next.length ≤ 4 := by
    rw [notC_eq wab_right, ← wab_many]
    exact ofD_small (flipD_right wab_right)
  rw [wab_many] at h1
  omega
theorem wab_inside : insideB wab (notC wab) = false ∧ bothE wab (notC wab) = 0 := by
  obtain ⟨h1, h2⟩ := bothD_eq (op := lessB) wab_right (notC_right wab_right) wab_pairs
  refine ⟨?_, h2⟩
  have hl : langD (bothD lessB wab (notC wab)) exAb = true := by
    rw [bothD_lang wab_right (notC_right wab_right) wab_pairs exAb_bytes, notC_lang wab_right exAb_bytes, (wab_only.2 _ exAb_bytes).2 rfl]
    rfl
  obtain ⟨t, ht⟩ := firstRes_some (bothD_right wab_right (notC_right wab_right) wab_pairs) exAb_bytes hl
  unfold insideB
  rw [ht]
  simp
theorem wab_alike : alikeD wab wab = true := (alikeD_iff wab_right wab_right).2 fun u _ => rfl
end Go.Proofs.YtmmlakheimfijaaGreatDoor
