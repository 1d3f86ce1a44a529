/-
  The first classes: the states that take, and the others. Plain law. Conditions: none but what each says.
-/
import Derived.Test.YtgkpgjbgcimijaaDoorAuHop2
namespace Go.Proofs.YtgkpgjbgcimijaaDoor
set_option linter.unusedVariables false
set_option linter.unusedSimpArgs false

def parts0 : Parts := { cls := fun _ => 0, mem := [], wai := [], work := [] }
/-- one class more, that waits, if there are any -/
def iniP (P : Parts) (s : List Nat) : Parts := if s = [] then P else (P.opens s).wait P.mem.length
def takesL (d : Aut) (R : List Nat) : List Nat := R.filter fun n => d.fin n
def othersL (d : Aut) (R : List Nat) : List Nat := R.filter fun n => !d.fin n
def parts2 (d : Aut) (R : List Nat) : Parts := iniP (iniP parts0 (takesL d R)) (othersL d R)
theorem takesL_mem {d : Aut} {R : List Nat} {n : Nat} : n ∈ takesL d R ↔ n ∈ R ∧ d.fin n = true := by simp [takesL]
theorem othersL_mem {d : Aut} {R : List Nat} {n : Nat} : n ∈ othersL d R ↔ n ∈ R ∧ d.fin n = false := by simp [othersL]
theorem opens_wait (P : Parts) (s : List Nat) (hl : P.wai.length = P.mem.length) : (P.opens s).wait P.mem.length = { P.opens s with wai := P.wai ++ [true], work := P.work ++ [P.mem.length] } := by
  have e : (P.opens s).wai = P.wai ++ [false] := rfl
  have h1 : (P.opens s).wai.getD P.mem.length false = false := by
    rw [e, List.getD_eq_getElem?_getD, ← hl, List.getElem?_append_right (Nat.le_refl _), Nat.sub_self]; rfl
  unfold Parts.wait
  rw [if_neg (by rw [h1]; simp), e, ← hl]
  congr 1
  rw [List.set_append_right _ _ (Nat.le_refl _), Nat.sub_self]
  rfl
/-- what both steps give, case by case -/
theorem parts2_is (d : Aut) (R : List Nat) : parts2 d R =
    if takesL d R = [] then (if othersL d R = [] then parts0 else { cls := fun n => if n ∈ othersL d R then 0 else 0, mem := [othersL d R], wai := [true], work := [0] })
    else (if othersL d R = [] then { cls := fun n => if n ∈ takesL d R then 0 else 0, mem := [takesL d R], wai := [true], work := [0] }
      else { cls := fun n => if n ∈ othersL d R then 1 else if n ∈ takesL d R then 0 else 0, mem := [takesL d R, othersL d R], wai := [true, true], work := [0, 1] }) := by
  unfold parts2 iniP
  by_cases hT : takesL d R = []
  · rw [if_pos hT, if_pos hT]
    by_cases hO : othersL d R = []
    · rw [if_pos hO, if_pos hO]
    · rw [if_neg hO, if_neg hO, opens_wait parts0 _ rfl]
      rfl
  · rw [if_neg hT, if_neg hT, opens_wait parts0 _ rfl]
    by_cases hO : othersL d R = []
    · rw [if_pos hO, if_pos hO]
      rfl
    · rw [if_neg hO, if_neg hO, opens_wait _ _ rfl]
      rfl
theorem parts2_inv {d : Aut} {R : List Nat} (hn : R.Nodup) : HopI d R (parts2 d R) ∧ Hop2 d R (parts2 d R) [] d.wide := by
  have hnT : (takesL d R).Nodup := hn.filter _
  have hnO : (othersL d R).Nodup := hn.filter _
  have side : ∀ n ∈ R, n ∈ takesL d R ∨ n ∈ othersL d R := fun n hR => by
    cases h : d.fin n with
    | true => exact .inl (takesL_mem.2 ⟨hR, h⟩)
    | false => exact .inr (othersL_mem.2 ⟨hR, h⟩)
  have not_both : ∀ n, n ∈ takesL d R → n ∉ othersL d R := fun n h h' => by
    have := (takesL_mem.1 h).2
    rw [(othersL_mem.1 h').2] at this
    cases this
  rw [parts2_is]
  by_cases hT : takesL d R = []
  · rw [if_pos hT]
    by_cases hO : othersL d R = []
    · rw [if_pos hO]
      have hR : ∀ n, n ∉ R := fun n h => by
        rcases side n h with h | h
        · rw [hT] at h; cases h
        · rw [hO] at h; cases h
      exact ⟨⟨rfl, fun n h => absurd h (hR n), fun c s h => by simp [parts0] at h, by simp [parts0], fun c => by simp [parts0], fun n m h => absurd h (hR n), fun n m h => absurd h (hR n)⟩, fun p q h => absurd h (hR p)⟩
    · rw [if_neg hO]
      have all : ∀ n ∈ R, n ∈ othersL d R := fun n h => by
        rcases side n h with h | h
        · rw [hT] at h; cases h
        · exact h
      refine ⟨⟨rfl, fun n _ => by simp, fun c s h => ?_, by simp, fun c => ?_, fun n m _ _ _ => by simp, fun n m h1 h2 _ => ?_⟩, fun p q _ _ _ k _ h => absurd (by simp) h⟩
      · have hc : c = 0 := by have := (List.getElem?_eq_some_iff.1 h).1; simpa using this
        subst hc
        obtain rfl := Option.some.inj h
        exact ⟨hO, hnO, fun n => ⟨fun h => ⟨(othersL_mem.1 h).1, by simp⟩, fun h => all n h.1⟩⟩
      · match c with
        | 0 => simp
        | c + 1 => simp
      · rw [(othersL_mem.1 (all n h1)).2, (othersL_mem.1 (all m h2)).2]
  · rw [if_neg hT]
    by_cases hO : othersL d R = []
    · rw [if_pos hO]
      have all : ∀ n ∈ R, n ∈ takesL d R := fun n h => by
        rcases side n h with h | h
        · exact h
        · rw [hO] at h; cases h
      refine ⟨⟨rfl, fun n _ => by simp, fun c s h => ?_, by simp, fun c => ?_, fun n m _ _ _ => by simp, fun n m h1 h2 _ => ?_⟩, fun p q _ _ _ k _ h => absurd (by simp) h⟩
      · have hc : c = 0 := by have := (List.getElem?_eq_some_iff.1 h).1; simpa using this
        subst hc
        obtain rfl := Option.some.inj h
        exact ⟨hT, hnT, fun n => ⟨fun h => ⟨(takesL_mem.1 h).1, by simp⟩, fun h => all n h.1⟩⟩
      · match c with
        | 0 => simp
        | c + 1 => simp
      · rw [(takesL_mem.1 (all n h1)).2, (takesL_mem.1 (all m h2)).2]
    · rw [if_neg hO]
      have cl : ∀ n ∈ R, (if n ∈ othersL d R then 1 else if n ∈ takesL d R then 0 else 0) = if d.fin n then 0 else 1 := fun n h => by
        cases hf : d.fin n with
        | true => rw [if_neg (not_both n (takesL_mem.2 ⟨h, hf⟩))]; simp
        | false => rw [if_pos (othersL_mem.2 ⟨h, hf⟩)]; simp
      refine ⟨⟨rfl, fun n h => ?_, fun c s h => ?_, by simp, fun c => ?_, fun n m h1 h2 he => ?_, fun n m h1 h2 h => ?_⟩, fun p q _ _ _ k _ h => .inl ?_⟩
      · simp only [cl n h, List.length_cons, List.length_nil]
        split <;> omega
      · match c, h with
        | 0, h =>
          obtain rfl := Option.some.inj h
          refine ⟨hT, hnT, fun n => ⟨fun h => ?_, fun h => ?_⟩⟩
          · have h2 := takesL_mem.1 h
            exact ⟨h2.1, by simp only [cl n h2.1, h2.2]; rfl⟩
          · have h2 := h.2
            simp only [cl n h.1] at h2
            refine takesL_mem.2 ⟨h.1, ?_⟩
            cases hf : d.fin n with
            | true => rfl
            | false => rw [hf] at h2; cases h2
        | 1, h =>
          obtain rfl := Option.some.inj h
          refine ⟨hO, hnO, fun n => ⟨fun h => ?_, fun h => ?_⟩⟩
          · have h2 := othersL_mem.1 h
            exact ⟨h2.1, by simp only [cl n h2.1, h2.2]; rfl⟩
          · have h2 := h.2
            simp only [cl n h.1] at h2
            refine othersL_mem.2 ⟨h.1, ?_⟩
            cases hf : d.fin n with
            | true => rw [hf] at h2; cases h2
            | false => rfl
        | c + 2, h => simp at h
      · match c with
        | 0 => simp
        | 1 => simp
        | c + 2 => simp
      · simp only [cl n h1, cl m h2, he.fin_]
      · simp only [cl n h1, cl m h2] at h
        cases hf : d.fin n <;> cases hg : d.fin m <;> rw [hf, hg] at h <;> first | rfl | cases h
      · show [true, true][_]? = some true
        by_cases e : d.nx p k ∈ othersL d R
        · simp [e]
        · simp [e]
end Go.Proofs.YtgkpgjbgcimijaaDoor
