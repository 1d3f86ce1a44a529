/-
  The one text that there is: plain words. Conditions: the automaton is right; the table tells its useful states.
-/
import Derived.Test.YtmmlakheimfijaaGreatDoorJLgFinPl
namespace Go.Proofs.YtmmlakheimfijaaGreatDoor
set_option linter.unusedVariables false
set_option linter.unusedSimpArgs false

/-- how many of the bytes below n lead on, and the last of them -/
def waysF (g : Nat → Bool) : Nat → Nat × Nat
  | 0 => (0, 0)
  | n + 1 => if g n = true then ((waysF g n).1 + 1, n) else waysF g n
theorem waysF_le (g : Nat → Bool) : ∀ n, (waysF g n).1 ≤ n
  | 0 => Nat.le_refl _
  | n + 1 => by
    have := waysF_le g n
    rw [waysF]
    split
    · show (waysF g n).1 + 1 ≤ n + 1
      omega
    · omega
theorem waysF_last (g : Nat → Bool) : ∀ n, (waysF g n).2 ≤ n - 1
  | 0 => Nat.le_refl _
  | n + 1 => by
    have := waysF_last g n
    rw [waysF]
    split
    · show n ≤ _
      omega
    · omega
theorem waysF_zero {g : Nat → Bool} : ∀ {n}, (waysF g n).1 = 0 → ∀ b, b < n → g b = false
  | 0, _, b, hb => by omega
  | n + 1, h, b, hb => by
    rw [waysF] at h
    by_cases hg : g n = true
    · rw [if_pos hg] at h
      simp at h
    · rw [if_neg hg] at h
      by_cases e : b = n
      · subst e; simpa using hg
      · exact waysF_zero h b (by omega)
theorem waysF_pos {g : Nat → Bool} : ∀ {n}, (waysF g n).1 ≠ 0 → (waysF g n).2 < n ∧ g (waysF g n).2 = true
  | 0, h => absurd rfl h
  | n + 1, h => by
    rw [waysF] at h ⊢
    by_cases hg : g n = true
    · rw [if_pos hg]
      exact ⟨Nat.lt_succ_self _, hg⟩
    · rw [if_neg hg] at h ⊢
      have := waysF_pos h
      exact ⟨by omega, this.2⟩
theorem waysF_one {g : Nat → Bool} : ∀ {n}, (waysF g n).1 = 1 → ∀ b, b < n → g b = true → b = (waysF g n).2
  | 0, h, b, hb, _ => by omega
  | n + 1, h, b, hb, hgb => by
    rw [waysF] at h ⊢
    by_cases hg : g n = true
    · rw [if_pos hg] at h ⊢
      by_cases e : b = n
      · exact e
      · have := waysF_zero (g := g) (n := n) (by simpa using h) b (by omega)
        rw [this] at hgb
        cases hgb
    · rw [if_neg hg] at h ⊢
      by_cases e : b = n
      · subst e; exact absurd hgb hg
      · exact waysF_one h b (by omega) hgb
theorem waysF_two {g : Nat → Bool} : ∀ {n}, 1 < (waysF g n).1 → ∃ b c, b < c ∧ c < n ∧ g b = true ∧ g c = true
  | 0, h => by simp [waysF] at h
  | n + 1, h => by
    rw [waysF] at h
    by_cases hg : g n = true
    · rw [if_pos hg] at h
      have h1 : (waysF g n).1 ≠ 0 := by
        have : 1 < (waysF g n).1 + 1 := h
        omega
      have := waysF_pos h1
      exact ⟨_, n, this.1, Nat.lt_succ_self _, this.2, hg⟩
    · rw [if_neg hg] at h
      obtain ⟨b, c, h1, h2, h3⟩ := waysF_two h
      exact ⟨b, c, h1, by omega, h3⟩

/-- the language of one text -/
def IsOnly (L : Lang) (t : List Nat) : Prop := Bytes t ∧ ∀ u, Bytes u → (L u = true ↔ u = t)
theorem IsOnly.eq {L : Lang} {t u : List Nat} (h : IsOnly L t) (h' : IsOnly L u) : t = u := (h'.2 t h.1).1 ((h.2 t h.1).2 rfl)
theorem IsOnly.least {L : Lang} {t : List Nat} (h : IsOnly L t) : IsLeastT L t := ⟨h.1, (h.2 t h.1).2 rfl, fun u hu hL => .inl ((h.2 u hu).1 hL).symm⟩
theorem IsOnly.fin {L : Lang} {t : List Nat} (h : IsOnly L t) : FinL L := ⟨t.length + 1, fun u hu hL => by rw [(h.2 u hu).1 hL]; omega⟩
theorem IsOnly.congr {L L' : Lang} {t : List Nat} (h : IsOnly L t) (hL : ∀ u, Bytes u → L u = L' u) : IsOnly L' t := ⟨h.1, fun u hu => by rw [← hL u hu]; exact h.2 u hu⟩
/-- all that is taken goes on from here -/
structure OnWay (L : Lang) (out : List Nat) : Prop where
  bytes : Bytes out
  pre : ∀ u, Bytes u → L u = true → ∃ v, u = out ++ v
section
variable {d : Aut} {blk : Nat → Nat} {U : Nat → Bool}
def leadF (d : Aut) (blk : Nat → Nat) (U : Nat → Bool) (p b : Nat) : Bool := U (d.nx p (blk b))
theorem OnWay.start {L : Lang} : OnWay L [] := ⟨.nil, fun u _ _ => ⟨u, rfl⟩⟩
theorem only_none (hb : d.Blk blk) (h : ¬ Useful d d.start) (t : List Nat) : ¬ IsOnly (d.lang blk) t := fun ho =>
  h (Useful.of_text hb (u := []) (v := t) ho.1 ((ho.2 t ho.1).2 rfl))
theorem lead_use (hd : d.Ok) (hb : d.Blk blk) (hU : ∀ p, p < d.many → (U p = true ↔ Useful d p)) {out : List Nat} (ho : Bytes out) {b : Nat} (hbb : b < 256) :
    leadF d blk U (d.at_ blk out) b = true ↔ Useful d (d.at_ blk (out ++ [b])) := by
  unfold leadF
  rw [Aut.at_app]
  exact hU _ (hd.nxt _ _ (Aut.at_lt hd hb ho) (hb.lt b hbb))
theorem only_end (hd : d.Ok) (hb : d.Blk blk) (hU : ∀ p, p < d.many → (U p = true ↔ Useful d p)) {out : List Nat} (h : OnWay (d.lang blk) out) (hf : d.fin (d.at_ blk out) = true) (hw : (waysF (leadF d blk U (d.at_ blk out)) 256).1 = 0) : IsOnly (d.lang blk) out := by
  refine ⟨h.bytes, fun u hu => ⟨fun hL => ?_, fun e => by rw [e]; exact hf⟩⟩
  obtain ⟨v, rfl⟩ := h.pre u hu hL
  cases v with
  | nil => simp
  | cons b v =>
    have hbb := hu b (by simp)
    have hv : Bytes v := fun c hc => hu c (by simp [hc])
    have h1 := waysF_zero hw b hbb
    have h2 := (lead_use hd hb hU h.bytes hbb).2 (Useful.of_text hb (u := out ++ [b]) hv (by simpa using hL))
    rw [h1] at h2
    cases h2
theorem only_not (hd : d.Ok) (hb : d.Blk blk) (hU : ∀ p, p < d.many → (U p = true ↔ Useful d p)) {out : List Nat} (h : OnWay (d.lang blk) out) (hu : Useful d (d.at_ blk out))
    (hc : (d.fin (d.at_ blk out) = true ∧ (waysF (leadF d blk U (d.at_ blk out)) 256).1 ≠ 0) ∨ (d.fin (d.at_ blk out) = false ∧ (waysF (leadF d blk U (d.at_ blk out)) 256).1 ≠ 1)) (t : List Nat) : ¬ IsOnly (d.lang blk) t := by
  intro ho
  have more : ∀ b, b < 256 → leadF d blk U (d.at_ blk out) b = true → ∃ v, t = out ++ b :: v := fun b hbb hl => by
    obtain ⟨v, hv, hL⟩ := Useful.text hb (h.bytes.app (.one hbb)) ((lead_use hd hb hU h.bytes hbb).1 hl)
    exact ⟨v, by rw [← (ho.2 _ ((h.bytes.app (.one hbb)).app hv)).1 hL]; simp⟩
  rcases hc with ⟨hf, hw⟩ | ⟨hf, hw⟩
  · obtain ⟨h1, h2⟩ := waysF_pos hw
    obtain ⟨v, e⟩ := more _ h1 h2
    have e2 := (ho.2 out h.bytes).1 hf
    rw [← e2] at e
    have := congrArg List.length e
    simp at this
  · by_cases h0 : (waysF (leadF d blk U (d.at_ blk out)) 256).1 = 0
    · rcases hu.step with h1 | ⟨k, hk, h1⟩
      · rw [hf] at h1; cases h1
      · obtain ⟨b, hbb, rfl⟩ := hb.onto k hk
        have h2 := (lead_use hd hb hU h.bytes hbb).2 (by rw [Aut.at_app]; exact h1)
        rw [waysF_zero h0 b hbb] at h2
        cases h2
    · obtain ⟨b, c, h1, h2, h3, h4⟩ := waysF_two (show 1 < (waysF (leadF d blk U (d.at_ blk out)) 256).1 by omega)
      obtain ⟨v, e⟩ := more b (by omega) h3
      obtain ⟨v', e'⟩ := more c h2 h4
      rw [e] at e'
      have := List.append_cancel_left e'
      simp at this
      omega
theorem only_step (hd : d.Ok) (hb : d.Blk blk) (hU : ∀ p, p < d.many → (U p = true ↔ Useful d p)) {out : List Nat} (h : OnWay (d.lang blk) out) (hf : d.fin (d.at_ blk out) = false) (hw : (waysF (leadF d blk U (d.at_ blk out)) 256).1 = 1) :
    (waysF (leadF d blk U (d.at_ blk out)) 256).2 < 256 ∧ OnWay (d.lang blk) (out ++ [(waysF (leadF d blk U (d.at_ blk out)) 256).2]) ∧ Useful d (d.at_ blk (out ++ [(waysF (leadF d blk U (d.at_ blk out)) 256).2])) := by
  obtain ⟨h1, h2⟩ := waysF_pos (g := leadF d blk U (d.at_ blk out)) (n := 256) (by omega)
  refine ⟨h1, ⟨h.bytes.app (.one h1), fun u hu hL => ?_⟩, (lead_use hd hb hU h.bytes h1).1 h2⟩
  obtain ⟨v, rfl⟩ := h.pre u hu hL
  cases v with
  | nil =>
    unfold Aut.lang at hL
    rw [List.append_nil, hf] at hL
    cases hL
  | cons b v =>
    have hbb := hu b (by simp)
    have hv : Bytes v := fun c hc => hu c (by simp [hc])
    have h3 := (lead_use hd hb hU h.bytes hbb).2 (Useful.of_text hb (u := out ++ [b]) hv (by simpa using hL))
    have h4 := waysF_one hw b hbb h3
    exact ⟨v, by rw [← h4]; simp⟩
theorem only_len (hd : d.Ok) (hb : d.Blk blk) {out : List Nat} (h : OnWay (d.lang blk) out) (hu : Useful d (d.at_ blk out)) : out.length < d.many := by
  obtain ⟨v, hv, hL⟩ := Useful.text hb h.bytes hu
  obtain ⟨t, h1, h2, h3⟩ := short_one hd hb _ _ (Nat.le_refl _) (h.bytes.app hv) hL
  obtain ⟨x, rfl⟩ := h.pre t h1 h2
  simp at h3
  omega
end
end Go.Proofs.YtmmlakheimfijaaGreatDoor
