/-
  In quotes any text is well-formed: plain law. Conditions: none.
-/
import Derived.Test.YtjglnpoeddopjaaDoorQuBack
namespace Go.Proofs.YtjglnpoeddopjaaDoor
set_option linter.unusedVariables false

def okAt (S : ByteArray) : Nat → Nat → Prop
  | 0, p => p + 1 = S.size
  | g + 1, p => p + 1 = S.size ∨ (p + 1 < S.size ∧ rune S p ≠ 0 ∧ 32 ≤ byt S p ∧ byt S p ≠ 127 ∧ byt S p ≠ 34 ∧ okAt S g (p + (if byt S p = 92 then 2 else rune S p)))
theorem okAt_one {S : ByteArray} {p g : Nat} (h : p + 1 < S.size) (hb : 32 ≤ byt S p ∧ byt S p < 127 ∧ byt S p ≠ 34 ∧ byt S p ≠ 92) (hn : okAt S g (p + 1)) : okAt S (g + 1) p := by
  have hr := mark_unit S p (by omega) (by omega)
  refine .inr ⟨h, by omega, by omega, by omega, by omega, ?_⟩
  rw [if_neg (by omega), hr]
  exact hn
theorem okAt_two {S : ByteArray} {p g : Nat} (h : p + 1 < S.size) (hb : byt S p = 92) (hn : okAt S g (p + 2)) : okAt S (g + 1) p := by
  have hr := mark_unit S p (by omega) (by omega)
  refine .inr ⟨h, by omega, by omega, by omega, by omega, ?_⟩
  rw [if_pos hb]
  exact hn

theorem ok_body (S s : ByteArray) : ∀ f i p, S.data.toList.drop p = body s f i ++ [34] → s.size ≤ i + f → ∃ g, okAt S g p := by
  intro f
  induction f with
  | zero =>
    intro i p h h1
    have hs := look_size h
    simp [body] at hs
    exact ⟨0, by unfold okAt; omega⟩
  | succ f ih =>
    intro i p h h1
    by_cases hi : i < s.size
    · have hu1 := unit_pos s i
      have hu2 := unit_le s i hi
      rw [body_step s i f hi, List.append_assoc] at h
      have hnext := look_next h
      have hsz := look_size h
      have hat := look_at h
      obtain ⟨g, hg⟩ := ih (i + unit s i) _ hnext (by omega)
      simp at hsz
      by_cases hm : byt s i = 34 ∨ byt s i = 92
      · have hut : unitText s i = [92, UInt8.ofNat (byt s i)] := by unfold unitText; rw [if_pos hm, get_ofNat]
        rw [hut] at hg hsz hat
        simp at hsz
        have a0 := hat 0
        simp at a0
        exact ⟨g + 1, okAt_two (by omega) a0 (by simpa using hg)⟩
      · by_cases hsf : safeB s i = true
        · have hut : unitText s i = (s.data.toList.drop i).take (unit s i) := by unfold unitText; rw [if_neg hm, if_pos hsf]
          have hul : (unitText s i).length = unit s i := by rw [hut, List.length_take, List.length_drop, ← size_list]; omega
          have hsf' := of_decide_eq_true (show decide (0 < rune s i ∧ 32 ≤ byt s i ∧ byt s i ≠ 127) = true from hsf)
          have hrn : rune s i = unit s i := by unfold unit; rw [if_neg (by omega)]
          have hby : ∀ j, j < unit s i → byt S (p + j) = byt s (i + j) := by
            intro j hj
            rw [hat j, byt_getD, List.getD_eq_getElem?_getD, List.getD_eq_getElem?_getD, List.getElem?_append_left (by omega), hut, List.getElem?_take, if_pos hj, List.getElem?_drop]
          have hb0 : byt S p = byt s i := by simpa using hby 0 (by omega)
          have hr : rune S p = rune s i := by
            unfold rune at hrn ⊢
            rw [hb0]
            exact rn_local (by omega) (by omega) (fun h => hby 1 (by omega)) (fun h => hby 2 (by omega)) (fun h => hby 3 (by omega))
          refine ⟨g + 1, .inr ⟨by omega, by omega, by omega, by omega, by omega, ?_⟩⟩
          rw [if_neg (by omega), hr, hrn, ← hul]
          exact hg
        · have hut : unitText s i = [92, 120, hexd (byt s i / 16), hexd (byt s i % 16)] := by unfold unitText; rw [if_neg hm, if_neg hsf]
          have hb256 := byt_lt s i
          have f1 := hexd_fine (byt s i / 16) (by omega)
          have f2 := hexd_fine (byt s i % 16) (by omega)
          rw [hut] at hg hsz hat
          simp at hsz
          have a0 := hat 0
          have a2 := hat 2
          have a3 := hat 3
          simp at a0 a2 a3
          have e3 : p + 3 + 1 < S.size := by have := look_size h; rw [hut] at this; simp at this; omega
          have s3 := okAt_one (p := p + 3) e3 ⟨by rw [a3]; omega, by rw [a3]; omega, by rw [a3]; omega, by rw [a3]; omega⟩ (by simpa using hg)
          have s2 := okAt_one (p := p + 2) (by omega) ⟨by rw [a2]; omega, by rw [a2]; omega, by rw [a2]; omega, by rw [a2]; omega⟩ s3
          exact ⟨_, okAt_two (by omega) a0 s2⟩
    · rw [body_end s _ i hi] at h
      have hs := look_size h
      simp at hs
      exact ⟨0, by unfold okAt; omega⟩
end Go.Proofs.YtjglnpoeddopjaaDoor
