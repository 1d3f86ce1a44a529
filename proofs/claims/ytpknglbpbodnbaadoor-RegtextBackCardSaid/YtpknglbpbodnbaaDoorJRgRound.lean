/-
  What is written is read again: bytes, sets, numbers. Plain words; no Go in sight. Conditions: each lemma says its own.
-/
import Derived.Test.YtpknglbpbodnbaaDoorJRgParse
namespace Go.Proofs.YtpknglbpbodnbaaDoor
set_option linter.unusedVariables false
set_option linter.unusedSimpArgs false
namespace Rg
open Cs

theorem hexV_hexT {n : Nat} (h : n < 16) : hexV (hexT n) = some n := by
  unfold hexV hexT
  by_cases h1 : n < 10
  · rw [if_pos h1, if_pos (by omega)]
    congr 1
    omega
  · rw [if_neg h1, if_neg (by omega), if_pos (by omega)]
    congr 1
    omega
theorem hex_back {b : Nat} (h : b < 256) (r : List Nat) : hexP (hexT (b / 16) :: hexT (b % 16) :: r) = some (.one b, r) := by
  rw [hexP, hexV_hexT (by omega), hexV_hexT (by omega)]
  show some (Esc.one (16 * (b / 16) + b % 16), r) = _
  rw [Nat.div_add_mod]
theorem esc_x (r : List Nat) : escP (120 :: r) = hexP r := by
  rw [escP, if_neg (by omega), if_neg (by omega), if_pos rfl]
theorem esc_sign {b : Nat} (h : b ∈ signsE) (r : List Nat) : escP (b :: r) = some (.one b, r) := by
  have h1 : b ≠ 100 ∧ b ≠ 119 ∧ b ≠ 120 := by
    unfold signsE at h
    simp at h
    omega
  rw [escP, if_neg h1.1, if_neg h1.2.1, if_neg h1.2.2, if_pos h]
theorem within_back {b : Nat} (h : b < 256) (r : List Nat) : signP (withinT b ++ r) = some (.one b, r) := by
  unfold withinT signT
  by_cases h1 : b ∈ signsC
  · rw [if_pos h1]
    show signP (92 :: b :: r) = _
    rw [signP, if_pos rfl]
    exact esc_sign (by unfold signsC at h1; unfold signsE; simp at h1 ⊢; omega) r
  · rw [if_neg h1]
    by_cases h2 : 32 ≤ b ∧ b ≤ 126
    · rw [if_pos h2]
      show signP (b :: r) = _
      have h3 : b ≠ 92 ∧ ¬ (b = 91 ∨ b = 93 ∨ b = 45 ∨ b = 94) := by
        unfold signsC at h1
        simp at h1
        omega
      rw [signP, if_neg h3.1, if_neg h3.2]
    · rw [if_neg h2]
      show signP (92 :: 120 :: hexT (b / 16) :: hexT (b % 16) :: r) = _
      rw [signP, if_pos rfl, esc_x, hex_back h]
/-- the first byte of a text is none of these -/
def HeadNot (l bad : List Nat) : Prop := ∃ c u, l = c :: u ∧ c ∉ bad
theorem HeadNot.app {l bad : List Nat} (h : HeadNot l bad) (r : List Nat) : HeadNot (l ++ r) bad := by
  obtain ⟨c, u, rfl, hc⟩ := h
  exact ⟨c, u ++ r, rfl, hc⟩
theorem HeadNot.ne {l bad : List Nat} (h : HeadNot l bad) {b : Nat} (hb : b ∈ bad) : l.head? ≠ some b := by
  obtain ⟨c, u, rfl, hc⟩ := h
  intro e
  simp at e
  rw [e] at hc
  exact hc hb
theorem within_head {b : Nat} (h : b < 256) : HeadNot (withinT b) [93, 45, 94] := by
  unfold withinT signT
  by_cases h1 : b ∈ signsC
  · rw [if_pos h1]
    exact ⟨92, _, rfl, by simp⟩
  · rw [if_neg h1]
    by_cases h2 : 32 ≤ b ∧ b ≤ 126
    · rw [if_pos h2]
      refine ⟨b, _, rfl, ?_⟩
      unfold signsC at h1
      simp at h1 ⊢
      omega
    · rw [if_neg h2]
      exact ⟨92, _, rfl, by simp⟩
theorem within_pos {b : Nat} (h : b < 256) : 0 < (withinT b).length := by
  obtain ⟨c, u, e, _⟩ := within_head h
  rw [e]
  simp
theorem item_one {b : Nat} (h : b < 256) {t : List Nat} (ht : t.head? ≠ some 45) : itemP (withinT b ++ t) = some (one4 b, t) := by
  unfold itemP
  rw [within_back h]
  exact if_pos (.inr ht)
theorem item_span {lo hi : Nat} (h1 : lo ≤ hi) (h2 : hi < 256) (t : List Nat) : itemP (withinT lo ++ 45 :: (withinT hi ++ t)) = some (span4 lo hi, t) := by
  unfold itemP
  rw [within_back (by omega)]
  show (if Esc.several (.one lo) = true ∨ (45 :: (withinT hi ++ t)).head? ≠ some 45 then _ else _) = _
  rw [if_neg (by simp [Esc.several])]
  show (match signP (withinT hi ++ t) with | none => none | some (g, l2) => rangeP (.one lo) g l2) = _
  rw [within_back h2]
  show rangeP (.one lo) (.one hi) t = _
  rw [rangeP, if_neg (by omega)]
theorem class_step {k : Nat} {s x : S4} {l l1 : List Nat} (h : itemP l = some (x, l1)) : classL (k + 1) s l = if l1.head? = some 93 then some (or4 s x, l1.tail) else classL k (or4 s x) l1 := by
  rw [classL, h]
/-- one run is read -/
theorem run_back {lo hi : Nat} (h1 : lo < hi) (h2 : hi ≤ 256) {t : List Nat} (ht : t.head? ≠ some 45) {k : Nat} {s : S4} (hs : SetIn s.f) (hk : (runT lo hi ++ t).length ≤ k) :
    ∃ (s' : S4) (k' : Nat), t.length ≤ k' ∧ SetIn s'.f ∧ (∀ b, b < 256 → hasS s'.f b = (hasS s.f b || decide (lo ≤ b ∧ b < hi))) ∧ classL k s (runT lo hi ++ t) = if t.head? = some 93 then some (s', t.tail) else classL k' s' t := by
  unfold runT at hk ⊢
  have p1 := within_pos (b := lo) (by omega)
  have p2 := within_pos (b := hi - 1) (by omega)
  obtain ⟨k, rfl⟩ : ∃ j, k = j + 1 := ⟨k - 1, by simp only [List.length_append] at hk; omega⟩
  by_cases c1 : lo + 1 < hi
  · rw [if_pos c1] at hk ⊢
    by_cases c2 : lo + 2 < hi
    · rw [if_pos c2] at hk ⊢
      have e : withinT lo ++ [45] ++ withinT (hi - 1) ++ t = withinT lo ++ 45 :: (withinT (hi - 1) ++ t) := by simp
      rw [e] at hk ⊢
      rw [class_step (item_span (by omega) (by omega) t)]
      refine ⟨or4 s (span4 lo (hi - 1)), k, ?_, or4_in hs (span4_in _ _), fun b hb => ?_, rfl⟩
      · simp only [List.length_append, List.length_cons] at hk
        omega
      · rw [or4_has hs (span4_in _ _) hb, span4_has _ _ hb]
        congr 1
        rw [decide_eq_decide]
        omega
    · rw [if_neg c2] at hk ⊢
      have e : withinT lo ++ [] ++ withinT (hi - 1) ++ t = withinT lo ++ (withinT (hi - 1) ++ t) := by simp
      rw [e] at hk ⊢
      have hh := (within_head (b := hi - 1) (by omega)).app t
      rw [class_step (item_one (by omega) (hh.ne (by simp))), if_neg (hh.ne (by simp))]
      obtain ⟨k, rfl⟩ : ∃ j, k = j + 1 := ⟨k - 1, by simp only [List.length_append] at hk; omega⟩
      rw [class_step (item_one (by omega) ht)]
      refine ⟨or4 (or4 s (one4 lo)) (one4 (hi - 1)), k, ?_, or4_in (or4_in hs (one4_in _)) (one4_in _), fun b hb => ?_, rfl⟩
      · simp only [List.length_append] at hk
        omega
      · rw [or4_has (or4_in hs (one4_in _)) (one4_in _) hb, or4_has hs (one4_in _) hb, one4_has _ hb, one4_has _ hb, Bool.or_assoc]
        congr 1
        rw [Bool.eq_iff_iff]
        simp
        omega
  · rw [if_neg c1] at hk ⊢
    rw [if_neg (by omega)] at hk ⊢
    have e : withinT lo ++ [] ++ [] ++ t = withinT lo ++ t := by simp
    rw [e] at hk ⊢
    rw [class_step (item_one (by omega) ht)]
    refine ⟨or4 s (one4 lo), k, ?_, or4_in hs (one4_in _), fun b hb => ?_, rfl⟩
    · simp only [List.length_append] at hk
      omega
    · rw [or4_has hs (one4_in _) hb, one4_has _ hb]
      congr 1
      rw [decide_eq_decide]
      omega
theorem runT_head {lo hi : Nat} (h : lo < 256) : HeadNot (runT lo hi) [93, 45, 94] := by
  unfold runT
  exact ((within_head h).app _).app _
theorem runsF_none {s : Nat → Int} {n lo : Nat} (h : ∀ b, lo ≤ b → b < 256 → hasS s b = false) : runsF s n lo = [] := by
  induction n generalizing lo with
  | zero => rfl
  | succ n ih =>
    unfold runsF
    split
    · rfl
    · rw [if_neg (by rw [h lo (Nat.le_refl _) (by omega)]; decide)]
      exact ih fun b h1 h2 => h b (by omega) h2
theorem runsF_some {s : Nat → Int} {n lo b : Nat} (hn : 256 - lo ≤ n) (h1 : lo ≤ b) (h2 : b < 256) (h : hasS s b = true) : HeadNot (runsF s n lo) [93, 45, 94] := by
  induction n generalizing lo with
  | zero => omega
  | succ n ih =>
    unfold runsF
    rw [if_neg (by omega)]
    by_cases h3 : hasS s lo = true
    · rw [if_pos h3]
      exact (runT_head (by omega)).app _
    · rw [if_neg h3]
      have : b ≠ lo := fun e => h3 (by rw [← e]; exact h)
      exact ih (by omega) (by omega)
/-- all runs are read -/
theorem runs_back {s : Nat → Int} {n : Nat} : ∀ {lo b : Nat}, 256 - lo ≤ n → lo ≤ b → b < 256 → hasS s b = true → ∀ {k : Nat} {a : S4} (r : List Nat), SetIn a.f → (runsF s n lo ++ 93 :: r).length ≤ k →
    ∃ a' : S4, SetIn a'.f ∧ (∀ c, c < 256 → hasS a'.f c = (hasS a.f c || (decide (lo ≤ c) && hasS s c))) ∧ classL k a (runsF s n lo ++ 93 :: r) = some (a', r) := by
  induction n with
  | zero => intro lo b hn h1 h2; omega
  | succ n ih =>
    intro lo b hn h1 h2 h k a r ha hk
    unfold runsF at hk ⊢
    rw [if_neg (by omega)] at hk ⊢
    by_cases h3 : hasS s lo = true
    · rw [if_pos h3] at hk ⊢
      have he := endF_le s (256 - lo) lo
      have hp := endF_pos (n := 256 - lo) (by omega) h3
      have hin := endF_has s (256 - lo) lo
      generalize endF s (256 - lo) lo = hi at *
      rw [List.append_assoc] at hk ⊢
      by_cases hm : ∃ c, hi ≤ c ∧ c < 256 ∧ hasS s c = true
      · obtain ⟨c, hc1, hc2, hc3⟩ := hm
        have hh := (runsF_some (s := s) (n := n) (lo := hi) (by omega) hc1 hc2 hc3).app (93 :: r)
        obtain ⟨s', k', hk', hs', hb', e⟩ := run_back hp (by omega) (hh.ne (b := 45) (by simp)) ha hk
        rw [e, if_neg (hh.ne (by simp))]
        obtain ⟨a', ha', hb2, e2⟩ := ih (lo := hi) (by omega) hc1 hc2 hc3 r hs' hk'
        refine ⟨a', ha', fun d hd => ?_, e2⟩
        rw [hb2 d hd, hb' d hd, Bool.or_assoc]
        congr 1
        by_cases d1 : lo ≤ d
        · by_cases d2 : d < hi
          · rw [hin d d1 d2]; simp [d1, d2]
          · simp [d1, d2, show hi ≤ d by omega]
        · simp [d1, show ¬ hi ≤ d by omega]
      · have hno : ∀ c, hi ≤ c → c < 256 → hasS s c = false := fun c hc1 hc2 => by
          cases hx : hasS s c with
          | false => rfl
          | true => exact (hm ⟨c, hc1, hc2, hx⟩).elim
        rw [runsF_none hno] at hk ⊢
        obtain ⟨s', k', hk', hs', hb', e⟩ := run_back (t := 93 :: r) hp (by omega) (by simp) ha hk
        refine ⟨s', hs', fun d hd => ?_, ?_⟩
        · rw [hb' d hd]
          congr 1
          by_cases d1 : lo ≤ d
          · by_cases d2 : d < hi
            · rw [hin d d1 d2]; simp [d1, d2]
            · rw [hno d (by omega) hd]; simp [d2]
          · simp [d1]
        · show classL k a (runT lo hi ++ 93 :: r) = _
          rw [e, if_pos (show (93 :: r).head? = some 93 from rfl)]
          rfl
    · rw [if_neg h3] at hk ⊢
      have hne : b ≠ lo := fun e => h3 (by rw [← e]; exact h)
      obtain ⟨a', ha', hb2, e2⟩ := ih (lo := lo + 1) (by omega) (by omega) h2 h r ha hk
      refine ⟨a', ha', fun d hd => ?_, e2⟩
      rw [hb2 d hd]
      congr 1
      by_cases e : d = lo
      · rw [e]
        have : hasS s lo = false := by simpa using h3
        rw [this]
        simp
      · congr 1
        rw [decide_eq_decide]
        omega
/-- none of these begins a piece -/
def badP : List Nat := [42, 43, 63, 123, 124, 41]
theorem byte_head {b : Nat} (h : b < 256) : HeadNot (byteT b) badP := by
  unfold byteT signT
  by_cases h1 : b ∈ signsP
  · rw [if_pos h1]
    exact ⟨92, _, rfl, by simp [badP]⟩
  · rw [if_neg h1]
    by_cases h2 : 32 ≤ b ∧ b ≤ 126
    · rw [if_pos h2]
      refine ⟨b, _, rfl, ?_⟩
      unfold signsP at h1
      unfold badP
      simp at h1 ⊢
      omega
    · rw [if_neg h2]
      exact ⟨92, _, rfl, by simp [badP]⟩
theorem atom_back (f o b : Nat) (l : List Nat) : atomP (f + 1) o (b :: l) = (if b ∈ signsA then none
      else if b = 40 then (if 16 ≤ o then none else match altP f (o + 1) l with
        | none => none
        | some (n, l2) => if l2.head? = some 41 then some (n, l2.tail) else none)
      else if b = 46 then some (oneN all4, l)
      else if b = 91 then (match classP l with
        | none => none
        | some (s, l2) => some (oneN s, l2))
      else if b = 92 then (match escP l with
        | none => none
        | some (e, l2) => some (oneN e.set, l2))
      else some (oneN (one4 b), l)) := by
  rw [atomP.eq_def]
  rfl
theorem atom_esc (f o : Nat) (l : List Nat) : atomP (f + 1) o (92 :: l) = match escP l with
        | none => none
        | some (e, l2) => some (oneN e.set, l2) := by
  rw [atom_back, if_neg (by simp [signsA]), if_neg (by omega), if_neg (by omega), if_neg (by omega), if_pos rfl]
theorem atom_class (f o : Nat) (l : List Nat) : atomP (f + 1) o (91 :: l) = match classP l with
        | none => none
        | some (s, l2) => some (oneN s, l2) := by
  rw [atom_back, if_neg (by simp [signsA]), if_neg (by omega), if_neg (by omega), if_pos rfl]
theorem byte_back (f o : Nat) {b : Nat} (h : b < 256) (r : List Nat) : atomP (f + 1) o (byteT b ++ r) = some (oneN (one4 b), r) := by
  unfold byteT signT
  by_cases h1 : b ∈ signsP
  · rw [if_pos h1]
    show atomP (f + 1) o (92 :: b :: r) = _
    rw [atom_esc, esc_sign (by unfold signsP at h1; unfold signsE; simp at h1 ⊢; omega)]
    rfl
  · rw [if_neg h1]
    by_cases h2 : 32 ≤ b ∧ b ≤ 126
    · rw [if_pos h2]
      show atomP (f + 1) o (b :: r) = _
      have h3 : b ∉ signsA ∧ b ≠ 40 ∧ b ≠ 46 ∧ b ≠ 91 ∧ b ≠ 92 := by
        unfold signsP at h1
        unfold signsA
        simp at h1 ⊢
        omega
      rw [atom_back, if_neg h3.1, if_neg h3.2.1, if_neg h3.2.2.1, if_neg h3.2.2.2.1, if_neg h3.2.2.2.2]
    · rw [if_neg h2]
      show atomP (f + 1) o (92 :: 120 :: hexT (b / 16) :: hexT (b % 16) :: r) = _
      rw [atom_esc, esc_x, hex_back h]
      rfl
theorem exists_has {s : S4} (hs : SetIn s.f) (h : s ≠ none4) : ∃ b, b < 256 ∧ hasS s.f b = true := by
  refine Classical.byContradiction fun hn => h (S4.ext_has hs none4_in fun b hb => ?_)
  rw [none4_has hb]
  cases hx : hasS s.f b with
  | false => rfl
  | true => exact (hn ⟨b, hb, hx⟩).elim
/-- a set's text is read as the set -/
theorem set_back {s : S4} (hs : SetIn s.f) (f o : Nat) (r : List Nat) : atomP (f + 1) o (setT s ++ r) = some (oneN s, r) := by
  unfold setT
  by_cases h0 : s = none4
  · rw [if_pos h0]
    show atomP (f + 1) o (91 :: 94 :: 92 :: 120 :: 48 :: 48 :: 45 :: 92 :: 120 :: 102 :: 102 :: 93 :: r) = _
    rw [atom_class]
    have e1 : itemP (92 :: 120 :: 48 :: 48 :: 45 :: 92 :: 120 :: 102 :: 102 :: 93 :: r) = some (span4 0 255, 93 :: r) := by
      simp [itemP, signP, escP, hexP, hexV, Esc.several, rangeP]
    have e2 : classP (94 :: 92 :: 120 :: 48 :: 48 :: 45 :: 92 :: 120 :: 102 :: 102 :: 93 :: r) = some (not4 (or4 none4 (span4 0 255)), r) := by
      unfold classP
      rw [if_pos (show (94 :: 92 :: 120 :: 48 :: 48 :: 45 :: 92 :: 120 :: 102 :: 102 :: 93 :: r).head? = some 94 from rfl)]
      show Option.map _ (classL _ none4 (92 :: 120 :: 48 :: 48 :: 45 :: 92 :: 120 :: 102 :: 102 :: 93 :: r)) = _
      rw [class_step e1, if_pos (show (93 :: r).head? = some 93 from rfl)]
      rfl
    rw [e2]
    show some (oneN _, r) = _
    have hin := or4_in none4_in (span4_in 0 255)
    rw [h0, S4.ext_has (not4_in hin) none4_in fun b hb => by
      rw [not4_has hin hb, or4_has none4_in (span4_in _ _) hb, none4_has hb, span4_has _ _ hb]
      simp
      omega]
  rw [if_neg h0]
  by_cases h1 : s = all4
  · rw [if_pos h1]
    show atomP (f + 1) o (46 :: r) = _
    rw [atom_back, if_neg (by simp [signsA]), if_neg (by omega), if_pos rfl, h1]
  rw [if_neg h1]
  by_cases h2 : s = digit4
  · rw [if_pos h2]
    show atomP (f + 1) o (92 :: 100 :: r) = _
    rw [atom_esc, escP, if_pos rfl, h2]
    rfl
  rw [if_neg h2]
  by_cases h3 : s = word4
  · rw [if_pos h3]
    show atomP (f + 1) o (92 :: 119 :: r) = _
    rw [atom_esc, escP, if_neg (by omega), if_pos rfl, h3]
    rfl
  rw [if_neg h3]
  by_cases h4 : cnt s.f 256 = 1
  · rw [if_pos h4]
    obtain ⟨h5, h6⟩ := single hs h4
    rw [byte_back f o h5, ← h6]
  rw [if_neg h4]
  show atomP (f + 1) o (91 :: (runsF s.f 256 0 ++ [93] ++ r)) = _
  rw [List.append_assoc, atom_class]
  obtain ⟨b, hb, hx⟩ := exists_has hs h0
  have hh := (runsF_some (s := s.f) (n := 256) (lo := 0) (by omega) (by omega) hb hx).app ([93] ++ r)
  have e : classP (runsF s.f 256 0 ++ ([93] ++ r)) = some (s, r) := by
    unfold classP
    rw [if_neg (hh.ne (by simp))]
    obtain ⟨a', ha', hb', e⟩ := runs_back (s := s.f) (n := 256) (lo := 0) (by omega) (by omega) hb hx (k := (runsF s.f 256 0 ++ ([93] ++ r)).length + 1) r none4_in (Nat.le_succ _)
    show classL _ none4 (runsF s.f 256 0 ++ 93 :: r) = _
    refine e.trans ?_
    rw [S4.ext_has ha' hs fun c hc => by rw [hb' c hc, none4_has hc]; simp]
  rw [e]
theorem set_head {s : S4} (hs : SetIn s.f) : HeadNot (setT s) badP := by
  unfold setT
  by_cases h0 : s = none4
  · rw [if_pos h0]; exact ⟨91, _, rfl, by simp [badP]⟩
  rw [if_neg h0]
  by_cases h1 : s = all4
  · rw [if_pos h1]; exact ⟨46, _, rfl, by simp [badP]⟩
  rw [if_neg h1]
  by_cases h2 : s = digit4
  · rw [if_pos h2]; exact ⟨92, _, rfl, by simp [badP]⟩
  rw [if_neg h2]
  by_cases h3 : s = word4
  · rw [if_pos h3]; exact ⟨92, _, rfl, by simp [badP]⟩
  rw [if_neg h3]
  by_cases h4 : cnt s.f 256 = 1
  · rw [if_pos h4]
    exact byte_head (single hs h4).1
  rw [if_neg h4]
  exact ⟨91, _, rfl, by simp [badP]⟩
/-- no digit goes on -/
def NoDig (r : List Nat) : Prop := ∀ b, r.head? = some b → ¬ (48 ≤ b ∧ b ≤ 57)
theorem digs_stop {n : Nat} {r : List Nat} (h : NoDig r) : digsF n r = (n, r) := by
  cases r with
  | nil => rfl
  | cons b r => rw [digsF, if_neg (h b rfl)]
theorem num_back {n : Int} (h0 : 0 ≤ n) (h1 : n ≤ 16) {r : List Nat} (hr : NoDig r) : numP (numT n ++ r) = some (n.toNat, r) := by
  obtain ⟨m, rfl⟩ := Int.eq_ofNat_of_zero_le h0
  unfold numT
  by_cases h2 : (m : Int) < 10
  · rw [if_pos h2]
    have e1 : (48 + (m : Int)).toNat = 48 + m := by omega
    rw [e1]
    show numP ((48 + m) :: r) = _
    have e : digsF 0 ((48 + m) :: r) = (m, r) := by
      rw [digsF, if_pos (by omega), digs_stop hr]
      congr 1
      omega
    unfold numP
    rw [e, if_neg (by simp), if_neg (by simp), if_neg (by simp only; omega)]
    rfl
  · rw [if_neg h2]
    have e1 : (48 + (m : Int) / 10).toNat = 48 + m / 10 := by omega
    have e2 : (48 + (m : Int) % 10).toNat = 48 + m % 10 := by omega
    rw [e1, e2]
    show numP ((48 + m / 10) :: (48 + m % 10) :: r) = _
    have e : digsF 0 ((48 + m / 10) :: (48 + m % 10) :: r) = (m, r) := by
      rw [digsF, if_pos (by omega), digsF, if_pos (by omega), digs_stop hr]
      congr 1
      omega
    unfold numP
    rw [e, if_neg (by simp; omega), if_neg (by simp; omega), if_neg (by simp only; omega)]
    rfl
/-- how often it comes is read again -/
theorem often_back {x y : Int} (h : timesB x y = true) (n : Nd) (r : List Nat) : quantP n (oftenT x y ++ r) = some (repN n x y, r) := by
  simp only [timesB, Bool.and_eq_true, Bool.or_eq_true, decide_eq_true_eq] at h
  obtain ⟨⟨h0, h1⟩, h2⟩ := h
  unfold oftenT
  by_cases c1 : x = 0 ∧ y = -1
  · rw [if_pos c1, c1.1, c1.2]
    show quantP n (42 :: r) = _
    rw [quantP, if_pos rfl]
  rw [if_neg c1]
  by_cases c2 : x = 1 ∧ y = -1
  · rw [if_pos c2, c2.1, c2.2]
    show quantP n (43 :: r) = _
    rw [quantP, if_neg (by omega), if_pos rfl]
  rw [if_neg c2]
  by_cases c3 : x = 0 ∧ y = 1
  · rw [if_pos c3, c3.1, c3.2]
    show quantP n (63 :: r) = _
    rw [quantP, if_neg (by omega), if_neg (by omega), if_pos rfl]
  rw [if_neg c3]
  have hq : ∀ l, quantP n (123 :: l) = match bracesP l with
      | none => none
      | some (x, y, l1) => if l1.head? = some 125 then some (repN n x y, l1.tail) else none := fun l => by
    rw [quantP, if_neg (by omega), if_neg (by omega), if_neg (by omega), if_pos rfl]
    rfl
  have hx : ((x.toNat : Nat) : Int) = x := by omega
  by_cases c4 : y = x
  · rw [if_pos c4]
    show quantP n (123 :: (numT x ++ [125] ++ r)) = _
    rw [hq, List.append_assoc]
    have e : bracesP (numT x ++ ([125] ++ r)) = some (x, x, 125 :: r) := by
      unfold bracesP
      rw [num_back h0 h1 (r := [125] ++ r) (fun b hb => by simp at hb; omega)]
      show (if (125 :: r).head? = some 44 then _ else if x.toNat = 0 then none else some ((x.toNat : Int), (x.toNat : Int), 125 :: r)) = _
      rw [if_neg (by simp), if_neg (by omega), hx]
    rw [e]
    show (if (125 :: r).head? = some 125 then some (repN n x x, r) else none) = _
    rw [if_pos (show (125 :: r).head? = some 125 from rfl), c4]
  rw [if_neg c4]
  by_cases c5 : y = -1
  · rw [if_pos c5]
    show quantP n (123 :: (numT x ++ [44, 125] ++ r)) = _
    rw [hq, List.append_assoc]
    have e : bracesP (numT x ++ ([44, 125] ++ r)) = some (x, -1, 125 :: r) := by
      unfold bracesP
      rw [num_back h0 h1 (r := [44, 125] ++ r) (fun b hb => by simp at hb; omega)]
      show (if (44 :: 125 :: r).head? = some 44 then (if (125 :: r).head? = some 125 then some ((x.toNat : Int), -1, 125 :: r) else _) else _) = _
      rw [if_pos (show (44 :: 125 :: r).head? = some 44 from rfl), if_pos (show (125 :: r).head? = some 125 from rfl), hx]
    rw [e]
    show (if (125 :: r).head? = some 125 then some (repN n x (-1), r) else none) = _
    rw [if_pos (show (125 :: r).head? = some 125 from rfl), c5]
  rw [if_neg c5]
  have hy : ((y.toNat : Nat) : Int) = y := by omega
  show quantP n (123 :: (numT x ++ (44 :: (numT y ++ [125])) ++ r)) = _
  rw [hq]
  have e0 : numT x ++ (44 :: (numT y ++ [125])) ++ r = numT x ++ (44 :: (numT y ++ 125 :: r)) := by simp
  rw [e0]
  have hd : (numT y ++ 125 :: r).head? ≠ some 125 := by
    unfold numT
    split
    · simp; omega
    · simp; omega
  have e : bracesP (numT x ++ (44 :: (numT y ++ 125 :: r))) = some (x, y, 125 :: r) := by
    unfold bracesP
    rw [num_back h0 h1 (r := 44 :: (numT y ++ 125 :: r)) (fun b hb => by simp at hb; omega)]
    show (if (44 :: (numT y ++ 125 :: r)).head? = some 44 then (if (numT y ++ 125 :: r).head? = some 125 then _ else match numP (numT y ++ 125 :: r) with
      | none => none
      | some (y, l2) => if y = 0 ∨ y < x.toNat then none else some ((x.toNat : Int), (y : Int), l2)) else _) = _
    rw [if_pos (show (44 :: (numT y ++ 125 :: r)).head? = some 44 from rfl), if_neg hd, num_back (by omega) (by omega) (r := 125 :: r) (fun b hb => by simp at hb; omega)]
    show (if y.toNat = 0 ∨ y.toNat < x.toNat then none else some ((x.toNat : Int), (y.toNat : Int), 125 :: r)) = _
    rw [if_neg (by omega), hx, hy]
  rw [e]
  show (if (125 :: r).head? = some 125 then some (repN n x y, r) else none) = _
  rw [if_pos (show (125 :: r).head? = some 125 from rfl)]
end Rg
end Go.Proofs.YtpknglbpbodnbaaDoor
