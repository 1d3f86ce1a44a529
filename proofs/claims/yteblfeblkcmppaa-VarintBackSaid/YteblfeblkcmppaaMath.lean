/-
  The plain mathematics of variable-length numbers: their bytes ('putF'), reading them ('takeF'), and that both undo each other. No conditions; no Go in sight.
-/
namespace Go.Proofs.Yteblfeblkcmppaa
set_option linter.unusedVariables false

/-- the bytes of a number that has at most f + 1 of them -/
def putF : Nat → Nat → List UInt8
  | 0, n => [UInt8.ofNat n]
  | f + 1, n => if n < 128 then [UInt8.ofNat n] else UInt8.ofNat (n % 128 + 128) :: putF f (n / 128)
def put (n : Nat) : List UInt8 := putF 9 n

/-- reading: f: how many bytes may still come; i: how many have been read; n: what they say -/
def takeF : Nat → List UInt8 → Nat → Nat → Nat × Nat × Nat
  | 0, _, _, _ => (0, 0, 2)
  | _ + 1, [], _, _ => (0, 0, 1)
  | f + 1, d :: r, i, n =>
    if d.toNat < 128 then
      if f = 0 ∧ 1 < d.toNat then (0, 0, 2) else if d.toNat = 0 ∧ 0 < i then (0, 0, 2) else (n + d.toNat * 128 ^ i, i + 1, 0)
    else takeF f r (i + 1) (n + (d.toNat % 128) * 128 ^ i)
def take (s : List UInt8) : Nat × Nat × Nat := takeF 10 s 0 0

theorem toNat_lo {n : Nat} (h : n < 256) : (UInt8.ofNat n).toNat = n := by
  simp [UInt8.toNat_ofNat']; omega

theorem putF_len (f n : Nat) : 1 ≤ (putF f n).length ∧ (putF f n).length ≤ f + 1 := by
  induction f generalizing n with
  | zero => simp [putF]
  | succ f ih =>
    unfold putF
    split
    · simp
    · have := ih (n / 128); simp; omega

/-- with room enough the fuel does not matter -/
theorem putF_fuel (f g n : Nat) (hf : n < 128 ^ (f + 1)) (hg : n < 128 ^ (g + 1)) : putF f n = putF g n := by
  induction f generalizing g n with
  | zero =>
    cases g with
    | zero => rfl
    | succ g => unfold putF; rw [if_pos (by omega)]
  | succ f ih =>
    cases g with
    | zero => unfold putF; rw [if_pos (by omega)]
    | succ g =>
      unfold putF
      by_cases h : n < 128
      · rw [if_pos h, if_pos h]
      · rw [if_neg h, if_neg h, ih g (n / 128) (by rw [Nat.pow_succ] at hf; omega) (by rw [Nat.pow_succ] at hg; omega)]

theorem putF_big {f n : Nat} (h : ¬ n < 128) : putF (f + 1) n = UInt8.ofNat (n % 128 + 128) :: putF f (n / 128) := by
  conv => lhs; unfold putF
  rw [if_neg h]
theorem putF_small {f n : Nat} (h : n < 128) : putF f n = [UInt8.ofNat n] := by
  cases f with
  | zero => rfl
  | succ f => unfold putF; rw [if_pos h]

/-- what was put is taken, whatever is behind -/
theorem takeF_putF (f n i acc : Nat) (s : List UInt8) (hn : n < 128 ^ (f + 1)) (hlast : f = 0 → n ≤ 1) (hlast' : ∀ k, k ≤ f → n / 128 ^ k < 128 → f = k → n / 128 ^ k ≤ 1) (hz : 0 < i → 0 < n) :
    takeF (f + 1) (putF f n ++ s) i acc = (acc + n * 128 ^ i, i + (putF f n).length, 0) := by
  induction f generalizing n i acc with
  | zero =>
    have h1 := hlast rfl
    simp only [putF, List.cons_append, List.nil_append, takeF, toNat_lo (show n < 256 by omega)]
    rw [if_pos (by omega), if_neg (by omega), if_neg (by omega)]
    simp
  | succ f ih =>
    by_cases h : n < 128
    · rw [putF_small h]
      simp only [List.cons_append, List.nil_append, takeF, toNat_lo (show n < 256 by omega)]
      rw [if_pos (by omega), if_neg (by omega), if_neg (by omega)]
      simp
    · rw [putF_big h]
      have hb : n % 128 + 128 < 256 := by omega
      rw [List.cons_append, takeF]
      rw [toNat_lo hb, if_neg (by omega)]
      rw [ih (n / 128) (i + 1) _ (by rw [Nat.pow_succ] at hn; omega) ?_ ?_ (by omega)]
      · simp only [List.length_cons, Prod.mk.injEq, and_true]
        refine ⟨?_, by omega⟩
        have e : (n % 128 + 128) % 128 = n % 128 := by omega
        rw [e, Nat.pow_succ]
        have h3 : n * 128 ^ i = (n % 128) * 128 ^ i + (n / 128) * (128 ^ i * 128) := by
          have := Nat.div_add_mod n 128
          calc n * 128 ^ i = (128 * (n / 128) + n % 128) * 128 ^ i := by rw [this]
            _ = (n % 128) * 128 ^ i + (n / 128) * (128 ^ i * 128) := by rw [Nat.add_mul, Nat.add_comm, Nat.mul_comm 128 (n / 128), Nat.mul_assoc, Nat.mul_comm 128]
        omega
      · intro h0
        subst h0
        have := hlast' 1 (by omega) (by simp only [Nat.pow_one]; rw [Nat.pow_succ] at hn; omega) rfl
        simpa using this
      · intro k hk hlt he
        subst he
        have := hlast' (f + 1) (Nat.le_refl _) (by rw [Nat.pow_succ, Nat.mul_comm, ← Nat.div_div_eq_div_mul]; exact hlt) rfl
        rw [Nat.pow_succ, Nat.mul_comm, ← Nat.div_div_eq_div_mul] at this
        exact this

theorem take_put (n : Nat) (s : List UInt8) (hn : n < 18446744073709551616) : take (put n ++ s) = (n, (put n).length, 0) := by
  have h := takeF_putF 9 n 0 0 s (by omega) (by omega) (fun k hk h1 he => by subst he; omega) (by omega)
  unfold take put
  rw [h]
  simp

/-- what is taken is what was put -/
theorem takeF_back (f i acc : Nat) (s : List UInt8) (b u : Nat) (h : takeF f s i acc = (b, u, 0)) (hi : 0 < i ∨ acc = 0) (hf : f ≤ 10) :
    ∃ n, b = acc + n * 128 ^ i ∧ i < u ∧ u ≤ i + s.length ∧ (putF (f - 1) n = s.take (u - i)) ∧ (0 < i → 0 < n) ∧ n < 2 * 128 ^ (f - 1) := by
  induction f generalizing i acc s with
  | zero => simp [takeF] at h
  | succ f ih =>
    cases s with
    | nil => simp [takeF] at h
    | cons d r =>
      rw [takeF] at h
      have hd := d.toNat_lt
      by_cases h1 : d.toNat < 128
      · rw [if_pos h1] at h
        by_cases h2 : f = 0 ∧ 1 < d.toNat
        · rw [if_pos h2] at h; simp at h
        · rw [if_neg h2] at h
          by_cases h3 : d.toNat = 0 ∧ 0 < i
          · rw [if_pos h3] at h; simp at h
          · rw [if_neg h3] at h
            simp only [Prod.mk.injEq, and_true] at h
            obtain ⟨rfl, rfl⟩ := h
            refine ⟨d.toNat, rfl, by omega, by simp, ?_, by omega, ?_⟩
            · rw [putF_small h1, show i + 1 - i = 1 from by omega]
              simp
            · cases f with
              | zero => simp; omega
              | succ f =>
                have : 0 < 128 ^ f := Nat.pow_pos (by omega)
                simp only [Nat.add_sub_cancel, Nat.pow_succ]
                omega
      · rw [if_neg h1] at h
        cases f with
        | zero => simp [takeF] at h
        | succ f =>
          obtain ⟨n, hb, hu1, hu2, hp, hz, hn⟩ := ih (i + 1) _ r h (by omega) (by omega)
          have hn0 := hz (by omega)
          have e1 : (d.toNat % 128 + n * 128) / 128 = n := by omega
          have e2 : (d.toNat % 128 + n * 128) % 128 = d.toNat % 128 := by omega
          refine ⟨d.toNat % 128 + n * 128, ?_, by omega, by simp; omega, ?_, by omega, ?_⟩
          · rw [hb, Nat.pow_succ, Nat.add_mul, Nat.add_assoc, Nat.mul_assoc, Nat.mul_comm 128]
          · rw [show f + 1 + 1 - 1 = f + 1 from by omega, putF_big (by omega), e1, e2, show u - i = (u - (i + 1)) + 1 from by omega, List.take_succ_cons]
            have hp' : putF f n = r.take (u - (i + 1)) := by simpa using hp
            rw [hp']
            congr 1
            have : d.toNat % 128 + 128 = d.toNat := by omega
            rw [this]
            exact UInt8.ofNat_toNat
          · simp only [Nat.add_sub_cancel, Nat.pow_succ] at hn ⊢; omega

theorem take_back (s : List UInt8) (b u : Nat) (h : take s = (b, u, 0)) : 1 ≤ u ∧ u ≤ s.length ∧ put b = s.take u ∧ b < 18446744073709551616 := by
  obtain ⟨n, hb, h1, h2, h3, _, h4⟩ := takeF_back 10 0 0 s b u h (.inr rfl) (Nat.le_refl _)
  have e : b = n := by simpa using hb
  subst e
  exact ⟨h1, by omega, by simpa [put] using h3, by simpa using h4⟩

end Go.Proofs.Yteblfeblkcmppaa
