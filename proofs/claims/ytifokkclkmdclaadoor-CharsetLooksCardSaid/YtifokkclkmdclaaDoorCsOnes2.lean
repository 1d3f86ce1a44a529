/-
  Counting a word's bits: the sums joined. No conditions; no Go in sight.
-/
import Derived.Test.YtifokkclkmdclaaDoorCsOnes
namespace Go.Proofs.YtifokkclkmdclaaDoor
set_option linter.unusedVariables false

namespace Cs
theorem bit_mod (x n : Nat) : (if x.testBit n = true then 1 else 0 : Nat) = x / 2 ^ n % 2 := by
  rw [Nat.testBit_eq_decide_div_mod_eq]
  have : x / 2 ^ n % 2 < 2 := Nat.mod_lt _ (by omega)
  by_cases h : x / 2 ^ n % 2 = 1
  · simp [h]
  · simp [h]; omega
theorem ones_add (x n m : Nat) : ones x (n + m) = ones x n + ones (x / 2 ^ n) m := by
  induction m with
  | zero => rfl
  | succ m ih =>
    rw [← Nat.add_assoc, ones_succ, ih, ones_succ, Nat.testBit_div_two_pow]
    rw [Nat.add_comm m n]
    omega
theorem ones8 (x : Nat) : ones x 8 = x % 2 + x / 2 % 2 + (x / 4 % 2 + x / 8 % 2) + (x / 16 % 2 + x / 32 % 2 + (x / 64 % 2 + x / 128 % 2)) := by
  simp only [ones, bit_mod, Nat.reducePow, Nat.div_one, Nat.zero_add, Nat.add_assoc]
theorem ones_le (x n : Nat) : ones x n ≤ n := by
  induction n with
  | zero => exact Nat.le_refl _
  | succ n ih => rw [ones_succ]; split <;> omega
theorem ones_cut (x n m c : Nat) (h : 2 ^ n = c) : ones x (n + m) = ones x n + ones (x / c) m := by rw [ones_add, h]

/-- the sum of the bytes, by shifts -/
theorem div_of (B q r : Nat) (h : r < B) : (B * q + r) / B = q := by
  rw [Nat.mul_add_div (by omega), Nat.div_eq_of_lt h, Nat.add_zero]
theorem lin2 (c0 c1 c2 c3 c4 c5 c6 c7 t1 t2 t3 t4 t5 t6 : Nat) (e2 : t2 = 256 * t3 + c2) (e1 : t1 = 256 * t2 + c1) :
    256 * t1 + c0 + t1 = 65536 * (t2 + t3) + (c0 + c1 + 256 * (c1 + c2)) := by omega
theorem lin3 (c0 c1 c2 c3 c4 c5 c6 c7 t1 t2 t3 t4 t5 t6 : Nat) (e6 : t6 = 256 * c7 + c6) (e5 : t5 = 256 * t6 + c5) (e4 : t4 = 256 * t5 + c4) (e3 : t3 = 256 * t4 + c3) (e2 : t2 = 256 * t3 + c2) (e1 : t1 = 256 * t2 + c1) :
    256 * t1 + c0 + t1 + (t2 + t3) = 4294967296 * (t4 + t5 + t6 + c7) + (c0 + c1 + c2 + c3 + 256 * (c1 + c2 + c3 + c4) + 65536 * (c2 + c3 + c4 + c5) + 16777216 * (c3 + c4 + c5 + c6)) := by
  subst e6 e5 e4 e3 e2 e1
  omega
theorem lin4 (c0 c1 c2 c3 c4 c5 c6 c7 t1 t2 t3 t4 t5 t6 : Nat) (e6 : t6 = 256 * c7 + c6) (e5 : t5 = 256 * t6 + c5) (e4 : t4 = 256 * t5 + c4) (e3 : t3 = 256 * t4 + c3) (e2 : t2 = 256 * t3 + c2) (e1 : t1 = 256 * t2 + c1) :
    256 * t1 + c0 + t1 + (t2 + t3) + (t4 + t5 + t6 + c7) = 128 * (2 * (t1 + t2 + t3 + t4 + t5 + t6 + c7)) + (c0 + c1 + c2 + c3 + c4 + c5 + c6 + c7) := by omega
theorem lt2 (c0 c1 c2 : Nat) (h0 : c0 ≤ 8) (h1 : c1 ≤ 8) (h2 : c2 ≤ 8) : c0 + c1 + 256 * (c1 + c2) < 65536 := by omega
theorem lt3 (c0 c1 c2 c3 c4 c5 c6 : Nat) (h0 : c0 ≤ 8) (h1 : c1 ≤ 8) (h2 : c2 ≤ 8) (h3 : c3 ≤ 8) (h4 : c4 ≤ 8) (h5 : c5 ≤ 8) (h6 : c6 ≤ 8) :
    c0 + c1 + c2 + c3 + 256 * (c1 + c2 + c3 + c4) + 65536 * (c2 + c3 + c4 + c5) + 16777216 * (c3 + c4 + c5 + c6) < 4294967296 := by omega
theorem lt4 (a b c m n : Nat) (h : a ≤ m) (hc : c ≤ 8) (e : b = 256 * a + c) (hn : 256 * m + 8 = n) : b ≤ n := by omega
theorem sum_bytes (c0 c1 c2 c3 c4 c5 c6 c7 t1 t2 t3 t4 t5 t6 w w1 w2 w3 : Nat) (h0 : c0 ≤ 8) (h1 : c1 ≤ 8) (h2 : c2 ≤ 8) (h3 : c3 ≤ 8) (h4 : c4 ≤ 8) (h5 : c5 ≤ 8) (h6 : c6 ≤ 8) (h7 : c7 ≤ 8)
    (e6 : t6 = 256 * c7 + c6) (e5 : t5 = 256 * t6 + c5) (e4 : t4 = 256 * t5 + c4) (e3 : t3 = 256 * t4 + c3) (e2 : t2 = 256 * t3 + c2) (e1 : t1 = 256 * t2 + c1) (e0 : w = 256 * t1 + c0)
    (f1 : w1 = w + w / 256) (f2 : w2 = w1 + w1 / 65536) (f3 : w3 = w2 + w2 / 4294967296) : w3 % 128 = c0 + c1 + c2 + c3 + c4 + c5 + c6 + c7 ∧ w3 < 9223372036854775808 := by
  have a1 : w / 256 = t1 := by rw [e0]; exact div_of 256 t1 c0 (Nat.lt_of_le_of_lt h0 (by decide))
  rw [a1, e0] at f1
  have a2 : w1 / 65536 = t2 + t3 := by
    rw [f1, lin2 c0 c1 c2 c3 c4 c5 c6 c7 t1 t2 t3 t4 t5 t6 e2 e1]
    exact div_of _ _ _ (lt2 c0 c1 c2 h0 h1 h2)
  rw [a2, f1] at f2
  have a3 : w2 / 4294967296 = t4 + t5 + t6 + c7 := by
    rw [f2, lin3 c0 c1 c2 c3 c4 c5 c6 c7 t1 t2 t3 t4 t5 t6 e6 e5 e4 e3 e2 e1]
    exact div_of _ _ _ (lt3 c0 c1 c2 c3 c4 c5 c6 h0 h1 h2 h3 h4 h5 h6)
  rw [a3, f2, lin4 c0 c1 c2 c3 c4 c5 c6 c7 t1 t2 t3 t4 t5 t6 e6 e5 e4 e3 e2 e1] at f3
  have b6 := lt4 c7 t6 c6 8 2056 h7 h6 e6 rfl
  have b5 := lt4 t6 t5 c5 2056 526344 b6 h5 e5 rfl
  have b4 := lt4 t5 t4 c4 526344 134744072 b5 h4 e4 rfl
  have b3 := lt4 t4 t3 c3 134744072 34494482440 b4 h3 e3 rfl
  have b2 := lt4 t3 t2 c2 34494482440 8830587504648 b3 h2 e2 rfl
  have b1 := lt4 t2 t1 c1 8830587504648 2260630401189896 b2 h1 e1 rfl
  have hs : c0 + c1 + c2 + c3 + c4 + c5 + c6 + c7 ≤ 64 := by clear f1 f2 f3 a1 a2 a3 e6 e5 e4 e3 e2 e1 e0 b1 b2 b3 b4 b5 b6; omega
  clear a1 a2 a3 f1 f2 e6 e5 e4 e3 e2 e1 e0 h0 h1 h2 h3 h4 h5 h6
  generalize c0 + c1 + c2 + c3 + c4 + c5 + c6 + c7 = S at *
  constructor
  · rw [f3, Nat.mul_add_mod]
    exact Nat.mod_eq_of_lt (by omega)
  · omega

theorem ones_sum (x : Nat) (hx : x < 18446744073709551616) (w1 w2 w3 : Nat) (e1 : w1 = byts 8 x + byts 8 x / 256) (e2 : w2 = w1 + w1 / 65536) (e3 : w3 = w2 + w2 / 4294967296) :
    w3 % 128 = ones x 64 ∧ w3 < 9223372036854775808 := by
  have hb : ∀ y, ones y 8 ≤ 8 := fun y => ones_le y 8
  have g7 := ones_cut x 56 8 72057594037927936 rfl
  have g6 := ones_cut x 48 8 281474976710656 rfl
  have g5 := ones_cut x 40 8 1099511627776 rfl
  have g4 := ones_cut x 32 8 4294967296 rfl
  have g3 := ones_cut x 24 8 16777216 rfl
  have g2 := ones_cut x 16 8 65536 rfl
  have g1 := ones_cut x 8 8 256 rfl
  simp only [Nat.reduceAdd] at g1 g2 g3 g4 g5 g6 g7
  have hs : ones x 64 = ones x 8 + ones (x / 256) 8 + ones (x / 65536) 8 + ones (x / 16777216) 8 + ones (x / 4294967296) 8 + ones (x / 1099511627776) 8 + ones (x / 281474976710656) 8 + ones (x / 72057594037927936) 8 := by
    rw [g7, g6, g5, g4, g3, g2, g1]
  clear g1 g2 g3 g4 g5 g6 g7
  have hu : ∀ n y, byts (n + 1) y = 256 * byts n (y / 256) + ones y 8 := fun n y => by rw [ones8]; rfl
  have d : ∀ a b c : Nat, a * b = c → x / a / b = x / c := fun a b c h => by rw [Nat.div_div_eq_div_mul, h]
  have u7 : byts 1 (x / 72057594037927936) = ones (x / 72057594037927936) 8 := by rw [hu]; show 256 * 0 + _ = _; omega
  have u6 : byts 2 (x / 281474976710656) = 256 * ones (x / 72057594037927936) 8 + ones (x / 281474976710656) 8 := by rw [hu, d _ _ 72057594037927936 rfl, u7]
  have u5 : byts 3 (x / 1099511627776) = 256 * byts 2 (x / 281474976710656) + ones (x / 1099511627776) 8 := by rw [hu, d _ _ 281474976710656 rfl]
  have u4 : byts 4 (x / 4294967296) = 256 * byts 3 (x / 1099511627776) + ones (x / 4294967296) 8 := by rw [hu, d _ _ 1099511627776 rfl]
  have u3 : byts 5 (x / 16777216) = 256 * byts 4 (x / 4294967296) + ones (x / 16777216) 8 := by rw [hu, d _ _ 4294967296 rfl]
  have u2 : byts 6 (x / 65536) = 256 * byts 5 (x / 16777216) + ones (x / 65536) 8 := by rw [hu, d _ _ 16777216 rfl]
  have u1 : byts 7 (x / 256) = 256 * byts 6 (x / 65536) + ones (x / 256) 8 := by rw [hu, d _ _ 65536 rfl]
  have u0 : byts 8 x = 256 * byts 7 (x / 256) + ones x 8 := by rw [hu]
  have := sum_bytes _ _ _ _ _ _ _ _ _ _ _ _ _ _ _ w1 w2 w3 (hb x) (hb (x / 256)) (hb (x / 65536)) (hb (x / 16777216)) (hb (x / 4294967296)) (hb (x / 1099511627776)) (hb (x / 281474976710656)) (hb (x / 72057594037927936)) u6 u5 u4 u3 u2 u1 u0 e1 e2 e3
  rw [hs]
  exact this

/-- the words as they come, in one line -/
theorem ones_word (x : Nat) (hx : x < 18446744073709551616) :
    (nibs 16 x / 16 + nibs 16 x) &&& 1085102592571150095 = byts 8 x ∧ pairs 32 x < 18446744073709551616 ∧ nibs 16 x < 2 ^ 60 * 5 ∧ byts 8 x < 2 ^ 60 := by
  have hp : ∀ n y, pairs n y < 4 ^ n := by
    intro n
    induction n with
    | zero => intro y; simp [pairs]
    | succ n ih => intro y; have := ih (y / 4); unfold pairs; rw [Nat.pow_succ]; omega
  have hn : ∀ n y, nibs n y * 15 ≤ 4 * (16 ^ n - 1) := by
    intro n
    induction n with
    | zero => intro y; simp [nibs]
    | succ n ih => intro y; have := ih (y / 16); have h2 : 0 < 16 ^ n := Nat.pow_pos (by omega); unfold nibs; rw [Nat.pow_succ]; omega
  have hb : ∀ n y, byts n y * 31 ≤ 256 ^ n - 1 := by
    intro n
    induction n with
    | zero => intro y; simp [byts]
    | succ n ih => intro y; have := ih (y / 256); have h2 : 0 < 256 ^ n := Nat.pow_pos (by omega); unfold byts; rw [Nat.pow_succ]; omega
  refine ⟨?_, by have := hp 32 x; omega, ?_, ?_⟩
  · have := step256 8 x
    rw [m256_8] at this
    exact this
  · have := hn 16 x; omega
  · have := hb 8 x; omega
end Cs
end Go.Proofs.YtifokkclkmdclaaDoor
