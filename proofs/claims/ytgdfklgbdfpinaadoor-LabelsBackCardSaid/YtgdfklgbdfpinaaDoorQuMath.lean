/-
  Plain words on texts in quotes: how many bytes the rune at a place has, against the model's own decoding. Conditions: none.
-/
import Derived.Test.YtgdfklgbdfpinaaDoorKit2
import Derived.Lib.DecodeN
namespace Go.Proofs.YtgdfklgbdfpinaaDoor
set_option linter.unusedVariables false

/-- a rune's bytes, by the numbers of its first four bytes and how many there are; 0: none is well-formed -/
def rn (n b0 b1 b2 b3 : Nat) : Nat :=
  if b0 < 128 then 1
  else if (194 ≤ b0 ∧ b0 ≤ 223) ∧ (1 < n ∧ 128 ≤ b1 ∧ b1 ≤ 191) then 2
  else if (224 ≤ b0 ∧ b0 ≤ 239) ∧ ((1 < n ∧ 128 ≤ b1 ∧ b1 ≤ 191) ∧ (2 < n ∧ 128 ≤ b2 ∧ b2 ≤ 191)) ∧ (b0 ≠ 224 ∨ 160 ≤ b1) ∧ (b0 ≠ 237 ∨ b1 < 160) then 3
  else if (240 ≤ b0 ∧ b0 ≤ 244) ∧ ((1 < n ∧ 128 ≤ b1 ∧ b1 ≤ 191) ∧ (2 < n ∧ 128 ≤ b2 ∧ b2 ≤ 191) ∧ (3 < n ∧ 128 ≤ b3 ∧ b3 ≤ 191)) ∧ (b0 ≠ 240 ∨ 144 ≤ b1) ∧ (b0 ≠ 244 ∨ b1 < 144) then 4
  else 0

set_option maxRecDepth 100000 in
set_option maxHeartbeats 4000000 in
theorem rn_dec (n b0 b1 b2 b3 : Nat) (hn : 1 ≤ n) (h0 : b0 < 256) (h1 : b1 < 256) (h2 : b2 < 256) (h3 : b3 < 256) :
    (rn n b0 b1 b2 b3 = 0 ∧ Lib.decodeN n b0 b1 b2 b3 = (65533, 1) ∧ 128 ≤ b0) ∨
    (rn n b0 b1 b2 b3 = 1 ∧ Lib.decodeN n b0 b1 b2 b3 = (b0, 1) ∧ b0 < 128) ∨
    (2 ≤ rn n b0 b1 b2 b3 ∧ rn n b0 b1 b2 b3 ≤ 4 ∧ rn n b0 b1 b2 b3 ≤ n ∧ (Lib.decodeN n b0 b1 b2 b3).2 = rn n b0 b1 b2 b3 ∧ 128 ≤ (Lib.decodeN n b0 b1 b2 b3).1 ∧ (Lib.decodeN n b0 b1 b2 b3).1 ≤ 1114111 ∧ 128 ≤ b0) := by
  unfold rn Lib.decodeN
  repeat' split
  all_goals first | (exfalso; omega) | omega | (left; exact ⟨rfl, rfl, by omega⟩) | (right; left; exact ⟨rfl, rfl, by omega⟩) | (right; right; simp only; omega)

theorem rn_local {n n' b0 b1 b2 b3 b1' b2' b3' : Nat} (h : rn n b0 b1 b2 b3 ≠ 0) (hn : rn n b0 b1 b2 b3 ≤ n') (e1 : 1 < rn n b0 b1 b2 b3 → b1' = b1) (e2 : 2 < rn n b0 b1 b2 b3 → b2' = b2) (e3 : 3 < rn n b0 b1 b2 b3 → b3' = b3) :
    rn n' b0 b1' b2' b3' = rn n b0 b1 b2 b3 := by
  unfold rn at h hn e1 e2 e3 ⊢
  by_cases c1 : b0 < 128
  · rw [if_pos c1, if_pos c1]
  · rw [if_neg c1] at h hn e1 e2 e3 ⊢
    rw [if_neg c1]
    by_cases c2 : (194 ≤ b0 ∧ b0 ≤ 223) ∧ (1 < n ∧ 128 ≤ b1 ∧ b1 ≤ 191)
    · rw [if_pos c2] at h hn e1 e2 e3 ⊢
      have := e1 (by omega)
      subst this
      rw [if_pos (by omega)]
    · rw [if_neg c2] at h hn e1 e2 e3 ⊢
      by_cases c3 : (224 ≤ b0 ∧ b0 ≤ 239) ∧ ((1 < n ∧ 128 ≤ b1 ∧ b1 ≤ 191) ∧ (2 < n ∧ 128 ≤ b2 ∧ b2 ≤ 191)) ∧ (b0 ≠ 224 ∨ 160 ≤ b1) ∧ (b0 ≠ 237 ∨ b1 < 160)
      · rw [if_pos c3] at h hn e1 e2 e3 ⊢
        have := e1 (by omega)
        subst this
        have := e2 (by omega)
        subst this
        rw [if_neg (by omega), if_pos (by omega)]
      · rw [if_neg c3] at h hn e1 e2 e3 ⊢
        by_cases c4 : (240 ≤ b0 ∧ b0 ≤ 244) ∧ ((1 < n ∧ 128 ≤ b1 ∧ b1 ≤ 191) ∧ (2 < n ∧ 128 ≤ b2 ∧ b2 ≤ 191) ∧ (3 < n ∧ 128 ≤ b3 ∧ b3 ≤ 191)) ∧ (b0 ≠ 240 ∨ 144 ≤ b1) ∧ (b0 ≠ 244 ∨ b1 < 144)
        · rw [if_pos c4] at h hn e1 e2 e3 ⊢
          have := e1 (by omega)
          subst this
          have := e2 (by omega)
          subst this
          have := e3 (by omega)
          subst this
          rw [if_neg (by omega), if_neg (by omega), if_pos (by omega)]
        · rw [if_neg c4] at h
          exact absurd rfl h

/-- the byte at a place, as a number; behind the end: 0 -/
def byt (s : ByteArray) (i : Nat) : Nat := (s.get! i).toNat
theorem byt_lt (s : ByteArray) (i : Nat) : byt s i < 256 := (s.get! i).toNat_lt
theorem get_at (s : ByteArray) (i : Nat) (h : i < s.size) : s.get! i = s[i]'h := by
  have h' : i < s.data.size := h
  show s.data[i]! = s.data[i]
  exact getElem!_pos s.data i h'
theorem byt_at (s : ByteArray) (i : Nat) (h : i < s.size) : (s[i]'h).toNat = byt s i := by rw [byt, get_at s i h]
theorem byt_past (s : ByteArray) (i : Nat) (h : ¬ i < s.size) : byt s i = 0 := by
  have h' : ¬ i < s.data.size := h
  show (s.data[i]!).toNat = 0
  rw [getElem!_neg s.data i h']
  rfl
theorem byt_list (s : ByteArray) (i : Nat) (h : i < s.size) : s.data.toList[i]? = some (UInt8.ofNat (byt s i)) := by
  have h' : i < s.data.toList.length := by rw [Array.length_toList]; exact h
  rw [List.getElem?_eq_getElem h', byt, get_at s i h]
  simp
  rfl
/-- how many bytes the rune at a place has; 0: none is well-formed there -/
def rune (s : ByteArray) (i : Nat) : Nat := rn (s.size - i) (byt s i) (byt s (i + 1)) (byt s (i + 2)) (byt s (i + 3))
theorem rune_dec (s : ByteArray) (i : Nat) (h : i < s.size) :
    (rune s i = 0 ∧ Utf8.decode s i = (65533, 1) ∧ 128 ≤ byt s i) ∨
    (rune s i = 1 ∧ Utf8.decode s i = (byt s i, 1) ∧ byt s i < 128) ∨
    (2 ≤ rune s i ∧ rune s i ≤ 4 ∧ rune s i ≤ s.size - i ∧ (Utf8.decode s i).2 = rune s i ∧ 128 ≤ (Utf8.decode s i).1 ∧ (Utf8.decode s i).1 ≤ 1114111 ∧ 128 ≤ byt s i) := by
  rw [Lib.decode_at]
  exact rn_dec (s.size - i) _ _ _ _ (by omega) (byt_lt _ _) (byt_lt _ _) (byt_lt _ _) (byt_lt _ _)
theorem rune_le (s : ByteArray) (i : Nat) (h : i < s.size) : rune s i ≤ s.size - i := by
  rcases rune_dec s i h with ⟨h1, _⟩ | ⟨h1, _⟩ | ⟨_, _, h1, _⟩ <;> omega

/-- how many bytes the unit at a place has -/
def unit (s : ByteArray) (i : Nat) : Nat := if rune s i = 0 then 1 else rune s i
theorem unit_pos (s : ByteArray) (i : Nat) : 1 ≤ unit s i := by unfold unit; split <;> omega
theorem unit_le (s : ByteArray) (i : Nat) (h : i < s.size) : unit s i ≤ s.size - i := by
  have := rune_le s i h
  unfold unit
  split <;> omega
theorem unit_dec (s : ByteArray) (i : Nat) (h : i < s.size) : (Utf8.decode s i).2 = unit s i := by
  unfold unit
  rcases rune_dec s i h with ⟨h1, h2, _⟩ | ⟨h1, h2, _⟩ | ⟨h1, _, _, h2, _⟩
  · rw [h1, h2]; rfl
  · rw [h1, h2]; rfl
  · rw [h2, if_neg (by omega)]
/-- may the unit at a place stand as it is? -/
def safeB (s : ByteArray) (i : Nat) : Bool := decide (0 < rune s i ∧ 32 ≤ byt s i ∧ byt s i ≠ 127)
theorem safe_dec (s : ByteArray) (i : Nat) (h : i < s.size) :
    safeB s i = decide (32 ≤ (Utf8.decode s i).1 ∧ (Utf8.decode s i).1 ≠ 127 ∧ ((Utf8.decode s i).1 ≠ 65533 ∨ 1 < (Utf8.decode s i).2)) := by
  unfold safeB
  rcases rune_dec s i h with ⟨h1, h2, _⟩ | ⟨h1, h2, _⟩ | ⟨h1, _, _, h2, h3, _⟩
  · rw [h1, h2]; simp
  · rw [h1, h2]
    apply Bool.eq_iff_iff.2
    simp only [decide_eq_true_eq]
    omega
  · apply Bool.eq_iff_iff.2
    simp only [decide_eq_true_eq]
    omega
theorem mark_dec (s : ByteArray) (i : Nat) (h : i < s.size) (c : Nat) (hc : c < 128) : (Utf8.decode s i).1 = c ↔ byt s i = c := by
  rcases rune_dec s i h with ⟨h1, h2, _⟩ | ⟨h1, h2, _⟩ | ⟨h1, _, _, h2, h3, _⟩
  · rw [h2]; omega
  · rw [h2]
  · omega
theorem mark_unit (s : ByteArray) (i : Nat) (h : i < s.size) (hc : byt s i < 128) : rune s i = 1 := by
  rcases rune_dec s i h with ⟨h1, h2, _⟩ | ⟨h1, h2, _⟩ | ⟨h1, _, _, h2, h3, _⟩ <;> omega

/-- a hexadecimal digit -/
def hexd (n : Nat) : UInt8 := if n < 10 then UInt8.ofNat (48 + n) else UInt8.ofNat (87 + n)
/-- a digit's number -/
def unhex (b : Nat) : Option Nat := if 48 ≤ b ∧ b ≤ 57 then some (b - 48) else if 97 ≤ b ∧ b ≤ 102 then some (b - 87) else none
theorem unhex_hexd (n : Nat) (h : n < 16) : unhex (hexd n).toNat = some n := by
  unfold hexd
  split
  · rw [UInt8.toNat_ofNat']
    have : (48 + n) % 2 ^ 8 = 48 + n := by omega
    rw [this, unhex, if_pos (by omega)]
    congr 1
    omega
  · rw [UInt8.toNat_ofNat']
    have : (87 + n) % 2 ^ 8 = 87 + n := by omega
    rw [this, unhex, if_neg (by omega), if_pos (by omega)]
    congr 1
    omega
theorem hexd_fine (n : Nat) (h : n < 16) : 48 ≤ (hexd n).toNat ∧ (hexd n).toNat ≤ 102 ∧ (hexd n).toNat ≠ 92 := by
  unfold hexd
  split
  · rw [UInt8.toNat_ofNat']; omega
  · rw [UInt8.toNat_ofNat']; omega

/-- how the unit at a place is written -/
def unitText (s : ByteArray) (i : Nat) : List UInt8 :=
  if byt s i = 34 ∨ byt s i = 92 then [92, s.get! i]
  else if safeB s i = true then (s.data.toList.drop i).take (unit s i)
  else [92, 120, hexd (byt s i / 16), hexd (byt s i % 16)]
theorem unitText_len (s : ByteArray) (i : Nat) (h : i < s.size) : (unitText s i).length ≤ 4 * unit s i := by
  have := unit_pos s i
  unfold unitText
  split
  · simp; omega
  · split
    · rw [List.length_take]; omega
    · simp; omega
def body (s : ByteArray) : Nat → Nat → List UInt8
  | 0, _ => []
  | f + 1, i => if i < s.size then unitText s i ++ body s f (i + unit s i) else []
theorem body_end (s : ByteArray) (f i : Nat) (h : ¬ i < s.size) : body s f i = [] := by
  cases f with
  | zero => rfl
  | succ f => rw [body, if_neg h]
theorem body_fuel (s : ByteArray) : ∀ f g i, s.size ≤ i + f → s.size ≤ i + g → body s f i = body s g i := by
  intro f
  induction f with
  | zero => intro g i h1 h2; rw [body_end s _ i (by omega), body_end s _ i (by omega)]
  | succ f ih =>
    intro g i h1 h2
    by_cases hi : i < s.size
    · obtain ⟨g, rfl⟩ : ∃ k, g = k + 1 := ⟨g - 1, by omega⟩
      have := unit_pos s i
      rw [body, body, if_pos hi, if_pos hi, ih g (i + unit s i) (by omega) (by omega)]
    · rw [body_end s _ i hi, body_end s _ i hi]
/-- the text in quotes -/
def qtext (s : ByteArray) : List UInt8 := [34] ++ body s s.size 0 ++ [34]
theorem body_len (s : ByteArray) : ∀ f i, (body s f i).length ≤ 4 * (s.size - i) := by
  intro f
  induction f with
  | zero => intro i; simp [body]
  | succ f ih =>
    intro i
    by_cases hi : i < s.size
    · have h1 := ih (i + unit s i)
      have h2 := unitText_len s i hi
      have h3 := unit_le s i hi
      rw [body, if_pos hi, List.length_append]
      omega
    · rw [body_end s _ i hi]; simp
theorem qtext_len (s : ByteArray) : (qtext s).length ≤ 4 * s.size + 2 := by
  have := body_len s s.size 0
  simp [qtext]
  omega
end Go.Proofs.YtgdfklgbdfpinaaDoor
