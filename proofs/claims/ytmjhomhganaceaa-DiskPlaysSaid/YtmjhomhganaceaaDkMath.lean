/-
  Plain words on a disk: its bytes in one row, a block of it, a torn write, the crashes that were asked for. Conditions: none.
-/
import Derived.Test.YtmjhomhganaceaaKit2
namespace Go.Proofs.Ytmjhomhganaceaa
set_option linter.unusedVariables false

theorem size_lst (s : ByteArray) : s.size = s.data.toList.length := by rw [Array.length_toList]; rfl
theorem list_txt (l : List UInt8) : (txt l).data.toList = l := by simp [txt]
theorem txt_inj {l m : List UInt8} (h : txt l = txt m) : l = m := by rw [← list_txt l, h, list_txt]

/-- block i of a disk whose bytes are F -/
def blk (F : List UInt8) (i : Nat) : ByteArray := txt ((F.drop (i * 128)).take 128)
theorem blk_size (F : List UInt8) (n i : Nat) (hF : F.length = n * 128) (hi : i < n) : (blk F i).size = 128 := by
  unfold blk
  rw [txt_size, List.length_take, List.length_drop]
  omega
/-- k bytes of a row written from a place on -/
def tear (F : List UInt8) (o : Nat) (l : List UInt8) : List UInt8 := F.take o ++ l ++ F.drop (o + l.length)
theorem tear_len (F : List UInt8) (o : Nat) (l : List UInt8) (h : o + l.length ≤ F.length) : (tear F o l).length = F.length := by
  unfold tear
  simp
  omega
theorem tear_at (F : List UInt8) (o : Nat) (l : List UInt8) (h : o + l.length ≤ F.length) (j : Nat) : (tear F o l)[j]? = if o ≤ j ∧ j < o + l.length then l[j - o]? else F[j]? := by
  unfold tear
  by_cases h1 : j < o
  · rw [if_neg (by omega), List.append_assoc, List.getElem?_append_left (by rw [List.length_take]; omega), List.getElem?_take, if_pos h1]
  · by_cases h2 : j < o + l.length
    · rw [if_pos (by omega), List.getElem?_append_left (by simp; omega), List.getElem?_append_right (by rw [List.length_take]; omega), List.length_take]
      congr 1
      omega
    · rw [if_neg (by omega), List.getElem?_append_right (by simp; omega), List.getElem?_drop]
      congr 1
      simp
      omega
theorem blk_at (F : List UInt8) (i j : Nat) : (blk F i).data.toList[j]? = if j < 128 then F[i * 128 + j]? else none := by
  unfold blk
  rw [list_txt, List.getElem?_take]
  split
  · rw [List.getElem?_drop]
  · rfl
theorem ba_ext {a b : ByteArray} (h : ∀ j : Nat, a.data.toList[j]? = b.data.toList[j]?) : a = b := by
  have : a.data.toList = b.data.toList := List.ext_getElem? h
  rw [← txt_data a, ← txt_data b, this]
/-- behind a torn write of block a: block i -/
theorem blk_tear (F : List UInt8) (n a i k : Nat) (s : ByteArray) (hF : F.length = n * 128) (ha : a < n) (hi : i < n) (hs : s.size = 128) (hk : k ≤ 128) :
    blk (tear F (a * 128) (s.data.toList.take k)) i = if i = a then s.extract 0 k ++ (blk F a).extract k 128 else blk F i := by
  have hl : (s.data.toList.take k).length = k := by rw [List.length_take, ← size_lst]; omega
  have hle : a * 128 + 128 ≤ F.length := by rw [hF]; have : (a + 1) * 128 ≤ n * 128 := Nat.mul_le_mul_right _ ha; omega
  have hb : (blk F a).data.toList.length = 128 := by rw [← size_lst, blk_size F n a hF ha]
  by_cases e : i = a
  · subst e
    rw [if_pos rfl]
    apply ba_ext
    intro j
    rw [blk_at, tear_at F _ _ (by rw [hl]; omega), hl, extract_txt, extract_txt, txt_append, list_txt, List.drop_zero, Nat.sub_zero]
    by_cases h1 : j < k
    · rw [if_pos (by omega), if_pos (by omega), List.getElem?_append_left (by rw [hl]; exact h1)]
      congr 1
      omega
    · rw [List.getElem?_append_right (by rw [hl]; omega), hl]
      by_cases h2 : j < 128
      · rw [if_pos h2, if_neg (by omega), List.getElem?_take, if_pos (by omega), List.getElem?_drop, blk_at, if_pos (by omega)]
        congr 1
        omega
      · rw [if_neg h2, List.getElem?_take, if_neg (by omega)]
  · rw [if_neg e]
    apply ba_ext
    intro j
    rw [blk_at, blk_at, tear_at F _ _ (by rw [hl]; omega), hl]
    by_cases h2 : j < 128
    · rw [if_pos h2, if_pos h2, if_neg]
      rintro ⟨h3, h4⟩
      rcases Nat.lt_or_ge i a with h5 | h5
      · have : (i + 1) * 128 ≤ a * 128 := Nat.mul_le_mul_right _ h5
        omega
      · have : (a + 1) * 128 ≤ i * 128 := Nat.mul_le_mul_right _ (by omega)
        omega
    · rw [if_neg h2, if_neg h2]

/-- a new disk's bytes -/
def noB (n : Nat) : List UInt8 := List.replicate (n * 128) 0
theorem noB_blk (n i : Nat) (hi : i < n) : blk (noB n) i = txt (List.replicate 128 0) := by
  unfold blk noB
  have : (i + 1) * 128 ≤ n * 128 := Nat.mul_le_mul_right _ hi
  rw [List.drop_replicate, List.take_replicate]
  congr 2
  omega

/-- how many bytes a number lets through -/
def clampK (k : Int) : Nat := (min (max k 0) 128).toNat
theorem clampK_le (k : Int) : clampK k ≤ 128 := by unfold clampK; omega
theorem clampK_min (k : Int) : (clampK k : Int) = min (max k 0) 128 := by unfold clampK; omega
theorem clampK_max (k : Int) : (clampK k : Int) = max 0 (min 128 k) := by unfold clampK; omega
/-- the crash at a write, of the first that is asked for there: how many bytes it lets through -/
def crashAt : List (Int × Int) → Int → Option Nat
  | [], _ => none
  | c :: l, t => if c.1 = t then some (clampK c.2) else crashAt l t
theorem crashAt_le {l : List (Int × Int)} {t : Int} {k : Nat} (h : crashAt l t = some k) : k ≤ 128 := by
  induction l with
  | nil => cases h
  | cons c l ih =>
    unfold crashAt at h
    split at h
    · injection h with h
      rw [← h]
      exact clampK_le _
    · exact ih h
theorem crashAt_snoc (l : List (Int × Int)) (c : Int × Int) (t : Int) : crashAt (l ++ [c]) t = match crashAt l t with | some k => some k | none => if c.1 = t then some (clampK c.2) else none := by
  induction l with
  | nil => rfl
  | cons d l ih =>
    simp only [List.cons_append, crashAt]
    split
    · rfl
    · exact ih
end Go.Proofs.Ytmjhomhganaceaa
