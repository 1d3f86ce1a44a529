/-
  Labels are read again from their text, whatever stands about it: plain law. Conditions: what ofErr l = 0 says.
-/
import Derived.Test.YtgdfklgbdfpinaaDoorLbKeepLaw
import Derived.Test.YtgdfklgbdfpinaaDoorQuBack
namespace Go.Proofs.YtgdfklgbdfpinaaDoor
set_option linter.unusedVariables false
set_option linter.unusedSimpArgs false
open Go.RowKit Go.Sort

/-- the text of the labels that are left -/
def moreT : Bool → List Lab → List UInt8
  | _, [] => [125]
  | b, x :: xs => (if b then [44, 32] else []) ++ (ltext1 x ++ moreT true xs)
theorem textK_more (l : List Lab) : ∀ (k j : Nat), j + k = l.length → textK l l.length ++ [125] = textK l j ++ moreT (decide (j ≠ 0)) (l.drop j)
  | 0, j, h => by
    obtain rfl : j = l.length := by omega
    rw [List.drop_eq_nil_of_le (Nat.le_refl _)]
    rfl
  | k + 1, j, h => by
    have hj : j < l.length := by omega
    rw [textK_more l k (j + 1) (by omega), textK_next (List.getElem?_eq_getElem hj), List.drop_eq_getElem_cons hj]
    have e1 : decide (j + 1 ≠ 0) = true := by simp
    rw [e1, moreT]
    by_cases h0 : j = 0
    · subst h0; simp
    · have e2 : decide (j ≠ 0) = true := by simp [h0]
      rw [if_neg h0, e2]; simp
theorem ltext_more (l : List Lab) : ltext l = [123] ++ moreT false l := by
  have := textK_more l l.length 0 (by omega)
  rw [ltext, this]
  simp [textK]

theorem drop_app {S : ByteArray} {p : Nat} {l m : List UInt8} (h : S.data.toList.drop p = l ++ m) : S.data.toList.drop (p + l.length) = m := by
  rw [← List.drop_drop, h, List.drop_left]
theorem drop_head {S : ByteArray} {p : Nat} {c : UInt8} {m : List UInt8} (h : S.data.toList.drop p = c :: m) : p < S.size ∧ byt S p = c.toNat := by
  have hs := look_size h
  have h0 := look_at h 0
  simp at hs h0
  exact ⟨by omega, h0⟩
theorem drop_is {S : ByteArray} {p : Nat} {c : UInt8} {m : List UInt8} (h : S.data.toList.drop p = c :: m) (d : Nat) : isB S p d = decide (c.toNat = d) := by
  obtain ⟨h1, h2⟩ := drop_head h
  rw [isB, decide_eq_true h1, h2]; simp

theorem nrun_full (x S : ByteArray) (p : Nat) (m : List UInt8) (h : S.data.toList.drop p = x.data.toList ++ 61 :: m) : ∀ (n i : Nat) (f : Bool) (K : Nat), i + n = x.size → nrun x n i f = n → n < K → nrun S K (p + i) f = n
  | 0, i, f, K, hi, hn, hK => by
    obtain ⟨K, rfl⟩ : ∃ k, K = k + 1 := ⟨K - 1, by omega⟩
    have hb : byt S (p + i) = 61 := by
      rw [look_at h i, List.getD_eq_getElem?_getD, List.getElem?_append_right (by rw [← size_list]; omega), ← size_list, show i - x.size = 0 by omega]
      rfl
    rw [nrun, hb, if_neg (by cases f <;> decide)]
  | n + 1, i, f, K, hi, hn, hK => by
    obtain ⟨K, rfl⟩ : ∃ k, K = k + 1 := ⟨K - 1, by omega⟩
    have hb : byt S (p + i) = byt x i := by
      rw [look_at h i, List.getD_eq_getElem?_getD, List.getElem?_append_left (by rw [← size_list]; omega), byt_getD, List.getD_eq_getElem?_getD]
    rw [nrun] at hn ⊢
    rw [hb]
    by_cases hs : nsign (byt x i) f = true
    · rw [if_pos hs] at hn ⊢
      rw [Nat.add_assoc, nrun_full x S p m h n (i + 1) false K (by omega) (by omega) (by omega)]
      omega
    · rw [if_neg hs] at hn
      omega
theorem signs_full {x S : ByteArray} {p : Nat} {m : List UInt8} (h : S.data.toList.drop p = x.data.toList ++ 61 :: m) (hx : labelB x = true) : signs S p = x.size := by
  obtain ⟨h1, h2, h3⟩ := labelB_of hx
  have hs := look_size h
  rw [List.length_append, ← size_list, List.length_cons] at hs
  exact nrun_full x S p m h x.size 0 true (S.size - p) (by omega) (by simpa [signs] using h3) (by omega)
theorem read_here {S s : ByteArray} {p : Nat} {m : List UInt8} (h : S.data.toList.drop p = qtext s ++ m) : readAt S (p : Int) = (s.data.toList, p + (qtext s).length, 0, 0) := by
  have hs := look_size h
  have hql : 2 ≤ (qtext s).length := by simp [qtext]
  rw [List.length_append] at hs
  have hpz : p ≤ S.size := by omega
  have e : txt (S.data.toList.take p) ++ txt (qtext s) ++ txt m = S := by
    refine nm_inj ?_
    have : (txt (S.data.toList.take p) ++ txt (qtext s) ++ txt m).data.toList = S.data.toList.take p ++ (qtext s ++ m) := by simp [txt]
    rw [this, ← h, List.take_append_drop]
  have hz : (txt (S.data.toList.take p)).size = p := by
    rw [size_list, txt_list, List.length_take, ← size_list]; omega
  have := read_back (txt (S.data.toList.take p)) s (txt m)
  rw [e, hz] at this
  exact this
theorem label_here {S : ByteArray} {p : Nat} {x : Lab} {m : List UInt8} (h : S.data.toList.drop p = ltext1 x ++ m) (hx : labelB x.1 = true) : labelR S p = (x, p + (ltext1 x).length, 0, 0) := by
  have h1 : S.data.toList.drop p = x.1.data.toList ++ 61 :: (qtext x.2 ++ m) := by rw [h, ltext1]; simp
  obtain ⟨g1, g2, g3⟩ := labelB_of hx
  have hsg := signs_full h1 hx
  have h2 := drop_app h1
  rw [← size_list] at h2
  have hs := look_size h1
  rw [List.length_append, ← size_list, List.length_cons] at hs
  have h3 : S.data.toList.drop (p + x.1.size + 1) = qtext x.2 ++ m := by
    have := drop_app (l := [61]) (m := qtext x.2 ++ m) h2
    exact this
  have h4 := read_here h3
  have hex : S.extract p (p + x.1.size) = x.1 := by
    refine nm_inj ?_
    rw [extract_txt, txt_list, h1, Nat.add_sub_cancel_left, size_list, List.take_left]
  have h5 : isB S (p + x.1.size) 61 = true := by rw [drop_is h2]; rfl
  rw [labelR, if_neg (by omega), hsg, if_neg (by omega), if_neg (by rw [h5]; simp), labAt, hsg, h4, hex, txt_data]
  have : (ltext1 x).length = x.1.size + (1 + (qtext x.2).length) := by rw [ltext1, List.length_append, ← size_list]; simp; omega
  rw [this]
  simp only [Prod.mk.injEq, and_true, true_and, Prod.eta]
  omega
theorem takeF_here {S : ByteArray} {post : List UInt8} : ∀ (xs : List Lab) (x : Lab) (p F : Nat) (out : List Lab), S.data.toList.drop p = ltext1 x ++ (moreT true xs ++ post) → (∀ y ∈ x :: xs, labelB y.1 = true) → out.length + (xs.length + 1) ≤ 32 → S.size ≤ p + F →
    takeF S F p out = (out ++ x :: xs, p + (ltext1 x ++ moreT true xs).length, 0, 0)
  | [], x, p, F, out, h, hl, ho, hF => by
    have hr := label_here h (hl x (by simp))
    have h2 := drop_app h
    have hs := look_size h
    have hm : 0 < (moreT true ([] : List Lab)).length := by simp [moreT]
    rw [List.length_append, List.length_append] at hs
    obtain ⟨F, rfl⟩ : ∃ k, F = k + 1 := ⟨F - 1, by omega⟩
    rw [takeF_label S F p out (by omega) (by simp at ho; omega), hr]
    have h3 : isB S (p + (ltext1 x).length) 125 = true := by
      rw [drop_is (c := 125) (m := post) (by rw [h2]; rfl)]; rfl
    rw [if_neg (by simp), if_pos h3, List.length_append]
    rfl
  | y :: xs, x, p, F, out, h, hl, ho, hF => by
    have hr := label_here h (hl x (by simp))
    have h2 := drop_app h
    have hs := look_size h
    have e2 : moreT true (y :: xs) = 44 :: 32 :: (ltext1 y ++ moreT true xs) := rfl
    rw [e2] at h2 hs
    rw [List.length_append, List.length_append, List.length_cons, List.length_cons] at hs
    obtain ⟨F, rfl⟩ : ∃ k, F = k + 1 := ⟨F - 1, by omega⟩
    simp only [List.length_cons] at ho
    rw [takeF_label S F p out (by omega) (by omega), hr]
    have h4 : S.data.toList.drop (p + (ltext1 x).length + 1) = 32 :: ((ltext1 y ++ moreT true xs) ++ post) := by
      have := drop_app (l := [44]) h2
      simpa using this
    have h5 : S.data.toList.drop (p + (ltext1 x).length + 2) = ltext1 y ++ (moreT true xs ++ post) := by
      have := drop_app (l := [32]) h4
      simpa [Nat.add_assoc] using this
    have i1 : isB S (p + (ltext1 x).length) 125 = false := by rw [drop_is (by rw [h2]; rfl)]; rfl
    have i2 : isB S (p + (ltext1 x).length) 44 = true := by rw [drop_is (by rw [h2]; rfl)]; rfl
    have i3 : isB S (p + (ltext1 x).length + 1) 32 = true := by rw [drop_is h4]; rfl
    rw [if_neg (by simp), if_neg (by rw [i1]; simp), if_neg (by rw [i2]; simp), if_neg (by rw [i3]; simp)]
    rw [takeF_here xs y (p + (ltext1 x).length + 2) F (out ++ [x]) h5 (fun z hz => hl z (by simp at hz ⊢; exact .inr hz)) (by simp; omega) (by omega)]
    rw [e2]
    simp only [List.length_append, List.length_cons, List.append_assoc, List.singleton_append, Prod.mk.injEq, and_true, true_and]
    omega
/-- read again -/
theorem take_back {l : List Lab} (a b : ByteArray) (h : ofErr l = 0) : takeR (a ++ txt (ltext l) ++ b) (a.size : Int) = (l, a.size + (ltext l).length, 0, 0) := by
  obtain ⟨h1, h2, -⟩ := ofErr_ok h
  have hdata : (a ++ txt (ltext l) ++ b).data.toList = a.data.toList ++ (ltext l ++ b.data.toList) := by simp [txt]
  generalize a ++ txt (ltext l) ++ b = S at *
  have hd : S.data.toList.drop a.size = ltext l ++ b.data.toList := by rw [hdata, size_list a, List.drop_left]
  have hsz := look_size hd
  rw [List.length_append] at hsz
  rw [ltext_more] at hd hsz ⊢
  have hl1 : 1 ≤ ([123] ++ moreT false l).length := by simp
  have i1 : isB S a.size 123 = true := by rw [drop_is (c := 123) (m := moreT false l ++ b.data.toList) (by rw [hd]; rfl)]; rfl
  have hd1 : S.data.toList.drop (a.size + 1) = moreT false l ++ b.data.toList := by
    have := drop_app (l := [123]) (m := moreT false l ++ b.data.toList) (by rw [hd]; simp)
    simpa using this
  rw [takeR, if_neg (by omega), Int.toNat_natCast, if_neg (by rw [i1]; simp)]
  cases l with
  | nil =>
    have i2 : isB S (a.size + 1) 125 = true := by rw [drop_is (c := 125) (m := b.data.toList) (by rw [hd1]; rfl)]; rfl
    rw [if_pos i2]
    rfl
  | cons x xs =>
    have hx : labelB x.1 = true := (oneE_ok (h2 x (by simp))).1
    have hd2 : S.data.toList.drop (a.size + 1) = ltext1 x ++ (moreT true xs ++ b.data.toList) := by
      rw [hd1, moreT]; simp
    have i2 : isB S (a.size + 1) 125 = false := by
      obtain ⟨g1, g2, g3⟩ := labelB_of hx
      have hne : x.1.data.toList ≠ [] := fun e => by
        have : x.1.size = 0 := by rw [size_list, e]; rfl
        omega
      obtain ⟨c, cs, hc⟩ := List.exists_cons_of_ne_nil hne
      have hd3 : S.data.toList.drop (a.size + 1) = c :: (cs ++ 61 :: (qtext x.2 ++ (moreT true xs ++ b.data.toList))) := by
        rw [hd2, ltext1, hc]; simp
      rw [drop_is hd3]
      refine decide_eq_false fun e => ?_
      have hb : byt x.1 0 = 125 := by rw [byt_getD, hc]; exact e
      rw [signs, Nat.sub_zero, show x.1.size = (x.1.size - 1) + 1 by omega, nrun, hb, if_neg (by decide)] at g3
      omega
    rw [if_neg (by rw [i2]; simp), takeF_here xs x (a.size + 1) S.size [] hd2 (fun y hy => (oneE_ok (h2 y hy)).1) (by simp at h1 ⊢; omega) (by omega)]
    simp only [List.nil_append, moreT, Prod.mk.injEq, and_true, true_and]
    simp
    omega
end Go.Proofs.YtgdfklgbdfpinaaDoor
