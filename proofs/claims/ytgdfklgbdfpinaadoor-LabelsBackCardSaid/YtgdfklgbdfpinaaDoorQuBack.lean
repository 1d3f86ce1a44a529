/-
  What was written in quotes is read again, whatever stands about it: plain law. Conditions: none.
-/
import Derived.Test.YtgdfklgbdfpinaaDoorQuRead
namespace Go.Proofs.YtgdfklgbdfpinaaDoor
set_option linter.unusedVariables false

theorem look_at {S : ByteArray} {p : Nat} {l : List UInt8} (h : S.data.toList.drop p = l) (j : Nat) : byt S (p + j) = (l.getD j 0).toNat := by
  rw [byt_getD, ← h, List.getD_eq_getElem?_getD, List.getD_eq_getElem?_getD, List.getElem?_drop]
theorem look_size {S : ByteArray} {p : Nat} {l : List UInt8} (h : S.data.toList.drop p = l) : S.size - p = l.length := by
  rw [← h, List.length_drop, ← size_list]
theorem look_next {S : ByteArray} {p : Nat} {l m : List UInt8} (h : S.data.toList.drop p = l ++ m) : S.data.toList.drop (p + l.length) = m := by
  rw [← List.drop_drop, h, List.drop_left]
theorem unsafe_unit {s : ByteArray} {i : Nat} (hi : i < s.size) (h : ¬ safeB s i = true) : unit s i = 1 := by
  unfold safeB at h
  unfold unit
  rcases rune_dec s i hi with ⟨h1, _, _⟩ | ⟨h1, _, _⟩ | ⟨h1, _, _, _, _, _, h2⟩
  · rw [if_pos h1]
  · rw [h1]; rfl
  · exact absurd (decide_eq_true ⟨by omega, by omega, by omega⟩) h
theorem one_drop (s : ByteArray) (i : Nat) (hi : i < s.size) : s.data.toList.drop i = UInt8.ofNat (byt s i) :: s.data.toList.drop (i + 1) := by
  have h' : i < s.data.toList.length := by rw [← size_list]; exact hi
  rw [List.drop_eq_getElem_cons h', ← get_ofNat, get_at s i hi]
  rfl

theorem read_body (S s : ByteArray) (post : List UInt8) : ∀ f i p acc F, S.data.toList.drop p = body s f i ++ 34 :: post → s.size ≤ i + f → i ≤ s.size → f < F →
    readF S F p acc = (acc ++ s.data.toList.drop i, p + (body s f i).length + 1, 0, 0) := by
  intro f
  induction f with
  | zero =>
    intro i p acc F h h1 h2 hF
    obtain ⟨F, rfl⟩ : ∃ k, F = k + 1 := ⟨F - 1, by omega⟩
    have hd : S.data.toList.drop p = 34 :: post := by simpa [body] using h
    have hs := look_size hd
    have h0 := look_at hd 0
    simp at hs
    rw [readF_quote (by omega) (by simpa using h0), List.drop_eq_nil_of_le (by rw [← size_list]; omega)]
    simp [body]
  | succ f ih =>
    intro i p acc F h h1 h2 hF
    obtain ⟨F, rfl⟩ : ∃ k, F = k + 1 := ⟨F - 1, by omega⟩
    by_cases hi : i < s.size
    · have hu1 := unit_pos s i
      have hu2 := unit_le s i hi
      rw [body_step s i f hi, List.append_assoc] at h
      have hnext := look_next h
      have hsz := look_size h
      have hat := look_at h
      rw [List.length_append] at hsz
      have hrest : (body s f (i + unit s i) ++ 34 :: post).length ≥ 1 := by simp; omega
      by_cases hm : byt s i = 34 ∨ byt s i = 92
      · have hut : unitText s i = [92, UInt8.ofNat (byt s i)] := by unfold unitText; rw [if_pos hm, get_ofNat]
        have hun : unit s i = 1 := by unfold unit; rw [mark_unit s i hi (by omega)]; rfl
        rw [hut] at hnext hsz hat
        simp at hsz hnext
        have a0 := hat 0
        have a1 := hat 1
        simp at a0 a1
        have hb1 : byt S (p + 1) = byt s i := by rw [a1]; exact Nat.mod_eq_of_lt (byt_lt s i)
        have he : escR S p = (0, byt s i, 2) := by
          unfold escR
          rw [escN_mark (by omega) (by rw [hb1]; exact hm), hb1]
        rw [readF_esc (by omega) a0 (by rw [he]), he]
        rw [ih (i + unit s i) (p + 2) (acc ++ [UInt8.ofNat (byt s i)]) F (by simpa [hun] using hnext) (by omega) (by omega) (by omega), body_step s i f hi, hut, one_drop s i hi, hun]
        simp
        omega
      · by_cases hsf : safeB s i = true
        · have hut : unitText s i = (s.data.toList.drop i).take (unit s i) := by unfold unitText; rw [if_neg hm, if_pos hsf]
          have hul : (unitText s i).length = unit s i := by rw [hut, List.length_take, List.length_drop, ← size_list]; omega
          have hrn : rune s i = unit s i := by
            unfold unit
            rw [if_neg]
            unfold safeB at hsf
            have := of_decide_eq_true hsf
            omega
          have hby : ∀ j, j < unit s i → byt S (p + j) = byt s (i + j) := by
            intro j hj
            rw [hat j, byt_getD, List.getD_eq_getElem?_getD, List.getD_eq_getElem?_getD, List.getElem?_append_left (by omega), hut, List.getElem?_take, if_pos hj, List.getElem?_drop]
          have hb0 : byt S p = byt s i := by simpa using hby 0 (by omega)
          have hr : rune S p = rune s i := by
            unfold rune at hrn ⊢
            rw [hb0]
            exact rn_local (by omega) (by omega) (fun h => hby 1 (by omega)) (fun h => hby 2 (by omega)) (fun h => hby 3 (by omega))
          have hus : unit S p = unit s i := by unfold unit; rw [hr]
          have hss : safeB S p = true := by rw [← hsf]; unfold safeB; rw [hr, hb0]
          have hsl : (S.data.toList.drop p).take (unit S p) = unitText s i := by rw [hus, h, ← hul, List.take_left]
          rw [readF_safe (by omega) (by omega) (by omega) hss, hsl, hus]
          rw [hul] at hnext
          rw [ih (i + unit s i) (p + unit s i) (acc ++ unitText s i) F hnext (by omega) (by omega) (by omega), body_step s i f hi, List.length_append, hul, hut, List.append_assoc, ← List.drop_drop, List.take_append_drop]
          simp
          omega
        · have hut : unitText s i = [92, 120, hexd (byt s i / 16), hexd (byt s i % 16)] := by unfold unitText; rw [if_neg hm, if_neg hsf]
          have hun := unsafe_unit hi hsf
          have hb256 := byt_lt s i
          rw [hut] at hnext hsz hat
          simp at hsz hnext
          have a0 := hat 0
          have a1 := hat 1
          have a2 := hat 2
          have a3 := hat 3
          simp at a0 a1 a2 a3
          have he : escR S p = (0, byt s i, 4) := by
            unfold escR
            rw [a1, a2, a3, escN_yes (by omega) (unhex_hexd _ (by omega)) (unhex_hexd _ (by omega))]
            congr 2
            omega
          rw [readF_esc (by omega) a0 (by rw [he]), he]
          rw [ih (i + unit s i) (p + 4) (acc ++ [UInt8.ofNat (byt s i)]) F (by simpa [hun] using hnext) (by omega) (by omega) (by omega), body_step s i f hi, hut, one_drop s i hi, hun]
          simp
          omega
    · have hb := body_end s (f + 1) i hi
      rw [hb] at h ⊢
      have hd : S.data.toList.drop p = 34 :: post := by simpa using h
      have hs := look_size hd
      have h0 := look_at hd 0
      simp at hs
      rw [readF_quote (by omega) (by simpa using h0), List.drop_eq_nil_of_le (by rw [← size_list]; omega)]
      simp

theorem body_least (s : ByteArray) : ∀ f i, s.size ≤ i + f → s.size - i ≤ (body s f i).length := by
  intro f
  induction f with
  | zero => intro i h; omega
  | succ f ih =>
    intro i h
    by_cases hi : i < s.size
    · have hu1 := unit_pos s i
      have hu2 := unit_le s i hi
      have h2 := ih (i + unit s i) (by omega)
      have hul : unit s i ≤ (unitText s i).length := by
        by_cases hm : byt s i = 34 ∨ byt s i = 92
        · have hun : unit s i = 1 := by unfold unit; rw [mark_unit s i hi (by omega)]; rfl
          unfold unitText
          rw [if_pos hm, hun]
          simp
        · by_cases hsf : safeB s i = true
          · unfold unitText
            rw [if_neg hm, if_pos hsf, List.length_take, List.length_drop, ← size_list]
            omega
          · have hun := unsafe_unit hi hsf
            unfold unitText
            rw [if_neg hm, if_neg hsf, hun]
            simp
      rw [body_step s i f hi, List.length_append]
      omega
    · rw [body_end s _ i hi]
      simp
      omega

/-- read back -/
theorem read_back (a s b : ByteArray) : readAt (a ++ txt (qtext s) ++ b) (a.size : Int) = (s.data.toList, a.size + (qtext s).length, 0, 0) := by
  have hdata : (a ++ txt (qtext s) ++ b).data.toList = a.data.toList ++ (qtext s ++ b.data.toList) := by
    simp [txt]
  generalize a ++ txt (qtext s) ++ b = S at *
  have hd : S.data.toList.drop a.size = qtext s ++ b.data.toList := by rw [hdata, size_list a, List.drop_left]
  have hsz := look_size hd
  have hat := look_at hd 0
  have hql : 2 ≤ (qtext s).length := by simp [qtext]
  rw [List.length_append] at hsz
  have h0 : byt S a.size = 34 := by simpa [qtext] using hat
  have hleast := body_least s s.size 0 (by omega)
  have hqb : (qtext s).length = (body s s.size 0).length + 2 := by simp [qtext]
  have hd1 : S.data.toList.drop (a.size + 1) = body s s.size 0 ++ 34 :: b.data.toList := by
    rw [← List.drop_drop, hd]
    simp [qtext]
  unfold readAt
  rw [if_neg (by omega), if_neg (by omega), Int.toNat_natCast, if_neg (by omega), read_body S s b.data.toList s.size 0 (a.size + 1) [] S.size hd1 (by omega) (by omega) (by omega)]
  simp
  omega
end Go.Proofs.YtgdfklgbdfpinaaDoor
