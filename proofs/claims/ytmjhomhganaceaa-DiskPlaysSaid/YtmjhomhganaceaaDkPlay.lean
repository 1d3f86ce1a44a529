/-
  Plain words for DiskPlays: the blocks of a row of bytes; the reference's Write in one contract. Conditions: each lemma says its own.
-/
import Derived.Test.YtmjhomhganaceaaDkWorks
namespace Go.Proofs.Ytmjhomhganaceaa
set_option linter.unusedVariables false
set_option linter.unusedSimpArgs false
open Go.RowKit Go.Maps Go.Sort

/-- a row's blocks -/
def bsOf (n : Nat) (F : List UInt8) : List ByteArray := (List.range n).map (blk F)
theorem bsOf_len (n : Nat) (F : List UInt8) : (bsOf n F).length = n := by simp [bsOf]
theorem bsOf_get (n : Nat) (F : List UInt8) (i : Nat) (hi : i < n) : (bsOf n F)[i]? = some (blk F i) := by simp [bsOf, hi]
theorem bsOf_new (n : Nat) : List.replicate n (txt (zeros 128)) = bsOf n (noB n) := by
  apply List.ext_getElem?
  intro i
  by_cases hi : i < n
  · rw [bsOf_get n _ i hi, noB_blk n i hi, List.getElem?_replicate, if_pos hi]
    rfl
  · rw [List.getElem?_eq_none (by rw [List.length_replicate]; omega), List.getElem?_eq_none (by rw [bsOf_len]; omega)]
theorem bsOf_size (n : Nat) (F : List UInt8) (hF : F.length = n * 128) : ∀ b ∈ bsOf n F, b.size = 128 := by
  intro b hb
  simp [bsOf] at hb
  obtain ⟨i, hi, rfl⟩ := hb
  exact blk_size F n i hF hi
theorem cfk_le {cf : Int → Option Nat} (hcf : ∀ t k, cf t = some k → k ≤ 128) (t : Int) : (cf t).getD 128 ≤ 128 := by
  cases h : cf t with
  | none => exact Nat.le_refl _
  | some k => exact hcf t k h
theorem bsOf_write (n : Nat) (F : List UInt8) (dn : Bool) (cf : Int → Option Nat) (wr : Nat) (a : Int) (s : ByteArray) (hF : F.length = n * 128) (hcf : ∀ t k, cf t = some k → k ≤ 128) :
    writeBs n (bsOf n F) dn cf wr a s = bsOf n (writeF n F dn cf wr a s) := by
  unfold writeBs writeF
  cases hB : writeB n dn a s
  · simp
  · simp only [if_true]
    obtain ⟨h1, h2⟩ := of_decide_eq_true hB
    obtain ⟨_, ha0, han⟩ := readyE_zero h1
    have hi : a.toNat < n := by omega
    have hk := cfk_le hcf wr
    apply List.ext_getElem?
    intro i
    by_cases h : i < n
    · rw [bsOf_get n _ i h, blk_tear F n a.toNat i ((cf wr).getD 128) s hF hi h h2 hk, List.getElem?_set]
      by_cases e : a.toNat = i
      · subst e
        rw [if_pos rfl, if_pos (by rw [bsOf_len]; omega), if_pos rfl, List.getD_eq_getElem?_getD, bsOf_get n _ _ h]
        rfl
      · rw [if_neg e, if_neg (fun e' => e e'.symm), bsOf_get n _ i h]
    · rw [List.getElem?_eq_none (by rw [List.length_set, bsOf_len]; omega), List.getElem?_eq_none (by rw [bsOf_len]; omega)]
theorem bsOf_read (n : Nat) (F : List UInt8) (dn : Bool) (a : Int) : refS n (bsOf n F) dn a = readS n F dn a := by
  unfold refS readS
  by_cases h : readyE n dn a = 0
  · obtain ⟨_, ha0, han⟩ := readyE_zero h
    rw [if_pos h, if_pos h, List.getD_eq_getElem?_getD, bsOf_get n _ _ (by omega)]
    rfl
  · rw [if_neg h, if_neg h]
theorem writeF_len (n : Nat) (F : List UInt8) (dn : Bool) (cf : Int → Option Nat) (wr : Nat) (a : Int) (s : ByteArray) (hF : F.length = n * 128) : (writeF n F dn cf wr a s).length = n * 128 := by
  unfold writeF
  cases hB : writeB n dn a s
  · exact hF
  · simp only [if_true]
    obtain ⟨h1, h2⟩ := of_decide_eq_true hB
    obtain ⟨_, ha0, han⟩ := readyE_zero h1
    have hi : a.toNat < n := by omega
    have : (a.toNat + 1) * 128 ≤ n * 128 := Nat.mul_le_mul_right _ hi
    rw [tear_len _ _ _ (by rw [List.length_take, ← size_lst]; omega), hF]
theorem writeN_le (n : Nat) (dn : Bool) (wr : Nat) (a : Int) (s : ByteArray) : writeN n dn wr a s ≤ wr + 1 := by
  unfold writeN
  split <;> omega

theorem ret_agg {a a' b b' : Value} {c c' e e' : Int} {d d' : Bool} (h1 : a = a') (h2 : b = b') (h3 : c = c') (h4 : d = d') (h5 : e = e') :
    Ending.returned (.tuple #[.agg #[a, b, .int .i64 c, .bool d], .int .i64 e]) = Ending.returned (.tuple #[.agg #[a', b', .int .i64 c', .bool d'], .int .i64 e']) := by rw [h1, h2, h3, h4, h5]
theorem refwrite_any (v : Value) (A : Option Addr) (cap n wr : Nat) (dn : Bool) (F : List UInt8) (cs : List (Int × Int)) (a : Int) (s : ByteArray) (w : World)
    (h : StrAt w v n (bsOf n F)) (hF : F.length = n * 128) (hcr : IsCr w w.heap.size A cs) (hn1 : 1 ≤ n) (hn : n ≤ 4096) (hl : cs.length ≤ 1000) (hwr : wr < 1000000) (hs : s.size ≤ maxLen) :
    Calls Try.prog 14 #[.agg #[v, .slice A cs.length cap, .int .i64 wr, .bool dn], .int .i64 a, .string s] w fun e w' =>
      ∃ v', e = .returned (.tuple #[.agg #[v', .slice A cs.length cap, .int .i64 (writeN n dn wr a s), .bool (writeD n dn (crashAt cs) wr a s)], .int .i64 (writeE n dn (crashAt cs) wr a s)]) ∧
        StrAt w' v' n (bsOf n (writeF n F dn (crashAt cs) wr a s)) ∧ Below w.heap.size w w' := by
  cases hB : writeB n dn a s
  · refine (refwrite_no v A cs.length cap n wr dn (bsOf n F) (crashAt cs) a s w h hn hs hB).mono ?_
    rintro e w' ⟨v', he, hst, hb⟩
    rw [bsOf_write n F dn (crashAt cs) wr a s hF (fun t k h => crashAt_le h)] at hst
    exact ⟨v', he, hst, hb⟩
  · obtain ⟨h1, h2⟩ := of_decide_eq_true hB
    obtain ⟨rfl, ha0, han⟩ := readyE_zero h1
    obtain ⟨i, rfl⟩ : ∃ i : Nat, a = i := ⟨a.toNat, by omega⟩
    refine (refwrite_yes v A cap n wr (bsOf n F) cs i s w h hcr hn1 (by omega) hn hl hwr h2 (bsOf_size n F hF)).mono ?_
    rintro e w' ⟨v', he, hst, hb⟩
    have hx := bsOf_write n F false (crashAt cs) wr i s hF (fun t k h => crashAt_le h)
    rw [writeBs, hB, if_pos rfl, Int.toNat_natCast] at hx
    rw [hx] at hst
    refine ⟨v', he.trans (ret_agg rfl rfl ?_ ?_ ?_), hst, hb⟩
    · rw [writeN, hB]; rfl
    · rw [writeD, hB]; rfl
    · rw [writeE, h1]; simp [h2]
end Go.Proofs.Ytmjhomhganaceaa
