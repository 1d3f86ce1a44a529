/-
  The walks of block and of the reference's New, Write, Read. Conditions: the memory that they read.
-/
import Derived.Test.YtmjhomhganaceaaDkCopy
import Derived.Test.YtmjhomhganaceaaPick
import Derived.Test.YtmjhomhganaceaaAlloc2
namespace Go.Proofs.Ytmjhomhganaceaa
set_option linter.unusedVariables false
set_option linter.unusedSimpArgs false
open Go.RowKit Go.Maps Go.Sort

def zeros (k : Nat) : List UInt8 := List.replicate k 0
theorem infoU8' : (Try.prog.info? 5).map (fun i => (i.zero, i.size, i.bytes)) = some (some (.int .u8 0), 1, 1) := by kernel_rfl
theorem zero_row (n : Nat) : madeCells (Value.int .u8 0).cells (n * 1) = (byteCells (zeros n)).toArray := by
  have e : (Value.int .u8 0).cells = #[Value.int .u8 0] := rfl
  rw [e, Nat.mul_one]
  apply Array.ext
  · simp [madeCells, byteCells, zeros]
  · intro i h1 h2
    simp [madeCells, byteCells, zeros, Nat.mod_one]
theorem make_row (n : Nat) (hn : n ≤ 4096) (w : World) : (Instr.makeSlice 51 (.int .i64 n) (.int .i64 n)).run Try.prog w = .ok (.slice (some ⟨w.heap.size, 0, none⟩) n n) (w.alloc (.cells (byteCells (zeros n)).toArray 5)) := by
  obtain ⟨i0, hi, hz0, hz1, hz2⟩ := info_parts infoU8'
  have := run_make w 51 5 i0 _ Try.underlying51 hi hz0 .i64 .i64 n n (by omega) (by omega) (by rw [hz2]; omega) (by omega)
  rw [hz1] at this
  simp only [Int.toNat_natCast] at this
  rw [this, zero_row]
theorem conv_row {w : World} {g n c : Nat} {l : List UInt8} (h : Blk w g 5 (byteCells l).toArray) (hn : l.length = n) : (convert 51 9 (.slice (some ⟨g, 0, none⟩) n c)).run Try.prog w = .ok (.string (txt l)) w := by
  subst hn
  exact run_convert_bytes_back (P := Try.prog) w 51 9 5 ⟨g, 0, none⟩ c l Try.underlying51 Try.underlying5 Try.underlying9 (fun j hj => by
    rw [add_lit0, Nat.zero_add, h.cell]
    simp [byteCells, hj])
theorem conv_new (w : World) (n c : Nat) (l : List UInt8) (hn : l.length = n) : (convert 51 9 (.slice (some ⟨w.heap.size, 0, none⟩) n c)).run Try.prog (w.alloc (.cells (byteCells l).toArray 5)) = .ok (.string (txt l)) (w.alloc (.cells (byteCells l).toArray 5)) :=
  conv_row (Blk.new w _ _) hn

/-- a text as a block -/
def blockS (s : ByteArray) : ByteArray := if 128 < s.size then s else s ++ txt (zeros (128 - s.size))
theorem blockS_size (s : ByteArray) (h : s.size ≤ 128) : (blockS s).size = 128 := by
  unfold blockS
  rw [if_neg (by omega), ByteArray.size_append, txt_size, zeros, List.length_replicate]
  omega
theorem blockS_le (s : ByteArray) (h : s.size ≤ maxLen) : (blockS s).size ≤ maxLen := by
  by_cases h1 : s.size ≤ 128
  · rw [blockS_size s h1]; unfold maxLen; omega
  · unfold blockS; rw [if_pos (by omega)]; exact h

set_option maxHeartbeats 1000000 in
theorem block_any (s : ByteArray) (w : World) (hs : s.size ≤ maxLen) :
    Calls Try.prog 6 #[.string s] w fun e w' => e = .returned (.string (blockS s)) ∧ Below w.heap.size w w' := by
  unfold maxLen at hs
  by_cases h : 128 < s.size
  · have h' : decide (128 < (s.size : Int)) = true := decide_eq_true (by omega)
    go_enter Try.func6, Try.ntmps6
    go_wp2_with fail
    go_ret
    exact ⟨ret_str (by rw [blockS, if_pos h]), Below.refl _ _⟩
  · have h' : decide (128 < (s.size : Int)) = false := decide_eq_false (by omega)
    obtain ⟨k, hk⟩ : ∃ k, 128 - s.size = k := ⟨_, rfl⟩
    have hk' : (128 : Int) - s.size = k := by omega
    have hmk := make_row k (by omega)
    have hcv := conv_new w k k (zeros k) (by simp [zeros])
    have hz : (txt (zeros k)).size = k := by rw [txt_size]; simp [zeros]
    have HK := Lib.hid hk
    clear hk
    go_enter Try.func6, Try.ntmps6
    go_wp2_with fail
    go_ret
    exact ⟨ret_str (by rw [blockS, if_neg h, HK.out]), (Below.refl _ _).alloc (Nat.le_refl _) _⟩

/-- a slice of strings that reads as a list -/
def StrAt (w : World) (v : Value) (n : Nat) (bs : List ByteArray) : Prop :=
  bs.length = n ∧ ∃ g c cur, v = .slice (some ⟨g, 0, none⟩) n c ∧ n ≤ c ∧ Blk w g 9 cur ∧ cur.toList.take n = bs.map Value.string
theorem StrAt.only {w w' : World} {v : Value} {n : Nat} {bs : List ByteArray} {S : List Nat} (h : StrAt w v n bs) (ho : Only S w w') (hS : ∀ (g : Nat) (cs : Array Value), g ∈ S → Blk w g 9 cs → False) : StrAt w' v n bs := by
  obtain ⟨h1, g, c, cur, h2, h3, h4, h5⟩ := h
  exact ⟨h1, g, c, cur, h2, h3, h4.only ho (fun hm => hS g cur hm h4), h5⟩
theorem StrAt.below {w w' : World} {v : Value} {n : Nat} {bs : List ByteArray} (h : StrAt w v n bs) (hb : Below w.heap.size w w') : StrAt w' v n bs :=
  h.only (Only.of_below (S := []) hb) (fun _ _ h => by cases h)
theorem StrAt.at_ {w : World} {v : Value} {n : Nat} {bs : List ByteArray} (h : StrAt w v n bs) : ∃ g c, v = .slice (some ⟨g, 0, none⟩) n c ∧ n ≤ c ∧ g < w.heap.size ∧ ∀ i s, bs[i]? = some s → w.cell? ⟨g, i, none⟩ = some (.string s) := by
  obtain ⟨h1, g, c, cur, h2, h3, h4, h5⟩ := h
  refine ⟨g, c, h2, h3, h4.lt, fun i s hi => ?_⟩
  have hin : i < n := by rw [← h1]; exact (List.getElem?_eq_some_iff.1 hi).1
  have h6 : (cur.toList.take n)[i]? = some (.string s) := by rw [h5, List.getElem?_map, hi]; rfl
  rw [List.getElem?_take, if_pos hin] at h6
  rw [h4.cell, ← h6, Array.getElem?_toList]

theorem ret_si {a a' : ByteArray} {b b' : Int} (h1 : a = a') (h2 : b = b') : Ending.returned (.tuple #[.string a, .int .i64 b]) = Ending.returned (.tuple #[.string a', .int .i64 b']) := by rw [h1, h2]
/-- what the reference's Read tells -/
def refS (n : Nat) (bs : List ByteArray) (dn : Bool) (a : Int) : ByteArray := if readyE n dn a = 0 then bs.getD a.toNat ⟨#[]⟩ else ⟨#[]⟩
set_option maxHeartbeats 1000000 in
theorem refread_any (v cr : Value) (n wr : Nat) (dn : Bool) (bs : List ByteArray) (a : Int) (w : World) (h : StrAt w v n bs) (hn : n ≤ 4096) :
    Calls Try.prog 15 #[.agg #[v, cr, .int .i64 wr, .bool dn], .int .i64 a] w fun e w' =>
      e = .returned (.tuple #[.string (refS n bs dn a), .int .i64 (readyE n dn a)]) ∧ Below w.heap.size w w' := by
  have hlen := h.1
  obtain ⟨g, c, rfl, hc, hg, hcell⟩ := h.at_
  clear h
  cases dn
  · by_cases h1 : a < 0
    · have h1' : decide (a < 0) = true := decide_eq_true h1
      go_enter Try.func15, Try.ntmps15
      go_wp2_with fail
      go_ret2
      exact ⟨ret_si (a := ⟨#[]⟩) (b := 7) (by simp [refS, readyE, h1]) (by simp [readyE, h1]), (Below.refl _ _).alloc (Nat.le_refl _) _⟩
    · have h1' : decide (a < 0) = false := decide_eq_false h1
      by_cases h2 : (n : Int) ≤ a
      · have h2' : decide ((n : Int) ≤ a) = true := decide_eq_true h2
        go_enter Try.func15, Try.ntmps15
        go_wp2_with fail
        go_ret2
        exact ⟨ret_si (a := ⟨#[]⟩) (b := 7) (by simp [refS, readyE, h2]) (by simp [readyE, h2]), (Below.refl _ _).alloc (Nat.le_refl _) _⟩
      · have h2' : decide ((n : Int) ≤ a) = false := decide_eq_false h2
        obtain ⟨i, rfl⟩ : ∃ i : Nat, a = i := ⟨a.toNat, by omega⟩
        obtain ⟨s, hs⟩ : ∃ s, bs[i]? = some s := ⟨_, List.getElem?_eq_getElem (by omega)⟩
        have hci := hcell i s hs
        have HS := Lib.hid hs
        clear hcell hs hlen
        go_enter Try.func15, Try.ntmps15
        go_wp2_with fail
        go_ret2
        refine ⟨?_, (Below.refl _ _).alloc (Nat.le_refl _) _⟩
        have e0 : readyE n false (i : Int) = 0 := by simp [readyE]; omega
        exact ret_si (a := s) (b := 0) (by rw [refS, e0, if_pos rfl, Int.toNat_natCast, List.getD_eq_getElem?_getD, HS.out]; rfl) e0.symm
  · go_enter Try.func15, Try.ntmps15
    go_wp2_with fail
    go_ret2
    exact ⟨ret_si (a := ⟨#[]⟩) (b := 20) (by simp [refS, readyE]) (by simp [readyE]), (Below.refl _ _).alloc (Nat.le_refl _) _⟩
end Go.Proofs.Ytmjhomhganaceaa
