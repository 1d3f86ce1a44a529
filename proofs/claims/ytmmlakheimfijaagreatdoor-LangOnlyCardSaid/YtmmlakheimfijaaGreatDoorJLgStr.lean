/-
  Texts of numbers below 256 as Go's strings. Conditions: the numbers are bytes.
-/
import Derived.Test.YtmmlakheimfijaaGreatDoorJLgRefPl
import Derived.Test.YtmmlakheimfijaaGreatDoorJKit
namespace Go.Proofs.YtmmlakheimfijaaGreatDoor
set_option linter.unusedVariables false
set_option linter.unusedSimpArgs false

def u8L (t : List Nat) : List UInt8 := t.map UInt8.ofNat
def bsT (t : List Nat) : ByteArray := txt (u8L t)
theorem u8L_app (u v : List Nat) : u8L (u ++ v) = u8L u ++ u8L v := by simp [u8L]
theorem u8L_len (t : List Nat) : (u8L t).length = t.length := by simp [u8L]
theorem bsT_toList (t : List Nat) : (bsT t).toList = u8L t := txt_toList _
theorem bsT_size (t : List Nat) : (bsT t).size = t.length := by rw [bsT, txt_size, u8L_len]
theorem bsT_app (u v : List Nat) : bsT u ++ bsT v = bsT (u ++ v) := by rw [bsT, bsT, bsT, txt_append, u8L_app]
theorem bsT_nil : bsT [] = ⟨#[]⟩ := rfl
theorem u8_nat {b : Nat} (h : b < 256) : (UInt8.ofNat b).toNat = b := by
  rw [UInt8.toNat_ofNat']; omega
theorem u8_cell {b : Nat} (h : b < 256) : Value.int .u8 (((UInt8.ofNat b).toNat : Nat) : Int) = .int .u8 (b : Int) := by rw [u8_nat h]
theorem bytesLess_u8 : ∀ {u v : List Nat}, Bytes u → Bytes v → u.length = v.length → Op.bytesLess (u8L u) (u8L v) = slx.lexB u v
  | [], [], _, _, _ => rfl
  | a :: u, b :: v, hu, hv, hl => by
    have ha := hu a (by simp)
    have hb := hv b (by simp)
    have ih := bytesLess_u8 (u := u) (v := v) (fun c hc => hu c (by simp [hc])) (fun c hc => hv c (by simp [hc])) (by simpa using hl)
    show (decide (UInt8.ofNat a < UInt8.ofNat b) || (UInt8.ofNat a == UInt8.ofNat b && Op.bytesLess (u8L u) (u8L v))) = _
    rw [ih, slx.lexB]
    have e1 : decide (UInt8.ofNat a < UInt8.ofNat b) = decide (a < b) := by
      have : (UInt8.ofNat a < UInt8.ofNat b) ↔ a < b := by rw [UInt8.lt_iff_toNat_lt, u8_nat ha, u8_nat hb]
      simp [this]
    have e2 : (UInt8.ofNat a == UInt8.ofNat b) = decide (a = b) := by
      have : (UInt8.ofNat a = UInt8.ofNat b) ↔ a = b := by
        constructor
        · intro h
          have := congrArg UInt8.toNat h
          rwa [u8_nat ha, u8_nat hb] at this
        · rintro rfl; rfl
      by_cases e : a = b
      · subst e; simp
      · have e3 : ¬ UInt8.ofNat a = UInt8.ofNat b := fun h => e (this.1 h)
        simp [e, e3]
    rw [e1, e2]
theorem bsT_less {u v : List Nat} (hu : Bytes u) (hv : Bytes v) (hl : u.length = v.length) : Op.bytesLess (bsT u).toList (bsT v).toList = slx.lexB u v := by
  rw [bsT_toList, bsT_toList]; exact bytesLess_u8 hu hv hl
theorem u8L_inj : ∀ {u v : List Nat}, Bytes u → Bytes v → u8L u = u8L v → u = v
  | [], [], _, _, _ => rfl
  | [], b :: v, _, _, h => by simp [u8L] at h
  | a :: u, [], _, _, h => by simp [u8L] at h
  | a :: u, b :: v, hu, hv, h => by
    simp only [u8L, List.map_cons, List.cons.injEq] at h
    have h1 := congrArg UInt8.toNat h.1
    rw [u8_nat (hu a (by simp)), u8_nat (hv b (by simp))] at h1
    rw [h1, u8L_inj (fun c hc => hu c (by simp [hc])) (fun c hc => hv c (by simp [hc])) h.2]
theorem bsT_inj {u v : List Nat} (hu : Bytes u) (hv : Bytes v) (h : bsT u = bsT v) : u = v := by
  have := congrArg ByteArray.toList h
  rw [bsT_toList, bsT_toList] at this
  exact u8L_inj hu hv this
theorem bsT_bytes {t : List Nat} (ht : Bytes t) : bytesTo (bsT t) (bsT t).size = t := by
  rw [bsT_size]
  refine List.ext_getElem (by simp [bytesTo]) fun i h1 h2 => ?_
  simp only [bytesTo, List.getElem_map, List.getElem_range]
  have hb := ht _ (List.getElem_mem h2)
  have hs : i < (bsT t).size := by rw [bsT_size]; exact h2
  rw [byt, get_at _ _ hs]
  have : ((bsT t)[i]'hs) = UInt8.ofNat t[i] := by
    show (txt (u8L t)).data[i] = _
    simp [txt, u8L]
  rw [this, u8_nat hb]
theorem bsT_of (s : ByteArray) : bsT (bytesTo s s.size) = s := by
  have : u8L (bytesTo s s.size) = s.data.toList := by
    refine List.ext_getElem (by simp [u8L, bytesTo]) fun i h1 h2 => ?_
    have hs : i < s.size := by simpa using h2
    simp only [u8L, bytesTo, List.getElem_map, List.getElem_range, byt, get_at s i hs]
    rw [UInt8.ofNat_toNat]
    rfl
  rw [bsT, this, txt_data]
/-- equality of strings, as the program tells it -/
theorem bsT_eq {u v : List Nat} (hu : Bytes u) (hv : Bytes v) : ((bsT u).toList == (bsT v).toList) = decide (u = v) := by
  rw [bsT_toList, bsT_toList]
  by_cases e : u = v
  · subst e; simp
  · have e3 : ¬ u8L u = u8L v := fun h => e (u8L_inj hu hv h)
    simp [e, e3]

/-! the least bytes of the blocks -/
def firstsL (z : Nat → Int) (n : Nat) : List Nat := (List.range n).map (fbyte z)
theorem firstsL_len (z : Nat → Int) (n : Nat) : (firstsL z n).length = n := by simp [firstsL]
theorem firsts_new {z : Nat → Int} {wide : Nat} (h : BlkOk z wide) {j : Nat} (hj : j < 256) (hz : z j = Bl.top z j) : (Bl.top z (j + 1)).toNat = (Bl.top z j).toNat + 1 ∧ firstsL z (Bl.top z (j + 1)).toNat = firstsL z (Bl.top z j).toNat ++ [j] := by
  have h0 := ok_at h.ok hj
  have e1 : Bl.top z (j + 1) = Bl.top z j + 1 := by rw [Bl.top_succ, if_pos hz]
  have e2 : (Bl.top z (j + 1)).toNat = (Bl.top z j).toNat + 1 := by omega
  refine ⟨e2, ?_⟩
  rw [e2, firstsL, List.range_succ, List.map_append]
  show firstsL z _ ++ [fbyte z (Bl.top z j).toNat] = _
  congr 2
  have e3 : blkF z j = (Bl.top z j).toNat := by unfold blkF; rw [hz]
  have hk : blkF z j < wide := by
    have h1 := ok_lt h.ok hj
    have := h.wide
    unfold blkF; omega
  obtain ⟨h3, h4⟩ := fbyte_lt h hk
  have h5 := fbyte_le (z := z) hj
  rw [← e3]
  refine Nat.le_antisymm h5 (Nat.le_of_not_lt fun h6 => ?_)
  have h7 := ok_lt (Bl.okTo_of_le z (show j ≤ 256 by omega) h.ok) h6
  have h8 := ok_at h.ok (show fbyte z (blkF z j) < 256 by omega)
  rw [← hz] at h7
  unfold blkF at h4 h7 h8
  omega
theorem firsts_old {z : Nat → Int} {wide : Nat} (h : BlkOk z wide) {j : Nat} (hj : j < 256) (hz : z j ≠ Bl.top z j) : Bl.top z (j + 1) = Bl.top z j := by
  have h0 := ok_at h.ok hj
  rw [Bl.top_succ, if_neg (by omega)]
theorem firsts_byte {z : Nat → Int} {wide : Nat} (h : BlkOk z wide) : Bytes (firstsL z wide) := fun b hb => by
  obtain ⟨k, hk, rfl⟩ := List.mem_map.1 hb
  exact (fbyte_lt h (List.mem_range.1 hk)).1
end Go.Proofs.YtmmlakheimfijaaGreatDoor
