/-
  Texts of numbers below 256 as Go's strings. Conditions: the numbers are bytes.
-/
import Derived.Test.YtpknglbpbodnbaaDoorJRgText
import Derived.Test.YtpknglbpbodnbaaDoorJKit
import Derived.Test.YtpknglbpbodnbaaDoorJRgShelf
namespace Go.Proofs.YtpknglbpbodnbaaDoor
set_option linter.unusedVariables false
set_option linter.unusedSimpArgs false
namespace Rg
def u8L (t : List Nat) : List UInt8 := t.map UInt8.ofNat
def bsT (t : List Nat) : ByteArray := txt (u8L t)
theorem u8L_app (u v : List Nat) : u8L (u ++ v) = u8L u ++ u8L v := by simp [u8L]
theorem u8L_len (t : List Nat) : (u8L t).length = t.length := by simp [u8L]
theorem bsT_toList (t : List Nat) : (bsT t).toList = u8L t := txt_toList _
theorem bsT_size (t : List Nat) : (bsT t).size = t.length := by rw [bsT, txt_size, u8L_len]
theorem bsT_app (u v : List Nat) : bsT u ++ bsT v = bsT (u ++ v) := by rw [bsT, bsT, bsT, txt_append, u8L_app]
theorem bsT_nil : bsT [] = ⟨#[]⟩ := rfl
theorem u8_nat {b : Nat} (h : b < 256) : (UInt8.ofNat b).toNat = b := by
  rw [UInt8.toNat_ofNat']; omega
theorem u8_cell {b : Nat} (h : b < 256) : Value.int .u8 (((UInt8.ofNat b).toNat : Nat) : Int) = .int .u8 (b : Int) := by rw [u8_nat h]
theorem u8L_inj : ∀ {u v : List Nat}, BytesL u → BytesL v → u8L u = u8L v → u = v
  | [], [], _, _, _ => rfl
  | [], b :: v, _, _, h => by simp [u8L] at h
  | a :: u, [], _, _, h => by simp [u8L] at h
  | a :: u, b :: v, hu, hv, h => by
    simp only [u8L, List.map_cons, List.cons.injEq] at h
    have h1 := congrArg UInt8.toNat h.1
    rw [u8_nat (hu a (by simp)), u8_nat (hv b (by simp))] at h1
    rw [h1, u8L_inj (fun c hc => hu c (by simp [hc])) (fun c hc => hv c (by simp [hc])) h.2]
theorem bsT_inj {u v : List Nat} (hu : BytesL u) (hv : BytesL v) (h : bsT u = bsT v) : u = v := by
  have := congrArg ByteArray.toList h
  rw [bsT_toList, bsT_toList] at this
  exact u8L_inj hu hv this
/-- a string's bytes -/
def natsOf (s : ByteArray) : List Nat := s.data.toList.map UInt8.toNat
theorem natsOf_bytes (s : ByteArray) : BytesL (natsOf s) := fun b hb => by
  obtain ⟨c, _, rfl⟩ := List.mem_map.1 hb
  exact c.toNat_lt
theorem natsOf_len (s : ByteArray) : (natsOf s).length = s.size := by unfold natsOf; rw [List.length_map]; rfl
theorem u8_back (l : List UInt8) : u8L (l.map UInt8.toNat) = l := by
  induction l with
  | nil => rfl
  | cons c l ih =>
    simp only [u8L, List.map_cons] at ih ⊢
    rw [ih, UInt8.ofNat_toNat]
theorem bsT_of (s : ByteArray) : bsT (natsOf s) = s := by rw [bsT, natsOf, u8_back, txt_data]
theorem nats_u8 : ∀ {t : List Nat}, BytesL t → (u8L t).map UInt8.toNat = t
  | [], _ => rfl
  | a :: t, ht => by
    have h1 := ht a (List.mem_cons_self ..)
    have h2 := nats_u8 (t := t) fun b hb => ht b (List.mem_cons_of_mem _ hb)
    show (UInt8.ofNat a).toNat :: (u8L t).map UInt8.toNat = _
    rw [h2, u8_nat h1]
theorem bsT_nats {t : List Nat} (ht : BytesL t) : natsOf (bsT t) = t := nats_u8 ht
theorem natsOf_at {s : ByteArray} {i : Nat} (h : i < s.size) : (natsOf s)[i]? = some (s[i]'h).toNat := by
  unfold natsOf
  rw [List.getElem?_map, List.getElem?_eq_getElem (show i < s.data.toList.length from h)]
  rfl
/-- equality of strings, as the program tells it -/
theorem bsT_eq {u v : List Nat} (hu : BytesL u) (hv : BytesL v) : ((bsT u).toList == (bsT v).toList) = decide (u = v) := by
  rw [bsT_toList, bsT_toList]
  by_cases e : u = v
  · subst e; simp
  · have e3 : ¬ u8L u = u8L v := fun h => e (u8L_inj hu hv h)
    simp [e, e3]


/-- a rune below 128 is one byte -/
theorem enc_one {b : Nat} (h : b < 128) : Utf8.encode (b : Int) = bsT [b] := by
  unfold Utf8.encode
  have hv : Utf8.valid (b : Int) = true := by
    unfold Utf8.valid
    simp
    omega
  simp only [hv, if_true, Int.toNat_natCast]
  rw [if_pos h]
  rfl
theorem index_u8 {b : Nat} (hb : b < 256) : ∀ {l : List Nat}, BytesL l → (0 ≤ Lib.indexByte (u8L l) (UInt8.ofNat b) ↔ b ∈ l)
  | [], _ => by simp [u8L, Lib.indexByte]
  | a :: l, hl => by
    have ha := hl a (List.mem_cons_self ..)
    have ih := index_u8 hb (l := l) fun c hc => hl c (List.mem_cons_of_mem _ hc)
    have hg := Lib.indexByte_ge (u8L l) (UInt8.ofNat b)
    have hab : (UInt8.ofNat a == UInt8.ofNat b) = decide (a = b) := by
      by_cases e : a = b
      · subst e; simp
      · have e3 : ¬ UInt8.ofNat a = UInt8.ofNat b := fun h => e (by
          have := congrArg UInt8.toNat h
          rwa [u8_nat ha, u8_nat hb] at this)
        simp [e, e3]
    show 0 ≤ (if (UInt8.ofNat a == UInt8.ofNat b) = true then 0 else if (Lib.indexByte (u8L l) (UInt8.ofNat b) == -1) = true then -1 else Lib.indexByte (u8L l) (UInt8.ofNat b) + 1) ↔ _
    rw [hab, List.mem_cons]
    generalize Lib.indexByte (u8L l) (UInt8.ofNat b) = x at *
    by_cases e : a = b
    · subst e
      simp
    · rw [decide_eq_false e, if_neg (by decide), ← ih]
      have hne : ¬ b = a := fun h => e h.symm
      by_cases h1 : x = -1
      · rw [if_pos (by simp [h1])]
        constructor
        · intro h; omega
        · rintro (h | h)
          · exact (hne h).elim
          · omega
      · rw [if_neg (by simp [h1])]
        constructor
        · intro h; right; omega
        · rintro (h | h)
          · exact (hne h).elim
          · omega
theorem index_ge {l : List Nat} (hl : BytesL l) {b : Nat} (hb : b < 256) : decide (0 ≤ Lib.indexByte (bsT l).data.toList ((b : Int).toNat.toUInt8)) = decide (b ∈ l) := by
  rw [decide_eq_decide]
  exact index_u8 hb hl
end Rg
end Go.Proofs.YtpknglbpbodnbaaDoor
