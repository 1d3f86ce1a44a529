/-
  The walk of the package's Text: it writes 'qtext'. Conditions: the text is short; the tables of unicode/utf8 lie as laid.
-/
import Derived.Test.YtgdfklgbdfpinaaDoorQuUnits
import Derived.WalkKit
import Derived.BigCall
namespace Go.Proofs.YtgdfklgbdfpinaaDoor
set_option linter.unusedVariables false
open Go.RowKit Go.Sort

theorem atF_below {T e : TypeId} {B b : Nat} {p : Value} {bs : List Value} {W W' : World} (h : Lib.BuilderAtF T e B b p bs W) (hb : Below W.heap.size W W') : Lib.BuilderAtF T e B b p bs W' := by
  have hlt := h.lt
  obtain ⟨hB, v, hv, hown, hne⟩ := h
  exact ⟨hB, v, (hb.block b hlt).trans hv, hown.kept (row := none) ⟨hb.os, hb.tape, hb.output, hb.size, fun k hk _ => hb.block k hk⟩ (Classical.em _), hne⟩
theorem isF_below {T e : TypeId} {B b : Nat} {bs : List Value} {W W' : World} (h : Lib.IsBuilderF T e B b bs W) (hb : Below W.heap.size W W') : Lib.IsBuilderF T e B b bs W' :=
  h.elim (fun x => .inl (atF_below x hb)) (fun x => .inr (atF_below x hb))
theorem strCells_part (s : ByteArray) (a b : Nat) : Lib.strCells (s.extract a b) = Lib.byteCells ((s.data.toList.drop a).take (b - a)) := by
  rw [Lib.strCells_eq, extract_txt, txt_list]
theorem mark_cells (c : Nat) (h : c < 128) : Lib.runeCells (c : Int) = Lib.byteCells [UInt8.ofNat c] := by
  have : Lib.encodeRuneZ (c : Int) = [(c : Int)] := Lib.encodeRuneZ_one (by omega) (by omega)
  simp only [Lib.runeCells, this, Lib.byteCells, List.map_cons, List.map_nil]
  congr 2
  rw [UInt8.toNat_ofNat']
  omega
theorem get_ofNat (s : ByteArray) (i : Nat) : s.get! i = UInt8.ofNat (byt s i) := by simp [byt]
def hexs : ByteArray := ⟨#[48, 49, 50, 51, 52, 53, 54, 55, 56, 57, 97, 98, 99, 100, 101, 102]⟩
theorem hexs_at : ∀ k : Fin 16, hexs[k.1]'k.2 = hexd k.1 := by decide

theorem hex_cells (k : Nat) (hk : k < 16) : ([Value.int .u8 ((hexs[k]'hk).toNat : Int)] : List Value) = Lib.byteCells [hexd k] := by
  have := hexs_at ⟨k, hk⟩
  rw [this]
  rfl
theorem body_step (s : ByteArray) (pos fuel : Nat) (h : pos < s.size) : body s (fuel + 1) pos = unitText s pos ++ body s fuel (pos + unit s pos) := by rw [body, if_pos h]

theorem plain_lit (c n : Int) (T : Bool) (w : World) (h : decide (32 ≤ c ∧ c ≠ 127 ∧ (c ≠ 65533 ∨ 1 < n)) = T) :
    Calls Tryd.prog 57 #[.int .i32 c, .int .i64 n] w fun e w' => e = .returned (.bool T) ∧ w' = w := by
  subst h
  exact plain_any c n w

set_option maxHeartbeats 4000000 in
set_option maxRecDepth 1000000 in
theorem text_any (s : ByteArray) (w : World) (hs : s.size ≤ 1000000) (hT : Lib.Utf8Tabs 0 1 w) :
    Calls Tryd.prog 38 #[.string s] w fun e w' => e = .returned (.string (txt (qtext s))) ∧ Below w.heap.size w w' := by
  have HT := Lib.hid hT
  clear hT
  have hmax : s.size ≤ maxLen := by unfold maxLen; omega
  go_enter Tryd.func38, Tryd.ntmps38
  go_wp2_with (go_at_call 54; refine (Builder_WriteByte_k w.heap.size w.heap.size [] 34 _ (Lib.IsBuilderF.of (Lib.fresh_isBuilder 65 5 w)) (by simp) (by simp)).mono ?_)
  rintro e W1 ⟨rfl, h1, b1, k1⟩
  have hz1 : w.heap.size < W1.heap.size := h1.lt
  have f1 : Lib.IsBuilderF 65 5 w.heap.size w.heap.size (Lib.byteCells [34]) W1 := Or.inr h1
  have bw1 : Below w.heap.size w W1 := ((Below.refl _ w).alloc (Nat.le_refl _) _).trans b1
  clear h1 k1 b1
  go_wp2_with fail
  go_loopw [] (fun wr => ∃ (pos fuel : Nat) (acc : List UInt8), Lib.IsBuilderF 65 5 w.heap.size w.heap.size (Lib.byteCells acc) wr ∧ wr.heap[W1.heap.size]? = some (.stringIter s pos) ∧ Below w.heap.size w wr ∧ Hid (acc ++ (body s fuel pos ++ [34]) = qtext s) ∧ s.size ≤ pos + fuel ∧ pos ≤ s.size ∧ acc.length ≤ 4 * pos + 1) (fun wr => s.size - wr.iterPos W1.heap.size)
  case atStart =>
    refine ⟨0, s.size, [34], f1.alloc _, ?_, bw1.alloc (by omega) _, Lib.hid (by simp [qtext]), by omega, by omega, by simp⟩
    have := World.iter_heap W1 s 0
    simpa using this
  case round =>
    obtain ⟨pos, fuel, acc, hI, hit, hbw, hacc, hfu, hpl, hal⟩ := hrel
    have hsz : W1.heap.size < wr.heap.size := (Array.getElem?_eq_some_iff.1 hit).1
    by_cases hp : pos < s.size
    · have hnx : ∀ ty, (Instr.next (.pointer (some ⟨W1.heap.size, 0, none⟩)) true ty).run Tryd.prog wr = _ := fun ty => Lib.run_next_any_at wr W1.heap.size s pos ty hit hp
      have hI2 := hI.iterAt hit (pos + (Utf8.decode s pos).2)
      have hit2 := Lib.iterAt_heap wr W1.heap.size s pos (pos + (Utf8.decode s pos).2) hit
      have hbw2 := Lib.below_iterAt hbw (k := W1.heap.size) (by omega) s (pos + (Utf8.decode s pos).2)
      have hsz2 : W1.heap.size < (wr.iterAt W1.heap.size s (pos + (Utf8.decode s pos).2)).heap.size := by rw [Lib.iterAt_size]; omega
      have hu1 := unit_pos s pos
      have hu2 := unit_le s pos hp
      have HUI := Lib.hid (unitI_nat s pos hp)
      have hsafe := safe_dec s pos hp
      have hm34 := mark_dec s pos hp 34 (by omega)
      have hm92 := mark_dec s pos hp 92 (by omega)
      rw [unit_dec s pos hp] at hnx hI2 hit2 hbw2 hsz2 hsafe
      have HS := Lib.hid hsafe
      have H34 := Lib.hid hm34
      have H92 := Lib.hid hm92
      have HL := Lib.hid (unitText_len s pos hp)
      clear hsafe hm34 hm92
      obtain ⟨R, hR⟩ : ∃ R, (Utf8.decode s pos).1 = R := ⟨_, rfl⟩
      rw [hR] at hnx HS H34 H92
      obtain ⟨f, rfl⟩ : ∃ f, fuel = f + 1 := ⟨fuel - 1, by omega⟩
      have HB := Lib.hid (body_step s pos f hp)
      have hT2 := Utf8Tabs_below HT.out hbw2
      go_wp2_with (go_at_call 55; refine (unit_any s pos _ hmax hT2).mono ?_)
      rintro e W2 ⟨rfl, b2⟩
      rw [HUI.out]
      have hI3 := isF_below hI2 b2
      have hit3 := (b2.block _ hsz2).trans hit2
      have hbw3 := hbw2.trans (b2.mono hbw2.size)
      have hsz3 : W1.heap.size < W2.heap.size := (Array.getElem?_eq_some_iff.1 hit3).1
      clear hI2 hit2 hbw2 hsz2 hT2 b2 hI hbw hnx
      have hal4 := hal
      by_cases hm : byt s pos = 34 ∨ byt s pos = 92
      · have hut : unitText s pos = [92, UInt8.ofNat (byt s pos)] := by unfold unitText; rw [if_pos hm, get_ofNat]
        have HU := Lib.hid hut
        have hRb : R = byt s pos := by
          rcases hm with h | h
          · rw [h]; exact H34.out.2 h
          · rw [h]; exact H92.out.2 h
        have HRB := Lib.hid hRb
        clear hut hRb
        rcases hm with h | h
        · obtain rfl : R = 34 := HRB.out.trans h
          go_wp2_with (go_at_call 54; refine (Builder_WriteByte_k w.heap.size w.heap.size _ 92 _ hI3 (by rw [Lib.byteCells_length]; omega) (by omega)).mono ?_)
          rintro e W3 ⟨rfl, h3, b3, k3⟩
          have hz3 : w.heap.size < W3.heap.size := h3.lt
          go_wp2_with (go_at_call 56; refine (Builder_WriteRune_k w.heap.size w.heap.size _ 34 (by omega) (by omega) _ (Or.inr h3) (by rw [List.length_append, Lib.byteCells_length]; simp; omega) (by omega)).mono ?_)
          rintro e W4 ⟨rfl, h4, b4, k4⟩
          go_wp2_with fail
          have k5 := (k3.trans k4).iter hit3 (by omega)
          refine ⟨⟨pos + unit s pos, f, acc ++ unitText s pos, ?_, k5, (hbw3.trans b3).trans b4, Lib.hid (by rw [← hacc, HB.out]; simp [List.append_assoc]), by omega, by omega, by have := HL.out; rw [List.length_append]; omega⟩, ?_⟩
          · refine Or.inr ?_
            rw [HU.out, ← HRB.out, Lib.byteCells_append]
            have e34 := mark_cells 34 (by omega)
            rw [show ([92, UInt8.ofNat 34] : List UInt8) = [92] ++ [UInt8.ofNat 34] from rfl, Lib.byteCells_append, ← e34, ← List.append_assoc]
            exact h4
          · simp only [World.iterPos, k5, hit]
            omega
        · obtain rfl : R = 92 := HRB.out.trans h
          go_wp2_with (go_at_call 54; refine (Builder_WriteByte_k w.heap.size w.heap.size _ 92 _ hI3 (by rw [Lib.byteCells_length]; omega) (by omega)).mono ?_)
          rintro e W3 ⟨rfl, h3, b3, k3⟩
          have hz3 : w.heap.size < W3.heap.size := h3.lt
          go_wp2_with (go_at_call 56; refine (Builder_WriteRune_k w.heap.size w.heap.size _ 92 (by omega) (by omega) _ (Or.inr h3) (by rw [List.length_append, Lib.byteCells_length]; simp; omega) (by omega)).mono ?_)
          rintro e W4 ⟨rfl, h4, b4, k4⟩
          go_wp2_with fail
          have k5 := (k3.trans k4).iter hit3 (by omega)
          refine ⟨⟨pos + unit s pos, f, acc ++ unitText s pos, ?_, k5, (hbw3.trans b3).trans b4, Lib.hid (by rw [← hacc, HB.out]; simp [List.append_assoc]), by omega, by omega, by have := HL.out; rw [List.length_append]; omega⟩, ?_⟩
          · refine Or.inr ?_
            rw [HU.out, ← HRB.out, Lib.byteCells_append]
            have e92 := mark_cells 92 (by omega)
            rw [show ([92, UInt8.ofNat 92] : List UInt8) = [92] ++ [UInt8.ofNat 92] from rfl, Lib.byteCells_append, ← e92, ← List.append_assoc]
            exact h4
          · simp only [World.iterPos, k5, hit]
            omega
      · have h34 : ((R : Int) == 34) = false := beq_eq_false_iff_ne.2 fun h => hm (.inl (H34.out.1 (by omega)))
        have h92 : ((R : Int) == 92) = false := beq_eq_false_iff_ne.2 fun h => hm (.inr (H92.out.1 (by omega)))
        by_cases hsf : safeB s pos = true
        · have hut : unitText s pos = (s.data.toList.drop pos).take (pos + unit s pos - pos) := by unfold unitText; rw [if_neg hm, if_pos hsf, Nat.add_sub_cancel_left]
          have HU := Lib.hid hut
          have HP : Hid (decide (32 ≤ (R : Int) ∧ (R : Int) ≠ 127 ∧ ((R : Int) ≠ 65533 ∨ 1 < ((unit s pos : Nat) : Int))) = true) := Lib.hid (by rw [← hsf, HS.out]; exact decide_eq_decide.2 (by omega))
          clear hut hm
          have hxs : (s.extract pos (pos + unit s pos)).size ≤ 1000000 := by rw [ByteArray.size_extract]; omega
          go_wp2_with (first | (go_at_call 57; refine (plain_lit _ _ _ _ HP.out).mono ?_; rintro e w' ⟨rfl, rfl⟩) | (go_at_call 37; refine (Builder_WriteString_k w.heap.size w.heap.size _ (s.extract pos (pos + unit s pos)) _ hI3 (by rw [Lib.byteCells_length]; omega) (by omega)).mono ?_))
          rintro e W3 ⟨rfl, h3, b3, k3⟩
          go_wp2_with fail
          have k5 := k3.iter hit3 (by omega)
          refine ⟨⟨pos + unit s pos, f, acc ++ unitText s pos, ?_, k5, hbw3.trans b3, Lib.hid (by rw [← hacc, HB.out]; simp [List.append_assoc]), by omega, by omega, by have := HL.out; rw [List.length_append]; omega⟩, ?_⟩
          · refine Or.inr ?_
            rw [HU.out, Lib.byteCells_append, ← strCells_part]
            exact h3
          · simp only [World.iterPos, k5, hit]
            omega
        · have hut : unitText s pos = [92, 120, hexd (byt s pos / 16), hexd (byt s pos % 16)] := by unfold unitText; rw [if_neg hm, if_neg hsf]
          have HU := Lib.hid hut
          have HP : Hid (decide (32 ≤ (R : Int) ∧ (R : Int) ≠ 127 ∧ ((R : Int) ≠ 65533 ∨ 1 < ((unit s pos : Nat) : Int))) = false) := Lib.hid (by rw [Bool.not_eq_true] at hsf; rw [← hsf, HS.out]; exact decide_eq_decide.2 (by omega))
          clear hut hm
          have hbt := byt_at s pos hp
          obtain ⟨d, hd⟩ : ∃ d, s[pos]'hp = d := ⟨_, rfl⟩
          rw [hd] at hbt
          have HBT := Lib.hid hbt
          clear hbt
          have hd0 : d.toNat < 256 := d.toNat_lt
          go_wp2_with (first | (go_at_call 57; refine (plain_lit _ _ _ _ HP.out).mono ?_; rintro e w' ⟨rfl, rfl⟩) | (go_at_call 37; refine (Builder_WriteString_k w.heap.size w.heap.size _ ⟨#[92, 120]⟩ _ hI3 (by rw [Lib.byteCells_length]; show acc.length + 2 ≤ _; omega) (by omega)).mono ?_))
          rintro e W3 ⟨rfl, h3, b3, k3⟩
          have hz3 : w.heap.size < W3.heap.size := h3.lt
          go_wp2_with (go_at_call 54; refine (Builder_WriteByte_k w.heap.size w.heap.size _ _ _ (Or.inr h3) (by rw [List.length_append, Lib.byteCells_length, Lib.strCells_length]; show acc.length + 2 + 1 ≤ _; omega) (by omega)).mono ?_)
          rintro e W4 ⟨rfl, h4, b4, k4⟩
          have hz4 : w.heap.size < W4.heap.size := h4.lt
          go_wp2_with (go_at_call 54; refine (Builder_WriteByte_k w.heap.size w.heap.size _ _ _ (Or.inr h4) (by rw [List.length_append, List.length_append, Lib.byteCells_length, Lib.strCells_length]; show acc.length + 2 + 1 + 1 ≤ _; omega) (by omega)).mono ?_)
          rintro e W5 ⟨rfl, h5, b5, k5⟩
          go_wp2_with fail
          have k6 := ((k3.trans k4).trans k5).iter hit3 (by omega)
          refine ⟨⟨pos + unit s pos, f, acc ++ unitText s pos, ?_, k6, ((hbw3.trans b3).trans b4).trans b5, Lib.hid (by rw [← hacc, HB.out]; simp [List.append_assoc]), by omega, by omega, by have := HL.out; rw [List.length_append]; omega⟩, ?_⟩
          · refine Or.inr ?_
            rw [HU.out, ← HBT.out, show ([92, 120, hexd (d.toNat / 16), hexd (d.toNat % 16)] : List UInt8) = ([92, 120] ++ [hexd (d.toNat / 16)]) ++ [hexd (d.toNat % 16)] from rfl, Lib.byteCells_append, Lib.byteCells_append, Lib.byteCells_append, ← hex_cells _ (by omega), ← hex_cells _ (by omega), ← List.append_assoc, ← List.append_assoc]
            exact h5
          · simp only [World.iterPos, k6, hit]
            omega
    · have hnx : ∀ ty, (Instr.next (.pointer (some ⟨W1.heap.size, 0, none⟩)) true ty).run Tryd.prog wr = _ := fun ty => Lib.run_next_end_at wr W1.heap.size s pos ty hit hp
      have e0 := body_end s fuel pos hp
      have HQ := Lib.hid hacc
      clear hacc
      go_wp2_with (go_at_call 54; refine (Builder_WriteByte_k w.heap.size w.heap.size _ 34 _ hI (by rw [Lib.byteCells_length]; omega) (by omega)).mono ?_)
      rintro e W2 ⟨rfl, h2, b2, k2⟩
      have hz2 : w.heap.size < W2.heap.size := h2.lt
      have h2' : Lib.IsBuilderF 65 5 w.heap.size w.heap.size (Lib.byteCells (acc ++ [34])) W2 := by
        rw [Lib.byteCells_append]
        exact Or.inr h2
      go_wp2_with (go_at_call 39; refine (Builder_String_any_k w.heap.size w.heap.size (acc ++ [34]) _ h2' (by omega)).mono ?_)
      rintro e W3 ⟨rfl, _, b3, _⟩
      go_wp2_with fail
      go_ret
      refine ⟨ret_str ?_, (hbw.trans b2).trans b3⟩
      rw [← HQ.out, e0]
      rfl
end Go.Proofs.YtgdfklgbdfpinaaDoor
