/-
  The builder's contracts over texts of numbers below 256. Conditions: the builder is the call's own; the texts are short.
-/
import Derived.Test.YtpknglbpbodnbaaDoorJAuShelf
import Derived.Test.YtpknglbpbodnbaaDoorJRgSets
import Derived.Lib.ItoaLen
namespace Go.Proofs.YtpknglbpbodnbaaDoor
set_option linter.unusedVariables false
set_option linter.unusedSimpArgs false
open Go.RowKit Go.Sort Cs Rg Go.ChangeShapes Go.WideShapes

theorem atF_below {T e : TypeId} {B b : Nat} {p : Value} {bs : List Value} {W W' : World} (h : Lib.BuilderAtF T e B b p bs W) (hb : Below W.heap.size W W') : Lib.BuilderAtF T e B b p bs W' := by
  have hlt := h.lt
  obtain ⟨hB, v, hv, hown, hne⟩ := h
  exact ⟨hB, v, (hb.block b hlt).trans hv, hown.kept (row := none) ⟨hb.os, hb.tape, hb.output, hb.size, fun k hk _ => hb.block k hk⟩ (Classical.em _), hne⟩
theorem isF_below {T e : TypeId} {B b : Nat} {bs : List Value} {W W' : World} (h : Lib.IsBuilderF T e B b bs W) (hb : Below W.heap.size W W') : Lib.IsBuilderF T e B b bs W' :=
  h.elim (fun x => .inl (atF_below x hb)) (fun x => .inr (atF_below x hb))
/-- the builder holds a text -/
def Bld (w : World) (b : Nat) (t : List Nat) : Prop := Lib.IsBuilderF 49 5 b b (Lib.byteCells (u8L t)) w
theorem Bld.lt {w : World} {b : Nat} {t : List Nat} (h : Bld w b t) : b < w.heap.size := h.elim (fun x => x.lt) (fun x => x.lt)
theorem Bld.below {w w' : World} {b : Nat} {t : List Nat} (h : Bld w b t) (hb : Below w.heap.size w w') : Bld w' b t := isF_below h hb
theorem Bld.new (w : World) : Bld (w.alloc (.cells #[.pointer none, .slice none 0 0] 49)) w.heap.size [] := Lib.IsBuilderF.of (Lib.fresh_isBuilder 49 5 w)
theorem cells_bs (t : List Nat) : Lib.strCells (bsT t) = Lib.byteCells (u8L t) := by
  rw [Lib.strCells_eq]
  rfl
theorem wstr_any (b : Nat) (t u : List Nat) (w : World) (h : Bld w b t) (hl : t.length + u.length ≤ 1000000000) :
    Calls Tryd.prog 22 #[.pointer (some ⟨b, 0, none⟩), .string (bsT u)] w fun e w' => e = .returned (.tuple #[.int .i64 (bsT u).size, .nilIface]) ∧ Bld w' b (t ++ u) ∧ Below b w w' ∧ Lib.OthersKept 5 (some b) w w' := by
  refine (Builder_WriteString_k b b _ (bsT u) w h (by rw [Lib.byteCells_length, u8L_len, bsT_size]; omega) (Nat.le_of_lt h.lt)).mono ?_
  rintro e w1 ⟨rfl, h1, b1, k1⟩
  refine ⟨rfl, .inr ?_, b1, k1⟩
  rw [cells_bs, ← Lib.byteCells_append, ← u8L_app] at h1
  exact h1
theorem wbyte_any (b : Nat) (t : List Nat) (c : Nat) (w : World) (h : Bld w b t) (hc : c < 256) (hl : t.length ≤ 1000000000) :
    Calls Tryd.prog 21 #[.pointer (some ⟨b, 0, none⟩), .int .u8 (c : Int)] w fun e w' => e = .returned .nilIface ∧ Bld w' b (t ++ [c]) ∧ Below b w w' ∧ Lib.OthersKept 5 (some b) w w' := by
  refine (Builder_WriteByte_k b b _ (c : Int) w h (by rw [Lib.byteCells_length, u8L_len]; omega) (Nat.le_of_lt h.lt)).mono ?_
  rintro e w1 ⟨rfl, h1, b1, k1⟩
  refine ⟨rfl, .inr ?_, b1, k1⟩
  rw [u8L_app, Lib.byteCells_append]
  have e2 : Lib.byteCells (u8L [c]) = [Value.int .u8 (c : Int)] := by
    show [Value.int .u8 (((UInt8.ofNat c).toNat : Nat) : Int)] = _
    rw [u8_nat hc]
  rw [e2]
  exact h1
theorem wtext_any (b : Nat) (t : List Nat) (w : World) (h : Bld w b t) :
    Calls Tryd.prog 23 #[.pointer (some ⟨b, 0, none⟩)] w fun e w' => e = .returned (.string (bsT t)) ∧ Bld w' b t ∧ Below b w w' ∧ Lib.OthersKept 5 (some b) w w' :=
  (Builder_String_any_k b b _ w h (Nat.le_of_lt h.lt)).mono fun e w' ⟨h1, h2⟩ => ⟨h1, h2⟩
set_option maxHeartbeats 8000000 in
set_option maxRecDepth 1000000 in
theorem wlen_any (b : Nat) (t : List Nat) (w : World) (h : Bld w b t) (hl : t.length ≤ 1000000000) :
    Calls Tryd.prog 20 #[.pointer (some ⟨b, 0, none⟩)] w fun e w' => e = .returned (.int .i64 (t.length : Int)) ∧ w' = w := by
  obtain ⟨p, hB, v, hbk, hown, hne⟩ : ∃ p, Lib.BuilderAtF 49 5 b b p (Lib.byteCells (u8L t)) w := by
    rcases h with h | h
    · exact ⟨_, h⟩
    · exact ⟨_, h⟩
  rw [Lib.byteCells_length, u8L_len] at hown
  obtain ⟨ao, cap, rfl⟩ : ∃ ao cap, v = .slice ao t.length cap := by
    rcases hown.2 with ⟨hv, h0⟩ | ⟨g, cap, cur, fz, hv, _⟩
    · exact ⟨none, 0, by rw [hv, h0]⟩
    · exact ⟨_, _, hv⟩
  have c1 : w.cell? ⟨b, 1, none⟩ = some (.slice ao t.length cap) := by rw [Lib.cell_of_heap hbk]; rfl
  clear hown hne hbk
  go_enter Tryd.func20, Tryd.ntmps20
  go_wp2_with fail
  go_ret
  exact ⟨rfl, rfl⟩
end Go.Proofs.YtpknglbpbodnbaaDoor
