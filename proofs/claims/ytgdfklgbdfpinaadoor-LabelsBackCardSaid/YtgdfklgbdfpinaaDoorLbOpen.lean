/-
  The arguments opened: labels in memory; the tables of unicode/utf8 from the row's condition. Conditions: none but what each says.
-/
import Derived.Test.YtgdfklgbdfpinaaDoorLbWorks
import Derived.Test.YtgdfklgbdfpinaaDoorRows
import Derived.Lib.LaidU8
namespace Go.Proofs.YtgdfklgbdfpinaaDoor
set_option linter.unusedVariables false
open Go.RowKit Go.Sort Go.ChangeShapes Go.WideShapes

theorem u8extra : U8Extra Tryd.prog lays260_ren := {
  n3 := by kernel_rfl
  n4 := by kernel_rfl
  y3 := by kernel_rfl
  y4 := by kernel_rfl
  c5 := by kernel_rfl
  c119 := by kernel_rfl
  c138 := by kernel_rfl }
theorem first_same : Rows.laid_unicode_utf8_first = Lib.firstData := by kernel_rfl
theorem accept_same : (Rows.laid_unicode_utf8_acceptRanges : DataW Unit) = Lib.acceptData := by kernel_rfl
theorem tabs_in {W : World} {l : List (String × DataW Unit)} (h : laidMet Tryd.prog l W) (hl : l = [("unicode/utf8.acceptRanges", Rows.laid_unicode_utf8_acceptRanges), ("unicode/utf8.first", Rows.laid_unicode_utf8_first)]) : Lib.Utf8Tabs 0 1 W := by
  subst hl
  have h3 := Lib.laidMet.reads h (n := "unicode/utf8.first") (d := Rows.laid_unicode_utf8_first) (by simp)
  have h4 := Lib.laidMet.reads h (n := "unicode/utf8.acceptRanges") (d := Rows.laid_unicode_utf8_acceptRanges) (by simp)
  rw [first_same] at h3
  rw [accept_same] at h4
  exact utf8Tabs_of_reads lays260 u8extra h3 h4

theorem isLab_of {W : World} {H : Type} {enc : TypeId × Value → H} {base : Nat} {held : Bool} {a : Option Addr} {len cap : Nat} {d : DataW H} {ps : List MemPlace}
    (h : DataW.Trod enc Tryd.prog W base (fun _ => true) held 22 (.slice a len cap) d ps) : ∃ l : List Lab, l.length = len ∧ IsLab W W.heap.size a l ∧ ∀ x ∈ l, x.1.size ≤ maxLen ∧ x.2.size ≤ maxLen := by
  obtain ⟨h1, h2, h3⟩ := open_recs Tryd.underlying22 Tryd.underlying42 (by kernel_rfl) (by kernel_rfl) (by decide) h
  rcases h3 with rfl | ⟨b, off, rfl, hb, hf⟩
  · exact ⟨[], rfl, .inl rfl, fun x hx => by cases hx⟩
  · obtain ⟨cs, hl, hr⟩ := list_of len (fun i (x : Lab) => (W.cell? ⟨b, off + i * 2, none⟩ = some (.string x.1) ∧ W.cell? ⟨b, off + i * 2 + 1, none⟩ = some (.string x.2)) ∧ x.1.size ≤ maxLen ∧ x.2.size ≤ maxLen) (fun i hi => by
      obtain ⟨v0, y0, n0, c0, t0⟩ := hf i hi 0 _ rfl
      obtain ⟨v1, y1, n1, c1, t1⟩ := hf i hi 1 _ rfl
      obtain ⟨z0, e0, -, w0⟩ := DataW.trod_string Tryd.underlying9 t0
      obtain ⟨z1, e1, -, w1⟩ := DataW.trod_string Tryd.underlying9 t1
      simp at e0 e1
      subst e0 e1
      exact ⟨(z0, z1), ⟨c0, c1⟩, w0, w1⟩)
    refine ⟨cs, hl, .inr ⟨b, off, rfl, hb, fun j x hj => (hr j x hj).1⟩, fun x hx => ?_⟩
    obtain ⟨j, hj⟩ := List.getElem?_of_mem hx
    exact (hr j x hj).2
/-- the slice that came in: its length -/
theorem labs_len {W : World} {H : Type} {enc : TypeId × Value → H} {base : Nat} {held : Bool} {a : Option Addr} {len cap : Nat} {d : DataW H} {ps : List MemPlace}
    (h : DataW.Trod enc Tryd.prog W base (fun _ => true) held 22 (.slice a len cap) d ps) : len ≤ maxLen := by
  obtain ⟨q1, q2, _⟩ := open_recs Tryd.underlying22 Tryd.underlying42 (by kernel_rfl) (by kernel_rfl) (by decide) h
  omega
set_option maxRecDepth 100000 in
theorem open_str {H : Type} {enc : TypeId × Value → H} {W : World} {base : Nat} {sp : Nat → Bool} {held : Bool} {v : Value} {d : DataW H} {ps : List MemPlace} {b0 : Nat} {r : Reach}
    (hv : Value.okWide Tryd.prog W r b0 9 v) (h : DataW.Trod enc Tryd.prog W base sp held 9 v d ps) : ∃ s, v = .string s ∧ s.size ≤ maxLen := by
  obtain ⟨s, h1, h2, h3, hs⟩ := Go.ChangeMaps.open_string Tryd.underlying9 hv h
  exact ⟨s, h1, hs⟩
theorem greatB_small {l : List Lab} (h : greatB l = false) : Small l := by
  rw [greatB, Bool.or_eq_false_iff] at h
  obtain ⟨h1, h2⟩ := h
  have h1' := of_decide_eq_false h1
  refine ⟨by omega, fun x hx => ?_⟩
  have h3 := List.any_eq_false.1 h2 x hx
  rw [bigL] at h3
  simp at h3
  omega
end Go.Proofs.YtgdfklgbdfpinaaDoor
