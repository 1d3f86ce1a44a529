/-
  Sets that come in, opened; the library's table, from the row's condition. Conditions: none but what each says.
-/
import Derived.Test.YtpknglbpbodnbaaDoorJCsCount
import Derived.OpenShut
import Derived.WideShapes
import Derived.Lib.LaidTab
import Derived.LaidHandle
namespace Go.Proofs.YtpknglbpbodnbaaDoor
set_option linter.unusedVariables false
open Go.RowKit Go.Sort Cs
open Go.ChangeShapes Go.WideShapes

theorem u64_wf {n : Int} (hw : (Lit.int .u64 n).wf = true) : 0 ≤ n ∧ n < 18446744073709551616 := by
  simp [Lit.wf, IntKind.min, IntKind.max, IntKind.signed, IntKind.bits] at hw
  omega
set_option maxRecDepth 100000 in
theorem open_setV {H : Type} {enc : TypeId × Value → H} {W : World} {base : Nat} {sp : Nat → Bool} {held : Bool} {r : Reach} {b0 : Nat} {v : Value} {d : DataW H} {ps : List MemPlace}
    (hv : Value.okWide Tryd.prog W r b0 24 v) (h : DataW.Trod enc Tryd.prog W base sp held 24 v d ps) :
    ∃ s, SetIn s ∧ v = setV s := by
  simp only [Value.okWide, Tryd.underlying24] at hv
  obtain ⟨cs, rfl, h2, _⟩ := hv
  have h2' : cs.size = 4 := h2.trans (by kernel_rfl)
  obtain ⟨c0, c1, c2, c3, rfl⟩ : ∃ c0 c1 c2 c3, cs = #[c0, c1, c2, c3] := by
    rcases cs with ⟨l⟩
    match l, h2' with
    | [c0, c1, c2, c3], _ => exact ⟨c0, c1, c2, c3, rfl⟩
  obtain ⟨fuel, hf⟩ := h
  obtain ⟨ys, m, _, _, _, hl, hm⟩ := DataW.trod_array Tryd.underlying24 hf
  have hce : Tryd.prog.cellsOf 22 = 1 := by kernel_rfl
  have h0 := hm 0 (by omega)
  have h1 := hm 1 (by omega)
  have h2 := hm 2 (by omega)
  have h3 := hm 3 (by omega)
  rw [hce] at h0 h1 h2 h3
  obtain ⟨y0, y1, y2, y3, rfl⟩ : ∃ y0 y1 y2 y3, ys = [y0, y1, y2, y3] := by
    match ys, hl with
    | [y0, y1, y2, y3], _ => exact ⟨y0, y1, y2, y3, rfl⟩
  simp [Value.cells] at h0 h1 h2 h3
  obtain ⟨a0, e0, _, w0⟩ := DataW.trod_int Tryd.underlying22 h0
  obtain ⟨a1, e1, _, w1⟩ := DataW.trod_int Tryd.underlying22 h1
  obtain ⟨a2, e2, _, w2⟩ := DataW.trod_int Tryd.underlying22 h2
  obtain ⟨a3, e3, _, w3⟩ := DataW.trod_int Tryd.underlying22 h3
  simp at e0 e1 e2 e3
  subst e0 e1 e2 e3
  refine ⟨fun i => if i = 0 then a0 else if i = 1 then a1 else if i = 2 then a2 else if i = 3 then a3 else 0, fun i => ?_, rfl⟩
  have := u64_wf w0; have := u64_wf w1; have := u64_wf w2; have := u64_wf w3
  show 0 ≤ (if i = 0 then a0 else if i = 1 then a1 else if i = 2 then a2 else if i = 3 then a3 else 0) ∧ (if i = 0 then a0 else if i = 1 then a1 else if i = 2 then a2 else if i = 3 then a3 else 0) < 18446744073709551616
  split
  · assumption
  · split
    · assumption
    · split
      · assumption
      · split
        · assumption
        · omega

theorem tabNamed : Tryd.prog.globalNamed "math/bits.deBruijn64tab" = some 1 := by kernel_rfl
theorem tabType : (Tryd.prog.globals[1]?).map (·.type) = some 88 := by kernel_rfl
theorem tab_in {W : World} {l : List (String × DataW Unit)} (h : laidMet Tryd.prog l W) (hl : l = [("math/bits.deBruijn64tab", Lib.tabData .u8 (Lib.deBruijn64tab.map Int.ofNat))]) : TabIn W := by
  subst hl
  have hT := Lib.tabIs_of_head tabNamed tabType Tryd.underlying88 Tryd.underlying5 (by kernel_rfl) (by kernel_rfl) h
  have hc : ∀ j, j < 64 → W.cell? ⟨1, j, none⟩ = some (.int .u8 (Lib.deBruijn64tab.getD j 0)) := fun j hj => by
    have hlen : Lib.deBruijn64tab.length = 64 := by decide
    rw [hT.cell tabNamed j (by rw [List.length_map, hlen]; exact hj)]
    congr 2
    simp [List.getD, hlen, hj]
  exact ⟨World.block_lt_of_cell? W _ (hc 0 (by decide)), hc⟩
end Go.Proofs.YtpknglbpbodnbaaDoor
