/-
  The walk of the law BucketWindow, its arguments as the frame hands them. Conditions: none but what each says.
-/
import Derived.Test.YtikpbhfjmlfooaaBucketWin
import Derived.OpenShut
namespace Go.Proofs.Ytikpbhfjmlfooaa
set_option linter.unusedVariables false
open Go.RowKit Go.Sort
open Go.ChangeShapes Go.WideShapes

theorem open_two {H : Type} {enc : TypeId × Value → H} {W : World} {base : Nat} {sp : Nat → Bool} {held : Bool} {r : Reach} {b0 : Nat} {v : Value} {d : DataW H} {ps : List MemPlace}
    (hv : Value.okWide Try.prog W r b0 39 v) (h : DataW.Trod enc Try.prog W base sp held 39 v d ps) :
    ∃ a b, v = .agg #[.int .i64 a, .int .i64 b] := by
  simp only [Value.okWide, Try.underlying39] at hv
  obtain ⟨cs, rfl, h2, _⟩ := hv
  have h2' : cs.size = 2 := h2.trans (by kernel_rfl)
  obtain ⟨c0, c1, rfl⟩ : ∃ c0 c1, cs = #[c0, c1] := by
    rcases cs with ⟨l⟩
    match l, h2' with
    | [c0, c1], _ => exact ⟨c0, c1, rfl⟩
  obtain ⟨fuel, hf⟩ := h
  obtain ⟨ys, m, _, _, _, hl, hm⟩ := DataW.trod_array Try.underlying39 hf
  have hce : Try.prog.cellsOf 3 = 1 := by kernel_rfl
  have h0 := hm 0 (by omega)
  have h1 := hm 1 (by omega)
  rw [hce] at h0 h1
  obtain ⟨y0, y1, rfl⟩ : ∃ y0 y1, ys = [y0, y1] := by
    match ys, hl with
    | [y0, y1], _ => exact ⟨y0, y1, rfl⟩
  simp [Value.cells] at h0 h1
  obtain ⟨a0, e0, _, w0⟩ := DataW.trod_int Try.underlying3 h0
  obtain ⟨a1, e1, _, w1⟩ := DataW.trod_int Try.underlying3 h1
  simp at e0 e1
  subst e0 e1
  exact ⟨a0, a1, rfl⟩

namespace bucketWindowW
theorem walkRaw {H : Type} (enc : TypeId × Value → H) (v0 : Value) (a1 : Option Addr) (len1 cap1 : Nat) (z1 : List Int) (v2 : Value) (W : World) {base : Nat} {d0 d2 : DataW H} {p0 p2 : List MemPlace}
    (wv0 : Value.okWide Try.prog W .any base 23 v0) (h0 : DataW.Trod enc Try.prog W 0 (fun _ => true) true 23 v0 d0 p0) (_lt0 : ∀ x ∈ p0, x.block < W.heap.size)
    (w1 : IsRow .i64 W a1 len1 cap1 z1)
    (wv2 : Value.okWide Try.prog W .any base 39 v2) (h2 : DataW.Trod enc Try.prog W 0 (fun _ => true) true 39 v2 d2 p2) (_lt2 : ∀ x ∈ p2, x.block < W.heap.size) :
    Calls Try.prog 4 #[v0, .slice a1 len1 cap1, v2] W fun e w' => e = .returned (.bool true) ∧ Below W.heap.size W w' := by
  obtain ⟨c, f, y, t, rfl, _, _, _, _⟩ := open_bucket wv0 h0
  obtain ⟨a, b, rfl⟩ := open_two wv2 h2
  exact walk c f y t a1 len1 cap1 z1 a b W w1
end bucketWindowW
end Go.Proofs.Ytikpbhfjmlfooaa
