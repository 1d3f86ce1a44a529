/-
  RateWindow at every input: the arguments opened. Conditions: the inputs lie as Go's.
-/
import Derived.Test.YtikpbhfjmlfooaaRtWindow
import Derived.Test.YtikpbhfjmlfooaaBucketRaw
namespace Go.Proofs.Ytikpbhfjmlfooaa
set_option linter.unusedVariables false
set_option linter.unusedSimpArgs false
open Go.RowKit Go.Maps Go.Sort Go.ChangeShapes Go.WideShapes Go.Joins

theorem open_class {H : Type} {enc : TypeId × Value → H} {W : World} {base : Nat} {sp : Nat → Bool} {held : Bool} {r : Reach} {b0 : Nat} {v : Value} {d : DataW H} {ps : List MemPlace}
    (hv : Value.okWide Try.prog W r b0 31 v) (h : DataW.Trod enc Try.prog W base sp held 31 v d ps) :
    ∃ s c f, v = clsV s c f ∧ s.size ≤ maxLen ∧ (Lit.int .i64 c).wf = true ∧ (Lit.int .i64 f).wf = true := by
  obtain ⟨c0, c1, c2, y0, y1, y2, m, rfl, rfl, rfl, h0, h1, h2⟩ := open_agg3 Try.underlying31 (by kernel_rfl) (by kernel_rfl) hv h
  obtain ⟨z0, e0, -, w0⟩ := DataW.trod_string Try.underlying9 h0
  obtain ⟨z1, e1, -, w1⟩ := DataW.trod_int Try.underlying3 h1
  obtain ⟨z2, e2, -, w2⟩ := DataW.trod_int Try.underlying3 h2
  simp at e0 e1 e2
  subst e0 e1 e2
  exact ⟨z0, z1, z2, rfl, w0, w1, w2⟩
namespace rateWindowW
theorem walkRaw {H : Type} (enc : TypeId × Value → H) (v0 v1 v2 : Value) (W : World) {base : Nat} {d0 d1 d2 : DataW H} {p0 p1 p2 : List MemPlace}
    (wv0 : Value.okWide Try.prog W .any base 31 v0) (h0 : DataW.Trod enc Try.prog W 0 (fun _ => true) true 31 v0 d0 p0) (_lt0 : ∀ x ∈ p0, x.block < W.heap.size)
    (wv1 : Value.okWide Try.prog W .any base 48 v1) (h1 : DataW.Trod enc Try.prog W 0 (fun _ => true) true 48 v1 d1 p1) (_lt1 : ∀ x ∈ p1, x.block < W.heap.size)
    (wv2 : Value.okWide Try.prog W .any base 39 v2) (h2 : DataW.Trod enc Try.prog W 0 (fun _ => true) true 39 v2 d2 p2) (_lt2 : ∀ x ∈ p2, x.block < W.heap.size) :
    Calls Try.prog 10 #[v0, v1, v2] W fun e w' => e = .returned (.bool true) ∧ Below W.heap.size W w' := by
  obtain ⟨s, c, f, rfl, hs, hc, hf⟩ := open_class wv0 h0
  obtain ⟨a1, len1, cap1, rfl⟩ := okWide_slice Try.underlying48 wv1
  have hlen : len1 ≤ maxLen := by
    obtain ⟨q1, q2, _⟩ := open_recs Try.underlying48 Try.underlying55 (by kernel_rfl) (by kernel_rfl) (by decide) h1
    omega
  obtain ⟨asked, rfl, hask⟩ := isAsk_of h1
  obtain ⟨l0, l1, rfl⟩ := open_two wv2 h2
  exact window_any s c f a1 cap1 asked l0 l1 W hask hlen hc hf
end rateWindowW
end Go.Proofs.Ytikpbhfjmlfooaa
