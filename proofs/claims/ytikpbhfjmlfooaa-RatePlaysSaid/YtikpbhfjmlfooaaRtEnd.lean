/-
  RatePlays at every input: the arguments opened. Conditions: the inputs lie as Go's.
-/
import Derived.Test.YtikpbhfjmlfooaaRtPlays2
namespace Go.Proofs.Ytikpbhfjmlfooaa
set_option linter.unusedVariables false
set_option linter.unusedSimpArgs false
open Go.RowKit Go.Maps Go.Sort Go.ChangeShapes Go.WideShapes

theorem isCls_of {W : World} {H : Type} {enc : TypeId × Value → H} {base : Nat} {held : Bool} {a : Option Addr} {len cap : Nat} {d : DataW H} {ps : List MemPlace}
    (h : DataW.Trod enc Try.prog W base (fun _ => true) held 47 (.slice a len cap) d ps) : ∃ l : List Cls, l.length = len ∧ IsCls W W.heap.size a l := by
  obtain ⟨h1, h2, h3⟩ := open_recs Try.underlying47 Try.underlying31 (by kernel_rfl) (by kernel_rfl) (by decide) h
  rcases h3 with rfl | ⟨b, off, rfl, hb, hf⟩
  · exact ⟨[], rfl, .inl rfl, fun x hx => by cases hx⟩
  · obtain ⟨cs, hl, hr⟩ := list_of len (fun i (x : Cls) => (W.cell? ⟨b, off + i * 3, none⟩ = some (.string x.1) ∧ W.cell? ⟨b, off + i * 3 + 1, none⟩ = some (.int .i64 x.2.1) ∧ W.cell? ⟨b, off + i * 3 + 2, none⟩ = some (.int .i64 x.2.2)) ∧ x.1.size ≤ maxLen ∧ (Lit.int .i64 x.2.1).wf = true ∧ (Lit.int .i64 x.2.2).wf = true) (fun i hi => by
      obtain ⟨v0, y0, n0, c0, t0⟩ := hf i hi 0 _ rfl
      obtain ⟨v1, y1, n1, c1, t1⟩ := hf i hi 1 _ rfl
      obtain ⟨v2, y2, n2, c2, t2⟩ := hf i hi 2 _ rfl
      obtain ⟨z0, e0, -, w0⟩ := DataW.trod_string Try.underlying9 t0
      obtain ⟨z1, e1, -, w1⟩ := DataW.trod_int Try.underlying3 t1
      obtain ⟨z2, e2, -, w2⟩ := DataW.trod_int Try.underlying3 t2
      simp at e0 e1 e2
      subst e0 e1 e2
      exact ⟨(z0, z1, z2), ⟨c0, c1, c2⟩, w0, w1, w2⟩)
    refine ⟨cs, hl, .inr ⟨b, off, rfl, hb, fun j x hj => (hr j x hj).1⟩, fun x hx => ?_⟩
    obtain ⟨j, hj⟩ := List.getElem?_of_mem hx
    exact (hr j x hj).2
namespace ratePlaysW
theorem walkRaw {H : Type} (enc : TypeId × Value → H) (v0 : Value) (now : Int) (v2 : Value) (W : World) {base : Nat} {d0 d2 : DataW H} {p0 p2 : List MemPlace}
    (wv0 : Value.okWide Try.prog W .any base 47 v0) (h0 : DataW.Trod enc Try.prog W 0 (fun _ => true) true 47 v0 d0 p0) (_lt0 : ∀ x ∈ p0, x.block < W.heap.size)
    (wn : (Lit.int .i64 now).wf = true)
    (wv2 : Value.okWide Try.prog W .any base 48 v2) (h2 : DataW.Trod enc Try.prog W 0 (fun _ => true) true 48 v2 d2 p2) (_lt2 : ∀ x ∈ p2, x.block < W.heap.size) :
    Calls Try.prog 9 #[v0, .int .i64 now, v2] W fun e w' => e = .returned (.bool true) ∧ Below W.heap.size W w' := by
  obtain ⟨a0, len0, cap0, rfl⟩ := okWide_slice Try.underlying47 wv0
  obtain ⟨a2, len2, cap2, rfl⟩ := okWide_slice Try.underlying48 wv2
  have hcap := (open_recs Try.underlying48 Try.underlying55 (by kernel_rfl) (by kernel_rfl) (by decide) h2).1
  obtain ⟨l, rfl, hl⟩ := isCls_of h0
  obtain ⟨asked, rfl, hask⟩ := isAsk_of h2
  by_cases hg : 12 < l.length ∨ 40 < asked.length
  · exact rplays_great a0 a2 _ _ _ _ now W hg
  by_cases hE : checkE l = 0
  · cases ht : timeB now
    · exact rplays_late a0 a2 cap0 _ cap2 l now W hl (by omega) (by omega) hE ht
    · exact rplays_some a0 a2 cap0 cap2 l asked now W hl hask (by omega) hE ht hcap
  · exact rplays_bad a0 a2 cap0 _ cap2 l now _ W hl (by omega) (by omega) rfl hE
end ratePlaysW
end Go.Proofs.Ytikpbhfjmlfooaa
