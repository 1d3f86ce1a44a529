/-
  DiskPlays at every input: the slices opened, the ways ahead of the loop. Conditions: the inputs lie as Go's.
-/
import Derived.Test.YtmjhomhganaceaaDkPlays
import Derived.Test.YtmjhomhganaceaaRecs
namespace Go.Proofs.Ytmjhomhganaceaa
set_option linter.unusedVariables false
set_option linter.unusedSimpArgs false
open Go.RowKit Go.Maps Go.Sort Go.ChangeShapes Go.WideShapes

theorem isCr_of {W : World} {H : Type} {enc : TypeId × Value → H} {base : Nat} {held : Bool} {a : Option Addr} {len cap : Nat} {d : DataW H} {ps : List MemPlace}
    (h : DataW.Trod enc Try.prog W base (fun _ => true) held 40 (.slice a len cap) d ps) : ∃ cs : List (Int × Int), cs.length = len ∧ IsCr W W.heap.size a cs := by
  obtain ⟨h1, h2, h3⟩ := open_recs Try.underlying40 Try.underlying29 (by kernel_rfl) (by kernel_rfl) (by decide) h
  rcases h3 with rfl | ⟨b, off, rfl, hb, hf⟩
  · exact ⟨[], rfl, .inl rfl, fun x hx => by cases hx⟩
  · obtain ⟨cs, hl, hr⟩ := list_of len (fun i (x : Int × Int) => (W.cell? ⟨b, off + i * 2, none⟩ = some (.int .i64 x.1) ∧ W.cell? ⟨b, off + (i * 2 + 1), none⟩ = some (.int .i64 x.2)) ∧ (Lit.int .i64 x.1).wf = true ∧ (Lit.int .i64 x.2).wf = true) (fun i hi => by
      obtain ⟨v0, y0, n0, c0, t0⟩ := hf i hi 0 _ rfl
      obtain ⟨v1, y1, n1, c1, t1⟩ := hf i hi 1 _ rfl
      obtain ⟨z0, e0, -, w0⟩ := DataW.trod_int Try.underlying3 t0
      obtain ⟨z1, e1, -, w1⟩ := DataW.trod_int Try.underlying3 t1
      simp at e0 e1
      subst e0 e1
      exact ⟨(z0, z1), ⟨c0, c1⟩, w0, w1⟩)
    refine ⟨cs, hl, .inr ⟨b, off, rfl, hb, fun j x hj => (hr j x hj).1⟩, fun x hx => ?_⟩
    obtain ⟨j, hj⟩ := List.getElem?_of_mem hx
    exact (hr j x hj).2
theorem isActs_of {W : World} {H : Type} {enc : TypeId × Value → H} {base : Nat} {held : Bool} {a : Option Addr} {len cap : Nat} {d : DataW H} {ps : List MemPlace}
    (h : DataW.Trod enc Try.prog W base (fun _ => true) held 41 (.slice a len cap) d ps) : ∃ l : List (Int × Int × ByteArray), l.length = len ∧ IsActs W W.heap.size a l := by
  obtain ⟨h1, h2, h3⟩ := open_recs Try.underlying41 Try.underlying47 (by kernel_rfl) (by kernel_rfl) (by decide) h
  rcases h3 with rfl | ⟨b, off, rfl, hb, hf⟩
  · exact ⟨[], rfl, .inl rfl, fun x hx => by cases hx⟩
  · obtain ⟨cs, hl, hr⟩ := list_of len (fun i (x : Int × Int × ByteArray) => (W.cell? ⟨b, off + i * 3, none⟩ = some (.int .i64 x.1) ∧ W.cell? ⟨b, off + (i * 3 + 1), none⟩ = some (.int .i64 x.2.1) ∧ W.cell? ⟨b, off + (i * 3 + 2), none⟩ = some (.string x.2.2)) ∧ (Lit.int .i64 x.1).wf = true ∧ (Lit.int .i64 x.2.1).wf = true ∧ x.2.2.size ≤ maxLen) (fun i hi => by
      obtain ⟨v0, y0, n0, c0, t0⟩ := hf i hi 0 _ rfl
      obtain ⟨v1, y1, n1, c1, t1⟩ := hf i hi 1 _ rfl
      obtain ⟨v2, y2, n2, c2, t2⟩ := hf i hi 2 _ rfl
      obtain ⟨z0, e0, -, w0⟩ := DataW.trod_int Try.underlying3 t0
      obtain ⟨z1, e1, -, w1⟩ := DataW.trod_int Try.underlying3 t1
      obtain ⟨z2, e2, -, w2⟩ := DataW.trod_string Try.underlying9 t2
      simp at e0 e1 e2
      subst e0 e1 e2
      exact ⟨(z0, z1, z2), ⟨c0, c1, c2⟩, w0, w1, w2⟩)
    refine ⟨cs, hl, .inr ⟨b, off, rfl, hb, fun j x hj => (hr j x hj).1⟩, fun x hx => ?_⟩
    obtain ⟨j, hj⟩ := List.getElem?_of_mem hx
    exact (hr j x hj).2

set_option maxHeartbeats 1000000 in
set_option maxRecDepth 100000 in
theorem plays_none (n : Int) (A LA : Option Addr) (len cap ll lcap : Nat) (w : World) (h : 20 < len ∨ 60 < ll ∨ (30 < n ∧ n ≤ 4096)) :
    Calls Try.prog 4 #[.int .i64 n, .slice A len cap, .slice LA ll lcap] w fun e w' => e = .returned (.bool true) ∧ Below w.heap.size w w' := by
  by_cases h1 : 20 < len
  · have g1 : decide (20 < (len : Int)) = true := decide_eq_true (by omega)
    go_enter Try.func4, Try.ntmps4
    go_wp2_with fail
    refine (works_any w).mono ?_
    rintro e w1 ⟨rfl, b1⟩
    go_wp2_with fail
    go_ret
    exact ⟨rfl, b1⟩
  have g1 : decide (20 < (len : Int)) = false := decide_eq_false (by omega)
  by_cases h2 : 60 < ll
  · have g2 : decide (60 < (ll : Int)) = true := decide_eq_true (by omega)
    go_enter Try.func4, Try.ntmps4
    go_wp2_with fail
    refine (works_any w).mono ?_
    rintro e w1 ⟨rfl, b1⟩
    go_wp2_with fail
    go_ret
    exact ⟨rfl, b1⟩
  have g2 : decide (60 < (ll : Int)) = false := decide_eq_false (by omega)
  have g3 : decide (30 < n) = true := decide_eq_true (by omega)
  have g4 : decide (n ≤ 4096) = true := decide_eq_true (by omega)
  go_enter Try.func4, Try.ntmps4
  go_wp2_with fail
  refine (works_any w).mono ?_
  rintro e w1 ⟨rfl, b1⟩
  go_wp2_with fail
  go_ret
  exact ⟨rfl, b1⟩
set_option maxHeartbeats 1000000 in
set_option maxRecDepth 100000 in
theorem plays_bad (n : Int) (A LA : Option Addr) (len cap ll lcap : Nat) (w : World) (hl : len ≤ 20) (hl2 : ll ≤ 60) (h : n < 1 ∨ 4096 < n) :
    Calls Try.prog 4 #[.int .i64 n, .slice A len cap, .slice LA ll lcap] w fun e w' => e = .returned (.bool true) ∧ Below w.heap.size w w' := by
  have g1 : decide (20 < (len : Int)) = false := decide_eq_false (by omega)
  have g2 : decide (60 < (ll : Int)) = false := decide_eq_false (by omega)
  rcases h with h | h
  · have g3 : decide (30 < n) = false := decide_eq_false (by omega)
    have g4 : decide (n < 1) = true := decide_eq_true h
    go_enter Try.func4, Try.ntmps4
    go_wp2_with fail
    refine (new_bad n A len cap w (.inl h)).mono ?_
    rintro e w0 ⟨rfl, rfl⟩
    go_wp2_with fail
    refine (works_any _).mono ?_
    rintro e w1 ⟨rfl, b1⟩
    go_wp2_with fail
    go_ret
    exact ⟨rfl, b1⟩
  · have g3 : decide (30 < n) = true := decide_eq_true (by omega)
    have g5 : decide (n ≤ 4096) = false := decide_eq_false (by omega)
    have g4 : decide (n < 1) = false := decide_eq_false (by omega)
    have g6 : decide (4096 < n) = true := decide_eq_true h
    go_enter Try.func4, Try.ntmps4
    go_wp2_with fail
    refine (new_bad n A len cap w (.inr h)).mono ?_
    rintro e w0 ⟨rfl, rfl⟩
    go_wp2_with fail
    refine (works_any _).mono ?_
    rintro e w1 ⟨rfl, b1⟩
    go_wp2_with fail
    go_ret
    exact ⟨rfl, b1⟩
namespace diskPlaysW
theorem walkRaw {H : Type} (enc : TypeId × Value → H) (n : Int) (v1 v2 : Value) (W : World) {base : Nat} {d1 d2 : DataW H} {p1 p2 : List MemPlace} (wn : (Lit.int .i64 n).wf = true)
    (wv1 : Value.okWide Try.prog W .any base 40 v1) (h1 : DataW.Trod enc Try.prog W 0 (fun _ => true) true 40 v1 d1 p1) (_lt1 : ∀ x ∈ p1, x.block < W.heap.size)
    (wv2 : Value.okWide Try.prog W .any base 41 v2) (h2 : DataW.Trod enc Try.prog W 0 (fun _ => true) true 41 v2 d2 p2) (_lt2 : ∀ x ∈ p2, x.block < W.heap.size) :
    Calls Try.prog 4 #[.int .i64 n, v1, v2] W fun e w' => e = .returned (.bool true) ∧ Below W.heap.size W w' := by
  obtain ⟨a1, len1, cap1, rfl⟩ := okWide_slice Try.underlying40 wv1
  obtain ⟨a2, len2, cap2, rfl⟩ := okWide_slice Try.underlying41 wv2
  obtain ⟨cs, rfl, hcr⟩ := isCr_of h1
  obtain ⟨acts, rfl, hac⟩ := isActs_of h2
  by_cases h : 20 < cs.length ∨ 60 < acts.length ∨ (30 < n ∧ n ≤ 4096)
  · exact plays_none n a1 a2 _ _ _ _ W h
  by_cases hb : n < 1 ∨ 4096 < n
  · exact plays_bad n a1 a2 _ _ _ _ W (by omega) (by omega) hb
  obtain ⟨k, rfl⟩ : ∃ k : Nat, n = k := ⟨n.toNat, by omega⟩
  exact plays_some k a1 cap1 cs a2 cap2 acts W (by omega) (by omega) (by omega) (by omega) hcr hac
end diskPlaysW
end Go.Proofs.Ytmjhomhganaceaa
