/-
  Slices of sets that come in, opened; the walk of the law BlocksOf. Conditions: none but what each says.
-/
import Derived.Test.YtcajlldecdjdlaaBlWorks
import Derived.Deep.Slices
namespace Go.Proofs.Ytcajlldecdjdlaa
set_option linter.unusedVariables false
open Go.RowKit Go.Maps Go.Sort
open Go.ChangeShapes Go.WideShapes Go.Deep

/-- a cell's number, if it is one of 64 bits -/
def u64At (w : World) (p : Addr) : Int := match w.cell? p with
  | some (.int .u64 n) => if 0 ≤ n ∧ n < 18446744073709551616 then n else 0
  | _ => 0
theorem u64At_in (w : World) (p : Addr) : 0 ≤ u64At w p ∧ u64At w p < 18446744073709551616 := by
  unfold u64At
  split
  · split <;> omega
  · omega
theorem u64At_eq (w : World) (p : Addr) (n : Int) (h : w.cell? p = some (.int .u64 n)) (hw : (Lit.int .u64 n).wf = true) : w.cell? p = some (.int .u64 (u64At w p)) := by
  unfold u64At
  rw [h]
  simp [Lit.wf, IntKind.min, IntKind.max, IntKind.signed, IntKind.bits] at hw
  simp only []
  rw [if_pos (by omega)]

theorem open_sets {H : Type} {enc : TypeId × Value → H} {W : World} {base b0 : Nat} {held : Bool} {r : Reach} {v : Value} {d : DataW H} {ps : List MemPlace}
    (hv : Value.okWide Try.prog W r base 22 v) (h : DataW.Trod enc Try.prog W b0 (fun _ => true) held 22 v d ps) :
    ∃ x len cap sf, v = .slice x len cap ∧ (len ≤ 4611686018427387904 → IsSets W x len cap sf) := by
  obtain ⟨x, len, cap, rfl⟩ := okWide_slice Try.underlying22 hv
  obtain ⟨fuel, hf⟩ := h
  rcases open_slice Try.underlying22 hf with ⟨hcs, _⟩ | ⟨a, l, c, m, n, D, Pl, hcs, _, hl, hm, hmm, _, hi⟩
  · simp [Value.cells] at hcs
    obtain ⟨rfl, rfl, rfl⟩ := hcs
    exact ⟨none, 0, 0, fun _ _ => 0, rfl, fun _ => ⟨.inl rfl, fun j i => ⟨by decide, by decide⟩, by decide⟩⟩
  · simp [Value.cells] at hcs
    obtain ⟨rfl, rfl, rfl⟩ := hcs
    simp at hmm
    subst hmm
    have hce : Try.prog.cellsOf 36 = 4 := by kernel_rfl
    have hce1 : Try.prog.cellsOf 34 = 1 := by kernel_rfl
    have hcell : ∀ j, j < len → ∀ i, i < 4 → W.cell? (a.add (j * 4 + i)) = some (.int .u64 (u64At W (a.add (j * 4 + i)))) := by
      intro j hj i hi4
      obtain ⟨cs', hc, ht'⟩ := hi j (by omega)
      rw [hce] at hc
      obtain ⟨ys, n', hn', hy, hlen, hyl, hfx⟩ := DataW.trod_array Try.underlying36 ht'
      obtain ⟨_, hcl, hat⟩ := World.cells?_some hc
      have h1 := hfx i hi4
      rw [hce1] at h1
      have hcl' : cs'.length = 4 := by rw [hlen, hce]
      have hone : (cs'.drop (i * 1)).take 1 = [cs'[i]'(by omega)] := by
        rw [Nat.mul_one, List.drop_eq_getElem_cons (by omega)]
        rfl
      rw [hone, List.getElem?_eq_getElem (by omega)] at h1
      obtain ⟨z, ez, _, wz⟩ := DataW.trod_int Try.underlying34 h1
      have hcc := hat i hi4
      rw [List.getElem?_eq_getElem (by omega)] at hcc
      simp at ez
      rw [ez, add_add] at hcc
      exact u64At_eq W _ z hcc wz
    by_cases h0 : len = 0
    · exact ⟨_, _, _, fun _ _ => 0, rfl, fun hb => ⟨.inl h0, fun j i => ⟨by decide, by decide⟩, hb⟩⟩
    · obtain ⟨b, off, spot⟩ := a
      have hc0 := hcell 0 (by omega) 0 (by omega)
      have hspot : spot = none := by simpa [Addr.add] using World.cell?_spot hc0
      subst hspot
      have hc0' := hc0
      simp only [Addr.add_lit] at hc0'
      refine ⟨_, _, _, fun j i => u64At W ⟨b, off + j * 4 + i, none⟩, rfl, fun hb => ⟨.inr ⟨b, off, rfl, World.block_lt_of_cell? W _ hc0', fun j hj i hi4 => ?_⟩, fun j i => u64At_in W _, hb⟩⟩
      have := hcell j hj i hi4
      rw [Addr.add_lit, ← Nat.add_assoc] at this
      exact this
end Go.Proofs.Ytcajlldecdjdlaa
