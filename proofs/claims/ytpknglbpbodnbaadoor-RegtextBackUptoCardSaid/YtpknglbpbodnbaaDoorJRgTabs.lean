/-
  The tables that are laid, from the row's condition. Conditions: none but what each says.
-/
import Derived.Test.YtpknglbpbodnbaaDoorJRgOften2
import Derived.Test.YtpknglbpbodnbaaDoorJCsOpen
import Derived.Test.YtpknglbpbodnbaaDoorRows
import Derived.Lib.LaidU8
import Derived.Lib.LaidTab
import Derived.LaidHandle
namespace Go.Proofs.YtpknglbpbodnbaaDoor
set_option linter.unusedVariables false
set_option linter.unusedSimpArgs false
open Go.RowKit Go.Sort Cs Rg Go.ChangeShapes Go.WideShapes Go.ChangeAt

theorem tabIs_of {P : Program} {W : World} {name : String} {k : IntKind} {zs : List Int} {g : Nat} {t e : TypeId} {n : Nat}
    (hg : P.globalNamed name = some g) (hty : (P.globals[g]?).map (·.type) = some t) (ht : P.underlying t = some (.array n e)) (he : P.underlying e = some (.int k)) (hce : P.cellsOf e = 1) (hct : P.cellsOf t = n)
    (h : Lib.VarReads P W name (Lib.tabData k zs)) : Lib.TabIs P W name k zs := by
  obtain ⟨g', t', cs, fuel, p, hg', ht', hvar, hd⟩ := h
  obtain rfl := Option.some.inj (hg.symm.trans hg')
  obtain rfl := Option.some.inj (hty.symm.trans ht')
  unfold Lib.TabIs
  rw [hvar, ← Lib.cells_of_tab ht he hce hct hd]
theorem tab64_same : (Rows.laid_math_bits_deBruijn64tab : DataW Unit) = Lib.tabData .u8 (Lib.deBruijn64tab.map Int.ofNat) := by kernel_rfl
theorem tab14_in {W : World} {l : List (String × DataW Unit)} (h : laidMet Tryd.prog l W) (hl : ("math/bits.deBruijn64tab", Rows.laid_math_bits_deBruijn64tab) ∈ l) : TabIn W := by
  have h3 := Lib.laidMet.reads h hl
  rw [tab64_same] at h3
  have hT := tabIs_of tabNamed tabType Tryd.underlying88 Tryd.underlying5 (by kernel_rfl) (by kernel_rfl) h3
  have hc : ∀ j, j < 64 → W.cell? ⟨1, j, none⟩ = some (.int .u8 (Lib.deBruijn64tab.getD j 0)) := fun j hj => by
    have hlen : Lib.deBruijn64tab.length = 64 := by decide
    rw [hT.cell tabNamed j (by rw [List.length_map, hlen]; exact hj)]
    congr 2
    simp [List.getD, hlen, hj]
  exact ⟨World.block_lt_of_cell? W _ (hc 0 (by decide)), hc⟩
theorem marksNamed : Tryd.prog.globalNamed "porter/regtext.marks" = some 0 := by kernel_rfl
theorem marksType : (Tryd.prog.globals[0]?).map (·.type) = some 77 := by kernel_rfl
set_option maxHeartbeats 8000000 in
set_option maxRecDepth 1000000 in
theorem mark_cells {fuel : Nat} {cs : List Value} {W : World} {a b : Int} {s : List UInt8} {p : List MemPlace}
    (h : DataW.trod (fun _ => ()) Tryd.prog W 0 (fun _ => true) false fuel 76 cs = some (.agg [.lit (.int .i64 a), .lit (.int .i64 b), .lit (.string s)], p)) :
    cs = [.int .i64 a, .int .i64 b, .string ⟨s.toArray⟩] := by
  have hct : Tryd.prog.cellsOf 76 = 3 := by kernel_rfl
  have hci : Tryd.prog.cellsOf 3 = 1 := by kernel_rfl
  have hcs : Tryd.prog.cellsOf 9 = 1 := by kernel_rfl
  obtain ⟨xs, n, rfl, hx, hl, hxl, hall⟩ := DataW.trod_struct Tryd.underlying76 h
  rw [hct] at hl
  have h0 : DataW.trod (fun _ => ()) Tryd.prog W 0 (fun _ => true) false n 3 ((cs.drop 0).take (Tryd.prog.cellsOf 3)) = xs[0]? := hall 0 _ rfl
  have h1 : DataW.trod (fun _ => ()) Tryd.prog W 0 (fun _ => true) false n 3 ((cs.drop 1).take (Tryd.prog.cellsOf 3)) = xs[1]? := hall 1 _ rfl
  have h2 : DataW.trod (fun _ => ()) Tryd.prog W 0 (fun _ => true) false n 9 ((cs.drop 2).take (Tryd.prog.cellsOf 9)) = xs[2]? := hall 2 _ rfl
  rw [hci] at h0 h1
  rw [hcs] at h2
  have hxs : xs.map (·.1) = [.lit (.int .i64 a), .lit (.int .i64 b), .lit (.string s)] := by
    have := congrArg Prod.fst hx
    simpa using this.symm
  match xs, hxs with
  | [x0, x1, x2], hxs =>
    simp at hxs h0 h1 h2
    obtain ⟨z0, e0, f0, _⟩ := DataW.trod_int Tryd.underlying3 h0
    obtain ⟨z1, e1, f1, _⟩ := DataW.trod_int Tryd.underlying3 h1
    obtain ⟨z2, e2, f2, _⟩ := DataW.trod_string Tryd.underlying9 h2
    rw [f0, f1, f2] at hxs
    simp at hxs
    obtain ⟨rfl, rfl, h5⟩ := hxs
    match cs, hl with
    | [c0, c1, c2], _ =>
      simp at e0 e1 e2
      subst e0 e1 e2
      have : z2 = ⟨s.toArray⟩ := by rcases z2 with ⟨⟨l⟩⟩; simp at h5; rw [h5]
      rw [this]
set_option maxHeartbeats 8000000 in
set_option maxRecDepth 1000000 in
theorem marks_in {W : World} {l : List (String × DataW Unit)} (h : laidMet Tryd.prog l W) (hl : ("porter/regtext.marks", Rows.laid_porter_regtext_marks) ∈ l) : MarksIn W := by
  have h3 := Lib.laidMet.reads h hl
  obtain ⟨g, t, cs, fuel, p, hg, hty, hvar, hd⟩ := h3
  obtain rfl := Option.some.inj (marksNamed.symm.trans hg)
  obtain rfl := Option.some.inj (marksType.symm.trans hty)
  have hce : Tryd.prog.cellsOf 76 = 3 := by kernel_rfl
  have hc : ∀ i : Nat, i < 3 → ∃ a b s, Rows.laid_porter_regtext_marks (H := Unit) = Rows.laid_porter_regtext_marks ∧ ((i = 0 ∧ a = 0 ∧ b = -1 ∧ s = [42]) ∨ (i = 1 ∧ a = 1 ∧ b = -1 ∧ s = [43]) ∨ (i = 2 ∧ a = 0 ∧ b = 1 ∧ s = [63])) ∧
      (cs.toList.drop (i * 3)).take 3 = [.int .i64 a, .int .i64 b, .string ⟨(s : List UInt8).toArray⟩] := by
    intro i hi
    unfold Rows.laid_porter_regtext_marks at hd
    obtain ⟨fuel', d, q, hdi, he⟩ := Lib.array_elem Tryd.underlying77 hd i hi
    rw [hce] at he
    match i, hi with
    | 0, _ => simp at hdi; subst hdi; exact ⟨0, -1, [42], rfl, .inl ⟨rfl, rfl, rfl, rfl⟩, mark_cells he⟩
    | 1, _ => simp at hdi; subst hdi; exact ⟨1, -1, [43], rfl, .inr (.inl ⟨rfl, rfl, rfl, rfl⟩), mark_cells he⟩
    | 2, _ => simp at hdi; subst hdi; exact ⟨0, 1, [63], rfl, .inr (.inr ⟨rfl, rfl, rfl, rfl⟩), mark_cells he⟩
  have hcell : ∀ j v, marksC[j]? = some v → W.cell? ⟨0, j, none⟩ = some v := by
    intro j v hj
    rw [World.var?_cell marksNamed hvar j, ← Array.getElem?_toList]
    have key : ∀ i r : Nat, r < 3 → cs.toList[i * 3 + r]? = ((cs.toList.drop (i * 3)).take 3)[r]? := by
      intro i r hr
      rw [List.getElem?_take, if_pos hr, List.getElem?_drop]
    have hj9 : j < 9 := by
      have := (Array.getElem?_eq_some_iff.1 hj).1
      exact this
    obtain ⟨i, r, hi, hr, rfl⟩ : ∃ i r : Nat, i < 3 ∧ r < 3 ∧ j = i * 3 + r := ⟨j / 3, j % 3, by omega, by omega, by omega⟩
    rw [key i r hr]
    obtain ⟨a, b, s, _, hor, hc⟩ := hc i hi
    rw [hc, ← hj]
    rcases hor with ⟨rfl, rfl, rfl, rfl⟩ | ⟨rfl, rfl, rfl, rfl⟩ | ⟨rfl, rfl, rfl, rfl⟩ <;>
    · match r, hr with
      | 0, _ => rfl
      | 1, _ => rfl
      | 2, _ => rfl
  exact ⟨World.block_lt_of_cell? W _ (hcell 0 _ rfl), hcell⟩
end Go.Proofs.YtpknglbpbodnbaaDoor
