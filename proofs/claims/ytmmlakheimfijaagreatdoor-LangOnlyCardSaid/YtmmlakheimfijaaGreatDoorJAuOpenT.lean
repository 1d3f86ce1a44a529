/-
  An automaton that came in as an argument, opened: what lies in memory. Conditions: it reads as Go's data do.
  The table of powers from the row's condition. Conditions: none but what each says.
-/
import Derived.Test.YtmmlakheimfijaaGreatDoorJDfa
import Derived.Deep.Slices
import Derived.Lib.SmallJoins
import Derived.Test.YtmmlakheimfijaaGreatDoorJOfOut
import Derived.Test.YtmmlakheimfijaaGreatDoorRows
import Derived.Lib.LaidU8
import Derived.Lib.LaidTab
import Derived.LaidHandle
namespace Go.Proofs.YtmmlakheimfijaaGreatDoor
set_option linter.unusedVariables false
set_option linter.unusedSimpArgs false
open Go.RowKit Go.Sort Go.ChangeShapes Go.WideShapes Go.ChangeAt Go.Deep

/-- a slice of one-cell elements, opened into a list of what each element is -/
theorem open_row {P : Program} {H : Type} {enc : TypeId × Value → H} {W : World} {base : Nat} {held : Bool} {t e : TypeId} {fuel : Nat} {v : Value} {x : DataW H × List MemPlace} {α : Type} (R : Value → α → Prop)
    (ht : P.underlying t = some (.slice e)) (hc : P.cellsOf e = 1) (h : DataW.trod enc P W base (fun _ => true) held fuel t [v] = some x)
    (hR : ∀ (n : Nat) (u : Value) (y : DataW H × List MemPlace), DataW.trod enc P W base (fun _ => true) held n e [u] = some y → ∃ z, R u z) :
    ∃ (l : List α) (a : Option Addr) (cap : Nat), v = .slice a l.length cap ∧ l.length ≤ maxLen ∧ (l = [] ∨ ∃ b off, a = some ⟨b, off, none⟩ ∧ b < W.heap.size ∧ ∀ (j : Nat) (z : α), l[j]? = some z → ∃ u, W.cell? ⟨b, off + j, none⟩ = some u ∧ R u z) := by
  rcases open_slice1 ht hc h with ⟨h0, -⟩ | ⟨a, len, cap, m, n, V, D, Pl, hv, hb, hl, hm, hmm, -, hx⟩
  · obtain rfl : v = .slice none 0 0 := by simpa using h0
    exact ⟨[], none, 0, rfl, Nat.zero_le _, .inl rfl⟩
  · obtain rfl : v = .slice (some a) len cap := by simpa using hv
    have hmc : m = cap := by simpa using hmm
    obtain ⟨l, hll, hlr⟩ := list_of len (fun i z => ∃ u, W.cell? (a.add i) = some u ∧ R u z) fun i hi => by
      obtain ⟨h1, h2⟩ := hx i (by omega)
      obtain ⟨z, hz⟩ := hR n _ _ h2
      exact ⟨z, _, h1, hz⟩
    subst hll
    refine ⟨l, some a, cap, rfl, by omega, ?_⟩
    cases l with
    | nil => exact .inl rfl
    | cons z0 l =>
      right
      obtain ⟨u0, hu0, -⟩ := hlr 0 z0 rfl
      obtain ⟨b, off, spot⟩ := a
      have hspot : spot = none := by simpa [Addr.add] using World.cell?_spot hu0
      subst hspot
      have hc0 : W.cell? ⟨b, off, none⟩ = some u0 := by simpa [Addr.add] using hu0
      refine ⟨b, off, rfl, World.block_lt_of_cell? W _ hc0, fun j z hj => ?_⟩
      obtain ⟨u, hu, hz⟩ := hlr j z hj
      rw [Addr.add_lit] at hu
      exact ⟨u, hu, hz⟩
theorem open_intsAt {H : Type} {enc : TypeId × Value → H} {W : World} {base : Nat} {held : Bool} {fuel : Nat} {v : Value} {x : DataW H × List MemPlace}
    (h : DataW.trod enc Tryz.prog W base (fun _ => true) held fuel 23 [v] = some x) : ∃ l, IntsAt W v l ∧ IntsIn l := by
  obtain ⟨l, a, cap, rfl, hl, hr⟩ := open_row (fun u (z : Int) => u = .int .i64 z ∧ In64 z) Tryz.underlying23 (by kernel_rfl) h fun n u y hy => by
    obtain ⟨z, hz, -, hw⟩ := DataW.trod_int Tryz.underlying3 hy
    exact ⟨z, by simpa using hz, wf_in64 hw⟩
  have hl' : l.length ≤ 9223372036854775807 := by unfold maxLen at hl; omega
  rcases hr with rfl | ⟨b, off, rfl, hb, hc⟩
  · exact ⟨[], ⟨a, cap, rfl, .inl rfl⟩, hl', fun x hx => by cases hx⟩
  · refine ⟨l, ⟨_, cap, rfl, .inr ⟨b, off, rfl, hb, fun j z hj => ?_⟩⟩, hl', fun z hz => ?_⟩
    · obtain ⟨u, hu, rfl, -⟩ := hc j z hj
      exact hu
    · obtain ⟨j, hj⟩ := List.getElem?_of_mem hz
      obtain ⟨u, hu, -, hw⟩ := hc j z hj
      exact hw
theorem open_boolsAt {H : Type} {enc : TypeId × Value → H} {W : World} {base : Nat} {held : Bool} {fuel : Nat} {v : Value} {x : DataW H × List MemPlace}
    (h : DataW.trod enc Tryz.prog W base (fun _ => true) held fuel 22 [v] = some x) : ∃ l : List Bool, BoolsAt W v l.length (fun i => l.getD i false) ∧ l.length ≤ 9223372036854775807 := by
  obtain ⟨l, a, cap, rfl, hl, hr⟩ := open_row (fun u (z : Bool) => u = .bool z) Tryz.underlying22 (by kernel_rfl) h fun n u y hy => by
    obtain ⟨z, hz, -⟩ := DataW.trod_bool Tryz.underlying4 hy
    exact ⟨z, by simpa using hz⟩
  have hl' : l.length ≤ 9223372036854775807 := by unfold maxLen at hl; omega
  rcases hr with rfl | ⟨b, off, rfl, hb, hc⟩
  · exact ⟨[], ⟨a, cap, rfl, .inl rfl⟩, hl'⟩
  · refine ⟨l, ⟨_, cap, rfl, .inr ⟨b, off, rfl, hb, fun j hj => ?_⟩⟩, hl'⟩
    obtain ⟨u, hu, rfl⟩ := hc j _ (List.getElem?_eq_getElem hj)
    rw [hu]
    show _ = some (Value.bool (l.getD j false))
    rw [List.getD_eq_getElem?_getD, List.getElem?_eq_getElem hj]
    rfl
theorem open_irowsAt {H : Type} {enc : TypeId × Value → H} {W : World} {base : Nat} {held : Bool} {fuel : Nat} {v : Value} {x : DataW H × List MemPlace}
    (h : DataW.trod enc Tryz.prog W base (fun _ => true) held fuel 24 [v] = some x) : ∃ ll, IRowsAt W v ll ∧ ll.length ≤ 9223372036854775807 ∧ ∀ l ∈ ll, IntsIn l := by
  obtain ⟨l, a, cap, rfl, hl, hr⟩ := open_row (fun u (z : List Int) => IntsAt W u z ∧ IntsIn z) Tryz.underlying24 (by kernel_rfl) h fun n u y hy => open_intsAt hy
  have hl' : l.length ≤ 9223372036854775807 := by unfold maxLen at hl; omega
  rcases hr with rfl | ⟨b, off, rfl, hb, hc⟩
  · exact ⟨[], ⟨a, cap, rfl, .inl rfl⟩, hl', fun x hx => by cases hx⟩
  · refine ⟨l, ⟨_, cap, rfl, .inr ⟨b, off, rfl, hb, fun j z hj => ?_⟩⟩, hl', fun z hz => ?_⟩
    · obtain ⟨u, hu, h1, -⟩ := hc j z hj
      exact ⟨u, hu, h1⟩
    · obtain ⟨j, hj⟩ := List.getElem?_of_mem hz
      obtain ⟨u, hu, -, hw⟩ := hc j z hj
      exact hw
set_option maxRecDepth 100000 in
/-- an automaton that came in -/
theorem open_dfa {H : Type} {enc : TypeId × Value → H} {W : World} {base : Nat} {held : Bool} {v : Value} {d : DataW H} {ps : List MemPlace} {b0 : Nat} {r : Go.Reach}
    (hv : Value.okWide Tryz.prog W r b0 26 v) (h : DataW.Trod enc Tryz.prog W base (fun _ => true) held 26 v d ps) : ∃ D : DfaI, DfaAt W v D ∧ D.In := by
  obtain ⟨cs, rfl, hs⟩ := okWide_struct Tryz.underlying26 hv
  have e4 : Tryz.prog.cellsOf 26 = 4 := by kernel_rfl
  rw [e4] at hs
  obtain ⟨c0, c1, c2, c3, rfl⟩ := Go.Joins.array4 hs
  obtain ⟨fuel, hf⟩ := h
  obtain ⟨y0, y1, y2, y3, n, -, -, h0, h1, h2, h3⟩ := Go.Joins.trod_struct4 Tryz.underlying26 hf
  have e0 : Tryz.prog.cellsOf 3 = 1 := by kernel_rfl
  have e1 : Tryz.prog.cellsOf 22 = 1 := by kernel_rfl
  have e2 : Tryz.prog.cellsOf 23 = 1 := by kernel_rfl
  have e3 : Tryz.prog.cellsOf 24 = 1 := by kernel_rfl
  simp only [e0, e1, e2, e3, Value.cells, List.drop_zero, List.drop_succ_cons, List.take_succ_cons, List.take_zero] at h0 h1 h2 h3
  obtain ⟨s, hs0, -, hw⟩ := DataW.trod_int Tryz.underlying3 h0
  obtain rfl : c0 = .int .i64 s := by simpa using hs0
  obtain ⟨lf, hf1, hf2⟩ := open_boolsAt h1
  obtain ⟨lb, hb1, hb2⟩ := open_intsAt h2
  obtain ⟨ln, hn1, hn2, hn3⟩ := open_irowsAt h3
  exact ⟨⟨s, lf, lb, ln⟩, ⟨c1, c2, c3, rfl, hf1, hb1, hn1⟩, ⟨wf_in64 hw, hf2, hb2, hn2, hn3⟩⟩
end Go.Proofs.YtmmlakheimfijaaGreatDoor
namespace Go.Proofs.YtmmlakheimfijaaGreatDoor
set_option linter.unusedVariables false
open Go.RowKit Go.Sort Go.ChangeShapes Go.WideShapes

theorem tabIs_reads {P : Program} {W : World} {name : String} {k : IntKind} {zs : List Int} {g : Nat} {t e : TypeId} {n : Nat}
    (hg : P.globalNamed name = some g) (hty : (P.globals[g]?).map (·.type) = some t) (ht : P.underlying t = some (.array n e)) (he : P.underlying e = some (.int k)) (hce : P.cellsOf e = 1) (hct : P.cellsOf t = n)
    (h : Lib.VarReads P W name (Lib.tabData k zs)) : Lib.TabIs P W name k zs := by
  obtain ⟨g', t', cs, fuel, p, hg', ht', hvar, hd⟩ := h
  obtain rfl := Option.some.inj (hg.symm.trans hg')
  obtain rfl := Option.some.inj (hty.symm.trans ht')
  unfold Lib.TabIs
  rw [hvar, ← Lib.cells_of_tab ht he hce hct hd]
theorem powNamed : Tryz.prog.globalNamed "internal/strconv.uint64pow10" = some 1 := by kernel_rfl
theorem powType : (Tryz.prog.globals[1]?).map (·.type) = some 165 := by kernel_rfl
theorem pow_same : (Rows.laid_internal_strconv_uint64pow10 : DataW Unit) = Lib.tabData .u64 Lib.pow10Tab := by kernel_rfl
theorem pow_in {W : World} {l : List (String × DataW Unit)} (h : laidMet Tryz.prog l W) (hl : ("internal/strconv.uint64pow10", Rows.laid_internal_strconv_uint64pow10) ∈ l) : Pow10 W := by
  have h3 := Lib.laidMet.reads h hl
  rw [pow_same] at h3
  exact tabIs_reads powNamed powType Tryz.underlying165 Tryz.underlying53 (by kernel_rfl) (by kernel_rfl) h3
end Go.Proofs.YtmmlakheimfijaaGreatDoor
