/-
  The tables that are laid, from the row's condition. Conditions: none but what each says.
  A tree that came in, opened. Conditions: it reads as Go's data do.
-/
import Derived.Test.YtpknglbpbodnbaaDoorJRgOften2
import Derived.Test.YtpknglbpbodnbaaDoorJCsOpen
import Derived.Test.YtpknglbpbodnbaaDoorRows
import Derived.Lib.LaidU8
import Derived.Lib.LaidTab
import Derived.LaidHandle
import Derived.Test.YtpknglbpbodnbaaDoorJRgMem
import Derived.Test.YtpknglbpbodnbaaDoorJKit
namespace Go.Proofs.YtpknglbpbodnbaaDoor
set_option linter.unusedVariables false
set_option linter.unusedSimpArgs false
open Go.RowKit Go.Sort Cs Rg Go.ChangeShapes Go.WideShapes Go.ChangeAt

theorem tabIs_of {P : Program} {W : World} {name : String} {k : IntKind} {zs : List Int} {g : Nat} {t e : TypeId} {n : Nat}
    (hg : P.globalNamed name = some g) (hty : (P.globals[g]?).map (·.type) = some t) (ht : P.underlying t = some (.array n e)) (he : P.underlying e = some (.int k)) (hce : P.cellsOf e = 1) (hct : P.cellsOf t = n)
    (h : Lib.VarReads P W name (Lib.tabData k zs)) : Lib.TabIs P W name k zs := by
  obtain ⟨g', t', cs, fuel, p, hg', ht', hvar, hd⟩ := h
  obtain rfl := Option.some.inj (hg.symm.trans hg')
  obtain rfl := Option.some.inj (hty.symm.trans ht')
  unfold Lib.TabIs
  rw [hvar, ← Lib.cells_of_tab ht he hce hct hd]
theorem tab64_same : (Rows.laid_math_bits_deBruijn64tab : DataW Unit) = Lib.tabData .u8 (Lib.deBruijn64tab.map Int.ofNat) := by kernel_rfl
theorem tab14_in {W : World} {l : List (String × DataW Unit)} (h : laidMet Tryd.prog l W) (hl : ("math/bits.deBruijn64tab", Rows.laid_math_bits_deBruijn64tab) ∈ l) : TabIn W := by
  have h3 := Lib.laidMet.reads h hl
  rw [tab64_same] at h3
  have hT := tabIs_of tabNamed tabType Tryd.underlying88 Tryd.underlying5 (by kernel_rfl) (by kernel_rfl) h3
  have hc : ∀ j, j < 64 → W.cell? ⟨1, j, none⟩ = some (.int .u8 (Lib.deBruijn64tab.getD j 0)) := fun j hj => by
    have hlen : Lib.deBruijn64tab.length = 64 := by decide
    rw [hT.cell tabNamed j (by rw [List.length_map, hlen]; exact hj)]
    congr 2
    simp [List.getD, hlen, hj]
  exact ⟨World.block_lt_of_cell? W _ (hc 0 (by decide)), hc⟩
theorem marksNamed : Tryd.prog.globalNamed "porter/regtext.marks" = some 0 := by kernel_rfl
theorem marksType : (Tryd.prog.globals[0]?).map (·.type) = some 77 := by kernel_rfl
set_option maxHeartbeats 8000000 in
set_option maxRecDepth 1000000 in
theorem mark_cells {fuel : Nat} {cs : List Value} {W : World} {a b : Int} {s : List UInt8} {p : List MemPlace}
    (h : DataW.trod (fun _ => ()) Tryd.prog W 0 (fun _ => true) false fuel 76 cs = some (.agg [.lit (.int .i64 a), .lit (.int .i64 b), .lit (.string s)], p)) :
    cs = [.int .i64 a, .int .i64 b, .string ⟨s.toArray⟩] := by
  have hct : Tryd.prog.cellsOf 76 = 3 := by kernel_rfl
  have hci : Tryd.prog.cellsOf 3 = 1 := by kernel_rfl
  have hcs : Tryd.prog.cellsOf 9 = 1 := by kernel_rfl
  obtain ⟨xs, n, rfl, hx, hl, hxl, hall⟩ := DataW.trod_struct Tryd.underlying76 h
  rw [hct] at hl
  have h0 : DataW.trod (fun _ => ()) Tryd.prog W 0 (fun _ => true) false n 3 ((cs.drop 0).take (Tryd.prog.cellsOf 3)) = xs[0]? := hall 0 _ rfl
  have h1 : DataW.trod (fun _ => ()) Tryd.prog W 0 (fun _ => true) false n 3 ((cs.drop 1).take (Tryd.prog.cellsOf 3)) = xs[1]? := hall 1 _ rfl
  have h2 : DataW.trod (fun _ => ()) Tryd.prog W 0 (fun _ => true) false n 9 ((cs.drop 2).take (Tryd.prog.cellsOf 9)) = xs[2]? := hall 2 _ rfl
  rw [hci] at h0 h1
  rw [hcs] at h2
  have hxs : xs.map (·.1) = [.lit (.int .i64 a), .lit (.int .i64 b), .lit (.string s)] := by
    have := congrArg Prod.fst hx
    simpa using this.symm
  match xs, hxs with
  | [x0, x1, x2], hxs =>
    simp at hxs h0 h1 h2
    obtain ⟨z0, e0, f0, _⟩ := DataW.trod_int Tryd.underlying3 h0
    obtain ⟨z1, e1, f1, _⟩ := DataW.trod_int Tryd.underlying3 h1
    obtain ⟨z2, e2, f2, _⟩ := DataW.trod_string Tryd.underlying9 h2
    rw [f0, f1, f2] at hxs
    simp at hxs
    obtain ⟨rfl, rfl, h5⟩ := hxs
    match cs, hl with
    | [c0, c1, c2], _ =>
      simp at e0 e1 e2
      subst e0 e1 e2
      have : z2 = ⟨s.toArray⟩ := by rcases z2 with ⟨⟨l⟩⟩; simp at h5; rw [h5]
      rw [this]
set_option maxHeartbeats 8000000 in
set_option maxRecDepth 1000000 in
theorem marks_in {W : World} {l : List (String × DataW Unit)} (h : laidMet Tryd.prog l W) (hl : ("porter/regtext.marks", Rows.laid_porter_regtext_marks) ∈ l) : MarksIn W := by
  have h3 := Lib.laidMet.reads h hl
  obtain ⟨g, t, cs, fuel, p, hg, hty, hvar, hd⟩ := h3
  obtain rfl := Option.some.inj (marksNamed.symm.trans hg)
  obtain rfl := Option.some.inj (marksType.symm.trans hty)
  have hce : Tryd.prog.cellsOf 76 = 3 := by kernel_rfl
  have hc : ∀ i : Nat, i < 3 → ∃ a b s, Rows.laid_porter_regtext_marks (H := Unit) = Rows.laid_porter_regtext_marks ∧ ((i = 0 ∧ a = 0 ∧ b = -1 ∧ s = [42]) ∨ (i = 1 ∧ a = 1 ∧ b = -1 ∧ s = [43]) ∨ (i = 2 ∧ a = 0 ∧ b = 1 ∧ s = [63])) ∧
      (cs.toList.drop (i * 3)).take 3 = [.int .i64 a, .int .i64 b, .string ⟨(s : List UInt8).toArray⟩] := by
    intro i hi
    unfold Rows.laid_porter_regtext_marks at hd
    obtain ⟨fuel', d, q, hdi, he⟩ := Lib.array_elem Tryd.underlying77 hd i hi
    rw [hce] at he
    match i, hi with
    | 0, _ => simp at hdi; subst hdi; exact ⟨0, -1, [42], rfl, .inl ⟨rfl, rfl, rfl, rfl⟩, mark_cells he⟩
    | 1, _ => simp at hdi; subst hdi; exact ⟨1, -1, [43], rfl, .inr (.inl ⟨rfl, rfl, rfl, rfl⟩), mark_cells he⟩
    | 2, _ => simp at hdi; subst hdi; exact ⟨0, 1, [63], rfl, .inr (.inr ⟨rfl, rfl, rfl, rfl⟩), mark_cells he⟩
  have hcell : ∀ j v, marksC[j]? = some v → W.cell? ⟨0, j, none⟩ = some v := by
    intro j v hj
    rw [World.var?_cell marksNamed hvar j, ← Array.getElem?_toList]
    have key : ∀ i r : Nat, r < 3 → cs.toList[i * 3 + r]? = ((cs.toList.drop (i * 3)).take 3)[r]? := by
      intro i r hr
      rw [List.getElem?_take, if_pos hr, List.getElem?_drop]
    have hj9 : j < 9 := by
      have := (Array.getElem?_eq_some_iff.1 hj).1
      exact this
    obtain ⟨i, r, hi, hr, rfl⟩ : ∃ i r : Nat, i < 3 ∧ r < 3 ∧ j = i * 3 + r := ⟨j / 3, j % 3, by omega, by omega, by omega⟩
    rw [key i r hr]
    obtain ⟨a, b, s, _, hor, hc⟩ := hc i hi
    rw [hc, ← hj]
    rcases hor with ⟨rfl, rfl, rfl, rfl⟩ | ⟨rfl, rfl, rfl, rfl⟩ | ⟨rfl, rfl, rfl, rfl⟩ <;>
    · match r, hr with
      | 0, _ => rfl
      | 1, _ => rfl
      | 2, _ => rfl
  exact ⟨World.block_lt_of_cell? W _ (hcell 0 _ rfl), hcell⟩
end Go.Proofs.YtpknglbpbodnbaaDoor
namespace Go.Proofs.YtpknglbpbodnbaaDoor
set_option linter.unusedVariables false
set_option linter.unusedSimpArgs false
open Go.RowKit Go.Sort Cs Rg Go.ChangeShapes Go.WideShapes Go.ChangeAt

theorem RowAt.of {w : World} {b : Nat} {l : List Nd} : ∀ {o : Nat}, (∀ i n, l[i]? = some n → ∃ (a : Option Addr) (c : Nat), Lies w b (o + i * 8) (cellsN n.kind n.set (.slice a n.kids.length c) n.lo n.hi) ∧ NdIn w a n) → RowAt w b o l := by
  induction l with
  | nil => intro o _; trivial
  | cons m l ih =>
    intro o h
    rw [RowAt]
    refine ⟨by simpa using h 0 m rfl, ih fun i n hi => ?_⟩
    have := h (i + 1) n (by simpa using hi)
    have e : o + 8 + i * 8 = o + (i + 1) * 8 := by omega
    rw [e]
    exact this
theorem sizeL_bulk {H : Type} : ∀ {l : List Nd} {es : List (DataW H)}, l.length = es.length → (∀ (i : Nat) (n : Nd) (e : DataW H), l[i]? = some n → es[i]? = some e → sizeN n ≤ Rows.uptoBulk e) → sizeL l ≤ Rows.uptoBulkAll es
  | [], _, _, _ => by rw [sizeL]; exact Nat.zero_le _
  | n :: l, [], h, _ => by simp at h
  | n :: l, e :: es, h, hh => by
    have h1 := hh 0 n e rfl rfl
    have h2 := sizeL_bulk (l := l) (es := es) (by simpa using h) fun i m f hi hf => hh (i + 1) m f (by simpa using hi) (by simpa using hf)
    rw [sizeL, Rows.uptoBulkAll]
    omega
section
variable {H : Type} {enc : TypeId × Value → H} {W : World} {base : Nat} {held : Bool}
set_option maxHeartbeats 8000000 in
set_option maxRecDepth 1000000 in
theorem open_setC {fuel : Nat} {c0 c1 c2 c3 : Value} {y : DataW H × List MemPlace} (hf : DataW.trod enc Tryd.prog W base (fun _ => true) held fuel 24 [c0, c1, c2, c3] = some y) :
    ∃ S : S4, SetIn S.f ∧ c0 = .int .u64 S.a ∧ c1 = .int .u64 S.b ∧ c2 = .int .u64 S.c ∧ c3 = .int .u64 S.d := by
  obtain ⟨ys, m, _, _, _, hl, hm⟩ := DataW.trod_array Tryd.underlying24 hf
  have hce : Tryd.prog.cellsOf 22 = 1 := by kernel_rfl
  have h0 := hm 0 (by omega)
  have h1 := hm 1 (by omega)
  have h2 := hm 2 (by omega)
  have h3 := hm 3 (by omega)
  rw [hce] at h0 h1 h2 h3
  obtain ⟨y0, y1, y2, y3, rfl⟩ : ∃ y0 y1 y2 y3, ys = [y0, y1, y2, y3] := by
    match ys, hl with
    | [y0, y1, y2, y3], _ => exact ⟨y0, y1, y2, y3, rfl⟩
  simp at h0 h1 h2 h3
  obtain ⟨a0, e0, _, w0⟩ := DataW.trod_int Tryd.underlying22 h0
  obtain ⟨a1, e1, _, w1⟩ := DataW.trod_int Tryd.underlying22 h1
  obtain ⟨a2, e2, _, w2⟩ := DataW.trod_int Tryd.underlying22 h2
  obtain ⟨a3, e3, _, w3⟩ := DataW.trod_int Tryd.underlying22 h3
  simp at e0 e1 e2 e3
  subst e0 e1 e2 e3
  refine ⟨⟨a0, a1, a2, a3⟩, fun i => ?_, rfl, rfl, rfl, rfl⟩
  have := u64_wf w0; have := u64_wf w1; have := u64_wf w2; have := u64_wf w3
  simp only [S4.f]
  split
  · assumption
  · split
    · assumption
    · split
      · assumption
      · split
        · assumption
        · omega
/-- a node, opened -/
def Opened (W : World) (cs : List Value) (d : DataW H) : Prop :=
  ∃ (n : Nd) (a : Option Addr) (c : Nat), cs = cellsN n.kind n.set (.slice a n.kids.length c) n.lo n.hi ∧ NdIn W a n ∧ InN n ∧ sizeN n ≤ Rows.uptoBulk d
set_option maxHeartbeats 8000000 in
set_option maxRecDepth 1000000 in
theorem open_nodeC (fuel : Nat) : ∀ (cs : List Value) (y : DataW H × List MemPlace), DataW.trod enc Tryd.prog W base (fun _ => true) held fuel 27 cs = some y → Opened W cs y.1 := by
  induction fuel using Nat.strongRecOn with
  | ind fuel ih =>
    intro cs y hf
    have hct : Tryd.prog.cellsOf 27 = 8 := by kernel_rfl
    have hci : Tryd.prog.cellsOf 3 = 1 := by kernel_rfl
    have hcs : Tryd.prog.cellsOf 24 = 4 := by kernel_rfl
    have hck : Tryd.prog.cellsOf 25 = 1 := by kernel_rfl
    obtain ⟨xs, m, rfl, hx, hl, hxl, hall⟩ := DataW.trod_struct Tryd.underlying27 hf
    rw [hct] at hl
    have h0 : DataW.trod enc Tryd.prog W base (fun _ => true) held m 3 ((cs.drop 0).take (Tryd.prog.cellsOf 3)) = xs[0]? := hall 0 _ rfl
    have h1 : DataW.trod enc Tryd.prog W base (fun _ => true) held m 24 ((cs.drop 1).take (Tryd.prog.cellsOf 24)) = xs[1]? := hall 1 _ rfl
    have h2 : DataW.trod enc Tryd.prog W base (fun _ => true) held m 25 ((cs.drop 5).take (Tryd.prog.cellsOf 25)) = xs[2]? := hall 2 _ rfl
    have h3 : DataW.trod enc Tryd.prog W base (fun _ => true) held m 3 ((cs.drop 6).take (Tryd.prog.cellsOf 3)) = xs[3]? := hall 3 _ rfl
    have h4 : DataW.trod enc Tryd.prog W base (fun _ => true) held m 3 ((cs.drop 7).take (Tryd.prog.cellsOf 3)) = xs[4]? := hall 4 _ rfl
    have hxl5 : xs.length = 5 := hxl
    rw [hci] at h0 h3 h4
    rw [hcs] at h1
    rw [hck] at h2
    clear hall hxl hf
    match xs, hxl5 with
    | [x0, x1, x2, x3, x4], _ =>
    match cs, hl with
    | [c0, c1, c2, c3, c4, c5, c6, c7], _ =>
    simp at h0 h1 h2 h3 h4
    obtain ⟨k, e0, f0, -⟩ := DataW.trod_int Tryd.underlying3 h0
    obtain ⟨lo, e3, f3, -⟩ := DataW.trod_int Tryd.underlying3 h3
    obtain ⟨hi, e4, f4, -⟩ := DataW.trod_int Tryd.underlying3 h4
    obtain ⟨S, hS, rfl, rfl, rfl, rfl⟩ := open_setC h1
    simp at e0 e3 e4
    subst e0 e3 e4
    have hb : Rows.uptoBulk x2.1 + 1 ≤ Rows.uptoBulk y.1 := by
      rw [hx]
      simp only [List.map_cons, List.map_nil, Rows.uptoBulk, Rows.uptoBulkAll]
      omega
    rcases DataW.trod_slice Tryd.underlying25 h2 with ⟨e2, -⟩ | ⟨a, len, cap, elems, rest, n', rfl, e2, f2, hba, hlc, hcm, hel, hi2, -, -⟩
    · simp at e2
      subst e2
      refine ⟨.mk k S [] lo hi, none, 0, rfl, ?_, ?_, ?_⟩
      · rw [NdIn]; exact ⟨by unfold maxLen; simp, .inl rfl⟩
      · rw [InN, InL]; exact ⟨hS, trivial⟩
      · rw [sizeN, sizeL]; omega
    · simp at e2
      subst e2
      rw [hct] at hi2
      have hcell : ∀ i, i < len → ∃ cs' e, elems[i]? = some e ∧ W.cells? base (a.add (i * 8)) 8 = some cs' ∧ DataW.trod enc Tryd.prog W base (fun _ => true) held n' 27 cs' = some e := by
        intro i hil
        have h5 := hi2 i hil
        have h6 : elems[i]? = some (elems[i]'(by omega)) := List.getElem?_eq_getElem (by omega)
        rw [h6] at h5
        cases hc : W.cells? base (a.add (i * 8)) 8 with
        | none => rw [hc] at h5; cases h5
        | some cs' => rw [hc] at h5; exact ⟨cs', _, h6, rfl, h5⟩
      obtain ⟨l, hll, hlr⟩ := list_of len (fun i (n : Nd) => ∃ e, elems[i]? = some e ∧ ∃ a' c', W.cells? base (a.add (i * 8)) 8 = some (cellsN n.kind n.set (.slice a' n.kids.length c') n.lo n.hi) ∧ NdIn W a' n ∧ InN n ∧ sizeN n ≤ Rows.uptoBulk e.1) fun i hil => by
        obtain ⟨cs', e, g1, g2, g3⟩ := hcell i hil
        obtain ⟨n, a', c', rfl, g4, g5, g6⟩ := ih n' (by omega) cs' e g3
        exact ⟨n, e, g1, a', c', g2, g4, g5, g6⟩
      subst hll
      refine ⟨.mk k S l lo hi, some a, cap, rfl, ?_, ?_, ?_⟩
      · rw [NdIn]
        refine ⟨by omega, ?_⟩
        rcases Nat.eq_zero_or_pos l.length with hz | hz
        · exact .inl (List.eq_nil_of_length_eq_zero hz)
        right
        have key : ∀ i n, l[i]? = some n → ∃ a' c', (∀ j v, (cellsN n.kind n.set (.slice a' n.kids.length c') n.lo n.hi)[j]? = some v → W.cell? (a.add (i * 8 + j)) = some v) ∧ NdIn W a' n := by
          intro i n hin
          obtain ⟨e, -, a', c', hc, hn, -, -⟩ := hlr i n hin
          obtain ⟨_, hcl, hat⟩ := World.cells?_some hc
          refine ⟨a', c', fun j v hj => ?_, hn⟩
          have hj8 : j < 8 := (List.getElem?_eq_some_iff.1 hj).1
          rw [← Go.Deep.add_add, hat j hj8]
          exact hj
        obtain ⟨b, off, spot⟩ := a
        obtain ⟨a0, d0, hc0, -⟩ := key 0 (l[0]'hz) (List.getElem?_eq_getElem hz)
        have hc1 := hc0 0 _ rfl
        have hspot : spot = none := by simpa [Addr.add] using World.cell?_spot hc1
        subst hspot
        obtain ⟨u0, hc2⟩ : ∃ v, W.cell? ⟨b, off, none⟩ = some v := ⟨.int .i64 (l[0]'hz).kind, by simpa [Addr.add] using hc1⟩
        refine ⟨b, off, rfl, World.block_lt_of_cell? W _ hc2, RowAt.of fun i n hin => ?_⟩
        obtain ⟨a', c', h5, h6⟩ := key i n hin
        refine ⟨a', c', fun j v hj => ?_, h6⟩
        have := h5 j v hj
        rw [Addr.add_lit] at this
        rw [Nat.add_assoc]
        exact this
      · rw [InN, InL_iff]
        refine ⟨hS, fun n hn => ?_⟩
        obtain ⟨i, hin⟩ := List.getElem?_of_mem hn
        obtain ⟨e, -, a', c', -, -, h5, -⟩ := hlr i n hin
        exact h5
      · have hs := sizeL_bulk (l := l) (es := elems.map (·.1)) (by simpa using hel.symm) fun i n e hin he => by
          obtain ⟨e', h5, a', c', -, -, -, h6⟩ := hlr i n hin
          rw [List.getElem?_map, h5] at he
          cases he
          exact h6
        rw [f2] at hb
        simp only [Rows.uptoBulk] at hb
        rw [sizeN]
        omega
theorem open_node {r : Reach} {b0 : Nat} {v : Value} {d : DataW H} {ps : List MemPlace} (hv : Value.okWide Tryd.prog W r b0 27 v) (h : DataW.Trod enc Tryd.prog W base (fun _ => true) held 27 v d ps) :
    ∃ n : Nd, NdAt W v n ∧ InN n ∧ sizeN n ≤ Rows.uptoBulk d := by
  obtain ⟨cs, rfl, hs⟩ := okWide_struct Tryd.underlying27 hv
  obtain ⟨fuel, hf⟩ := h
  obtain ⟨n, a, c, hcs, h1, h2, h3⟩ := open_nodeC fuel _ _ hf
  refine ⟨n, ⟨a, c, ?_, h1⟩, h2, h3⟩
  rcases cs with ⟨l⟩
  simp [Value.cells] at hcs
  rw [hcs]
  rfl
end
end Go.Proofs.YtpknglbpbodnbaaDoor
