/-
  Lists of labels in memory; the walks of SameLabels and great. Conditions: the labels lie as Go's.
-/
import Derived.Test.YtgdfklgbdfpinaaDoorLbCut
import Derived.Test.YtgdfklgbdfpinaaDoorRecs
import Derived.Test.YtgdfklgbdfpinaaDoorOnly
import Derived.Laws.StructEq
import Derived.Lib.QuietBelow
import Derived.BigQuiet
import Derived.Deep.QuietTactic
namespace Go.Proofs.YtgdfklgbdfpinaaDoor
set_option linter.unusedVariables false
set_option linter.unusedSimpArgs false
open Go.RowKit Go.Sort Go.ChangeShapes Go.WideShapes

theorem str_eq (a b : ByteArray) : (a.toList == b.toList) = decide (a = b) := by
  rw [toList_data, toList_data]
  by_cases h : a = b
  · subst h; simp
  · have : a.data.toList ≠ b.data.toList := fun e => h (by rw [← txt_data a, ← txt_data b, e])
    rw [decide_eq_false h]
    simpa using this

abbrev Lab := ByteArray × ByteArray
/-- labels in memory -/
def IsLab (w : World) (B : Nat) (A : Option Addr) (l : List Lab) : Prop :=
  l = [] ∨ ∃ b off, A = some ⟨b, off, none⟩ ∧ b < B ∧ ∀ j x, l[j]? = some x → w.cell? ⟨b, off + j * 2, none⟩ = some (.string x.1) ∧ w.cell? ⟨b, off + j * 2 + 1, none⟩ = some (.string x.2)
theorem IsLab.nil_ {w : World} {B : Nat} {A : Option Addr} : IsLab w B A [] := .inl rfl
theorem IsLab.below {w w' : World} {B : Nat} {A : Option Addr} {l : List Lab} (h : IsLab w B A l) (hb : Below B w w') {B' : Nat} (hB : B ≤ B') : IsLab w' B' A l :=
  h.imp id fun ⟨b, off, e, hbB, hc⟩ => ⟨b, off, e, by omega, fun j x hj => ⟨(hb.cell (p := ⟨b, _, none⟩) hbB).trans (hc j x hj).1, (hb.cell (p := ⟨b, _, none⟩) hbB).trans (hc j x hj).2⟩⟩
theorem IsLab.at_ {w : World} {B : Nat} {A : Option Addr} {l : List Lab} (h : IsLab w B A l) {j : Nat} (hj : j < l.length) : ∃ b off x, A = some ⟨b, off, none⟩ ∧ b < B ∧ l[j]? = some x ∧
    (∀ W, Below B w W → W.cell? ⟨b, off + j * 2, none⟩ = some (.string x.1) ∧ W.cell? ⟨b, off + j * 2 + 1, none⟩ = some (.string x.2)) := by
  have hx : l[j]? = some (l[j]'hj) := List.getElem?_eq_getElem hj
  rcases h with h0 | ⟨b, off, hA, hbB, hc⟩
  · rw [h0] at hj; simp at hj
  · obtain ⟨c0, c1⟩ := hc j _ hx
    exact ⟨b, off, _, hA, hbB, hx, fun W hb => ⟨(hb.cell (p := ⟨b, _, none⟩) hbB).trans c0, (hb.cell (p := ⟨b, _, none⟩) hbB).trans c1⟩⟩

theorem run_eq_lab (a b c d : ByteArray) (w : World) (ty : TypeId) (hty : ty = 42) :
    (Op.equalIn 10000 ty (.agg #[.string a, .string b]) (.agg #[.string c, .string d])).run Tryd.prog w = .ok (decide ((a, b) = (c, d))) w := by
  subst hty
  have hst : Tryd.prog.underlying 42 = some (.struct (Tryd.prog.fieldsOf 42)) := by kernel_rfl
  have hfs : ∃ f g : Field, (Tryd.prog.fieldsOf 42).toList = [f, g] ∧ f.type = 9 ∧ g.type = 9 ∧ f.offset = 0 ∧ g.offset = 1 ∧ f.name ≠ "_" ∧ g.name ≠ "_" := ⟨(Tryd.prog.fieldsOf 42).toList[0]!, (Tryd.prog.fieldsOf 42).toList[1]!, by kernel_rfl, by kernel_rfl, by kernel_rfl, by kernel_rfl, by kernel_rfl, of_decide_eq_true (by kernel_rfl), of_decide_eq_true (by kernel_rfl)⟩
  obtain ⟨f, g, hl, tf, tg, of_, og, nf, ng⟩ := hfs
  rw [show (10000 : Nat) = 9999 + 1 from rfl, run_equalIn_struct w 9999 _ _ _ hst (by kernel_rfl), hl]
  have p0 : ∀ x y : ByteArray, (part 9 #[.string x, .string y] 0).run Tryd.prog w = .ok (.string x) w := fun x y => by kernel_rfl
  have p1 : ∀ x y : ByteArray, (part 9 #[.string x, .string y] 1).run Tryd.prog w = .ok (.string y) w := fun x y => by kernel_rfl
  have q : ∀ x y : ByteArray, (Op.equalIn 9999 9 (.string x) (.string y)).run Tryd.prog w = .ok (decide (x = y)) w := fun x y => by
    rw [show (9999 : Nat) = 9998 + 1 from rfl, run_equalIn_string w 9998 _ _ _ Tryd.underlying9, str_eq]
  simp only [Op.eqFields, nf, ng, tf, tg, of_, og, ne_eq, not_false_eq_true, if_true, Sem.run_bind, p0, p1, Result.andThen_ok, q, Sem.run_ite, Sem.run_pure]
  by_cases h0 : a = c <;> by_cases h1 : b = d <;> simp [h0, h1]

theorem below_regrownN (w : World) (n : Nat) : Below w.heap.size w (w.drewN n) := by
  induction n with
  | zero => exact Below.refl _ _
  | succ n ih => exact ih.trans ⟨rfl, rfl, rfl, Nat.le_refl _, fun _ _ => rfl⟩
theorem take_next {l : List Lab} {j : Nat} {x : Lab} (h : l[j]? = some x) : l.take (j + 1) = l.take j ++ [x] := by rw [List.take_add_one, h]; rfl

set_option maxRecDepth 100000 in
set_option maxHeartbeats 2000000 in
theorem same_any (A A2 : Option Addr) (cap cap2 : Nat) (l m : List Lab) (w : World) (hl : IsLab w w.heap.size A l) (hm : IsLab w w.heap.size A2 m) (h1 : l.length ≤ 100000) (h2 : m.length ≤ 100000) :
    Calls Tryd.prog 15 #[.slice A l.length cap, .slice A2 m.length cap2] w fun e w' => e = .returned (.bool (decide (l = m))) ∧ Below w.heap.size w w' := by
  by_cases hne : l.length = m.length
  · have hne' : ((l.length : Int) == (m.length : Int)) = true := by simp [hne]
    have hne'' : ((l.length : Int) != (m.length : Int)) = false := by simp [hne]
    have HN := Lib.hid hne
    have HL := Lib.hid (And.intro hl hm)
    clear hne hl hm
    go_enter Tryd.func15, Tryd.ntmps15
    go_wp2_with fail
    go_loopw [5] (fun c wr => ∃ i : Nat, i ≤ l.length ∧ c = .int .i64 i ∧ Hid (l.take i = m.take i) ∧ Below w.heap.size w wr) (fun c _ => l.length - (intOf c).toNat)
    case atStart => exact ⟨0, by omega, rfl, Lib.hid rfl, Below.refl _ _⟩
    case round =>
      obtain ⟨i, hi, rfl, HS, hB⟩ := hrel
      by_cases hp : i < l.length
      · obtain ⟨b, off, ⟨x1, x2⟩, rfl, hbB, hx, hcell⟩ := HL.out.1.at_ hp
        obtain ⟨b', off', ⟨y1, y2⟩, rfl, hbB', hy, hcell'⟩ := HL.out.2.at_ (j := i) (by have := HN.out; omega)
        obtain ⟨m0, m1⟩ := hcell wr hB
        obtain ⟨n0, n1⟩ := hcell' wr hB
        simp only at m0 m1 n0 n1
        have hp2 : i < m.length := by have := HN.out; omega
        have heq := fun w => run_eq_lab x1 x2 y1 y2 w 42 rfl
        have HX := Lib.hid (And.intro hx hy)
        clear hx hy hcell hcell'
        cases hd : decide ((x1, x2) = (y1, y2)) with
        | true =>
          rw [hd] at heq
          have HD := Lib.hid (of_decide_eq_true hd)
          clear hd
          go_wp2_with fail
          go_quiet (fail)
          have B2 : Below w.heap.size w (wr.drewN nq) := hB.trans ((below_regrownN wr nq).mono hB.size)
          generalize wr.drewN nq = w2 at *
          clear m0 m1 n0 n1
          go_wp2_with fail
          go_roundw
          case rel => exact ⟨i + 1, by omega, by go_num, Lib.hid (by rw [take_next HX.out.1, take_next HX.out.2, HS.out, HD.out]), B2⟩
          case measure => simp [intOf]; omega
        | false =>
          rw [hd] at heq
          have HD := Lib.hid (of_decide_eq_false hd)
          clear hd
          go_wp2_with fail
          go_quiet (fail)
          have B2 : Below w.heap.size w (wr.drewN nq) := hB.trans ((below_regrownN wr nq).mono hB.size)
          generalize wr.drewN nq = w2 at *
          clear m0 m1 n0 n1
          go_wp2_with fail
          go_ret
          refine ⟨ret_bool (decide_eq_false ?_).symm, B2⟩
          intro e
          have e2 := HX.out.1
          rw [e, HX.out.2] at e2
          exact HD.out (Option.some.inj e2).symm
      · go_wp2_with fail
        go_ret
        refine ⟨ret_bool (decide_eq_true ?_).symm, hB⟩
        have := HS.out
        rw [List.take_of_length_le (by omega), List.take_of_length_le (by have := HN.out; omega)] at this
        exact this
  · have hne' : ((l.length : Int) == (m.length : Int)) = false := by simp; omega
    have hne'' : ((l.length : Int) != (m.length : Int)) = true := by simp; omega
    have HN := Lib.hid hne
    clear hne
    go_enter Tryd.func15, Tryd.ntmps15
    go_wp2_with fail
    go_ret
    refine ⟨ret_bool (decide_eq_false ?_).symm, Below.refl _ _⟩
    intro e
    exact HN.out (by rw [e])

def bigL (x : Lab) : Bool := decide (1100 < x.2.size) || decide (100 < x.1.size)
def greatB (l : List Lab) : Bool := decide (40 < l.length) || l.any bigL
set_option maxRecDepth 100000 in
set_option maxHeartbeats 2000000 in
theorem great_any (A : Option Addr) (cap : Nat) (l : List Lab) (w : World) (hl : IsLab w w.heap.size A l) (hc : l.length ≤ maxLen) :
    Calls Tryd.prog 7 #[.slice A l.length cap] w fun e w' => e = .returned (.bool (greatB l)) ∧ w' = w := by
  unfold maxLen at hc
  by_cases h8 : 40 < l.length
  · have h8' : decide (40 < (l.length : Int)) = true := decide_eq_true (by omega)
    have HG : Hid (greatB l = true) := Lib.hid (by rw [greatB, decide_eq_true h8]; rfl)
    go_enter Tryd.func7, Tryd.ntmps7
    go_wp2_with fail
    go_ret
    exact ⟨ret_bool HG.out.symm, rfl⟩
  have h8' : decide (40 < (l.length : Int)) = false := decide_eq_false (by omega)
  have HL := Lib.hid (And.intro hl h8)
  clear hl
  go_enter Tryd.func7, Tryd.ntmps7
  go_wp2_with fail
  go_loop [3] (fun c => ∃ i : Nat, i ≤ l.length ∧ c = .int .i64 i ∧ Hid ((l.take i).any bigL = false)) (fun c => l.length - (intOf c).toNat)
  case atStart => exact ⟨0, by omega, rfl, Lib.hid rfl⟩
  case round =>
    obtain ⟨i, hi, rfl, HS⟩ := hrel
    by_cases hp : i < l.length
    · obtain ⟨b, off, ⟨x1, x2⟩, rfl, hbB, hx, hcell⟩ := HL.out.1.at_ hp
      obtain ⟨m0, m1⟩ := hcell w (Below.refl _ _)
      simp only at m0 m1
      have HX := Lib.hid hx
      clear hx hcell
      have hr : (1100 < x2.size) ∨ (¬ 1100 < x2.size ∧ 100 < x1.size) ∨ (¬ 1100 < x2.size ∧ ¬ 100 < x1.size) := by omega
      rcases hr with k | ⟨k, k2⟩ | ⟨k, k2⟩
      · have q1 : decide (1100 < (x2.size : Int)) = true := decide_eq_true (by omega)
        have KK := Lib.hid k
        clear k
        go_wp2_with fail
        go_ret
        refine ⟨ret_bool ?_, rfl⟩
        symm
        rw [greatB, Bool.or_eq_true]
        exact .inr (List.any_eq_true.2 ⟨_, List.mem_of_getElem? HX.out, by rw [bigL, decide_eq_true KK.out]; rfl⟩)
      · have q1 : decide (1100 < (x2.size : Int)) = false := decide_eq_false (by omega)
        have q2 : decide (100 < (x1.size : Int)) = true := decide_eq_true (by omega)
        have KK := Lib.hid k2
        clear k k2
        go_wp2_with fail
        go_ret
        refine ⟨ret_bool ?_, rfl⟩
        symm
        rw [greatB, Bool.or_eq_true]
        exact .inr (List.any_eq_true.2 ⟨_, List.mem_of_getElem? HX.out, by rw [bigL, decide_eq_true KK.out, Bool.or_true]⟩)
      · have q1 : decide (1100 < (x2.size : Int)) = false := decide_eq_false (by omega)
        have q2 : decide (100 < (x1.size : Int)) = false := decide_eq_false (by omega)
        have KK := Lib.hid (And.intro k k2)
        clear k k2
        go_wp2_with fail
        go_round
        case rel => exact ⟨i + 1, by omega, by go_num, Lib.hid (by rw [take_next HX.out, List.any_append, HS.out]; simp [bigL]; have := KK.out; omega)⟩
        case measure => simp [intOf]; omega
    · go_wp2_with fail
      go_ret
      refine ⟨ret_bool ?_, rfl⟩
      symm
      have := HS.out
      rw [List.take_of_length_le (by omega)] at this
      rw [greatB, decide_eq_false HL.out.2, this]
      rfl
theorem great_lit (A : Option Addr) (cap : Nat) (l : List Lab) (w : World) (b : Bool) (hl : IsLab w w.heap.size A l) (hc : l.length ≤ maxLen) (h : greatB l = b) :
    Calls Tryd.prog 7 #[.slice A l.length cap] w fun e w' => e = .returned (.bool b) ∧ w' = w := by rw [← h]; exact great_any A cap l w hl hc
end Go.Proofs.YtgdfklgbdfpinaaDoor
