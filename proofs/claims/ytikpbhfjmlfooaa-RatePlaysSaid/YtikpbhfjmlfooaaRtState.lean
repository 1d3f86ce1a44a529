/-
  Rates in memory; timed, Begin, of, Take, Left. Conditions: each lemma says its own.
-/
import Derived.Test.YtikpbhfjmlfooaaRtMap
import Derived.Test.YtikpbhfjmlfooaaSplit
import Derived.Test.YtikpbhfjmlfooaaAlloc2
import Derived.Deep.DeepCutAuto
import Derived.Test.YtikpbhfjmlfooaaBucketLaw
import Derived.Lib.QuietBelow
namespace Go.Proofs.Ytikpbhfjmlfooaa
set_option linter.unusedVariables false
set_option linter.unusedSimpArgs false
open Go.RowKit Go.Maps Go.Sort

theorem timed_any (n : Int) (w : World) : Calls Try.prog 42 #[.int .i64 n] w fun e w' => e = .returned (.bool (withinB n 1099511627776)) ∧ w' = w := by
  by_cases h1 : 0 ≤ n
  · have h1' : decide (0 ≤ n) = true := decide_eq_true h1
    go_enter Try.func42, Try.ntmps42
    go_wp2_with fail
    go_ret
    exact ⟨ret_bool (by simp [withinB, h1]), rfl⟩
  · have h1' : decide (0 ≤ n) = false := decide_eq_false h1
    go_enter Try.func42, Try.ntmps42
    go_wp2_with fail
    go_ret
    exact ⟨ret_bool (by rw [withinB, h1', Bool.false_and]), rfl⟩
theorem timed_lit (n : Int) (w : World) (b : Bool) (h : withinB n 1099511627776 = b) : Calls Try.prog 42 #[.int .i64 n] w fun e w' => e = .returned (.bool b) ∧ w' = w := by
  rw [← h]; exact timed_any n w

def ratesV (mc mb : Nat) (bg : Int) : Array Value := #[.map (some mc), .map (some mb), .int .i64 bg]
structure RatesAt (rp mc mb n k : Nat) (g : ByteArray → Option (Int × Int)) (f : ByteArray → ByteArray → Option Bkt) (bg : Int) (w : World) : Prop where
  head : Blk w rp 65 (ratesV mc mb bg)
  cls : ∃ D, w.ownsMap Try.prog 9 Rcls mc n D ∧ ClsMap D g
  bkt : ∃ D, w.ownsMap Try.prog 77 Rbkt mb k D ∧ BktMap D f
  ne : mc ≠ mb
theorem RatesAt.lt {rp mc mb n k : Nat} {g : ByteArray → Option (Int × Int)} {f : ByteArray → ByteArray → Option Bkt} {bg : Int} {w : World} (h : RatesAt rp mc mb n k g f bg w) : rp < w.heap.size ∧ mc < w.heap.size ∧ mb < w.heap.size := by
  obtain ⟨D, h1, _⟩ := h.cls
  obtain ⟨E, h2, _⟩ := h.bkt
  exact ⟨h.head.lt, map_lt h1, map_lt h2⟩
theorem RatesAt.only {rp mc mb n k : Nat} {g : ByteArray → Option (Int × Int)} {f : ByteArray → ByteArray → Option Bkt} {bg : Int} {S : List Nat} {w w' : World} (h : RatesAt rp mc mb n k g f bg w) (ho : Only S w w') (h1 : rp ∉ S) (h2 : mc ∉ S) (h3 : mb ∉ S) : RatesAt rp mc mb n k g f bg w' := by
  obtain ⟨D, d1, d2⟩ := h.cls
  obtain ⟨E, e1, e2⟩ := h.bkt
  exact ⟨h.head.only ho h1, ⟨D, map_only d1 ho h2, d2⟩, ⟨E, map_only e1 ho h3, e2⟩, h.ne⟩
theorem RatesAt.keep {rp mc mb n k : Nat} {g : ByteArray → Option (Int × Int)} {f : ByteArray → ByteArray → Option Bkt} {bg : Int} {w w' : World} (h : RatesAt rp mc mb n k g f bg w) (hb : Below w.heap.size w w') : RatesAt rp mc mb n k g f bg w' :=
  h.only (Only.of_below (S := []) hb) (by simp) (by simp) (by simp)
/-- the bucket of a tenant and a class -/
def bktOf (g : ByteArray → Option (Int × Int)) (f : ByteArray → ByteArray → Option Bkt) (bg : Int) (t c : ByteArray) : Bkt := match g c with
  | some x => (f t c).getD (x.1, x.2, 0, bg)
  | none => (0, 0, 0, 0)

set_option maxRecDepth 100000 in
set_option maxHeartbeats 4000000 in
theorem rof_nil (t c : ByteArray) (w : World) : Calls Try.prog 45 #[.pointer none, .agg #[.string t, .string c]] w fun e w' => e = .returned (.tuple #[bktV (0, 0, 0, 0), .bool false]) ∧ Below w.heap.size w w' := by
  go_enter Try.func45, Try.ntmps45
  go_wp2_with fail
  exact bodyPost_ret (v := .tuple #[bktV (0, 0, 0, 0), .bool false]) (by simp [results, Try.results45, go_sem, bktV]) rfl ⟨rfl, ((Below.refl _ _).alloc (Nat.le_refl _) _).alloc (by simp) _⟩
theorem alloc_cls (o : Oper) (h : o.op = .alloc 31) (ρ : Operand → Value) (w : World) :
    (execOp ρ o).run Try.prog w = .ok (.value (.pointer (some ⟨w.heap.size, 0, none⟩))) (w.alloc (.cells #[.string ⟨#[]⟩, .int .i64 0, .int .i64 0] 31)) := by
  simp [execOp, h, go_sem]
theorem alloc_bkt (o : Oper) (h : o.op = .alloc 23) (ρ : Operand → Value) (w : World) :
    (execOp ρ o).run Try.prog w = .ok (.value (.pointer (some ⟨w.heap.size, 0, none⟩))) (w.alloc (.cells #[.int .i64 0, .int .i64 0, .int .i64 0, .int .i64 0] 23)) := by
  simp [execOp, h, go_sem]
def zeroCl (_ : TypeId) : Array Value := #[.string ⟨#[]⟩, .int .i64 0, .int .i64 0]
def zeroBk (_ : TypeId) : Array Value := #[.int .i64 0, .int .i64 0, .int .i64 0, .int .i64 0]
theorem RatesAt.cells {rp mc mb n k : Nat} {g : ByteArray → Option (Int × Int)} {f : ByteArray → ByteArray → Option Bkt} {bg : Int} {w : World} (h : RatesAt rp mc mb n k g f bg w) :
    w.cell? ⟨rp, 0, none⟩ = some (.map (some mc)) ∧ w.cell? ⟨rp, 1, none⟩ = some (.map (some mb)) ∧ w.cell? ⟨rp, 2, none⟩ = some (.int .i64 bg) := ⟨h.head.cell 0, h.head.cell 1, h.head.cell 2⟩
theorem RatesAt.look {rp mc mb n k : Nat} {g : ByteArray → Option (Int × Int)} {f : ByteArray → ByteArray → Option Bkt} {bg : Int} {w : World} (h : RatesAt rp mc mb n k g f bg w) (s : ByteArray) (hs : s.size ≤ maxLen) :
    (Instr.lookup 62 (.map (some mc)) (.string s) true).run Try.prog w = .ok (.tuple #[clsOf g s, .bool (g s).isSome]) w := by
  obtain ⟨D, h1, h2⟩ := h.cls
  exact cls_look h1 h2 s hs
theorem RatesAt.lookB {rp mc mb n k : Nat} {g : ByteArray → Option (Int × Int)} {f : ByteArray → ByteArray → Option Bkt} {bg : Int} {w : World} (h : RatesAt rp mc mb n k g f bg w) (t c : ByteArray) (ht : t.size ≤ maxLen) (hc : c.size ≤ maxLen) :
    (Instr.lookup 63 (.map (some mb)) (.agg #[.string t, .string c]) true).run Try.prog w = .ok (.tuple #[bktV ((f t c).getD (0, 0, 0, 0)), .bool (f t c).isSome]) w := by
  obtain ⟨D, h1, h2⟩ := h.bkt
  exact bkt_look h1 h2 t c ht hc
/-- what holds in of -/
structure OfAt (B rp mc mb n k : Nat) (g : ByteArray → Option (Int × Int)) (f : ByteArray → ByteArray → Option Bkt) (bg : Int) (t c : ByteArray) (w w' : World) : Prop where
  rates : RatesAt rp mc mb n k g f bg w'
  who : Blk w' B 77 #[.string t, .string c]
  res : Blk w' (B + 1) 23 #[.int .i64 0, .int .i64 0, .int .i64 0, .int .i64 0]
  below : Below B w w'
  room : B + 2 ≤ w'.heap.size
  old : rp < B ∧ mc < B ∧ mb < B
theorem OfAt.only {B rp mc mb n k : Nat} {g : ByteArray → Option (Int × Int)} {f : ByteArray → ByteArray → Option Bkt} {bg : Int} {t c : ByteArray} {w w1 w2 : World} {S : List Nat} (h : OfAt B rp mc mb n k g f bg t c w w1) (ho : Only S w1 w2) (hS : ∀ i ∈ S, B + 2 ≤ i) : OfAt B rp mc mb n k g f bg t c w w2 := by
  obtain ⟨o1, o2, o3⟩ := h.old
  have hr := h.room
  have ns : ∀ i, i < B + 2 → i ∉ S := fun i hi hm => by have := hS i hm; omega
  exact ⟨h.rates.only ho (ns _ (by omega)) (ns _ (by omega)) (ns _ (by omega)), h.who.only ho (ns _ (by omega)), h.res.only ho (ns _ (by omega)), h.below.trans (ho.below (by omega) (fun i hi => by have := hS i hi; omega)), by have := ho.size; omega, h.old⟩

/-- behind the look for the class -/
def OfCls (B rp mc mb n k : Nat) (g : ByteArray → Option (Int × Int)) (f : ByteArray → ByteArray → Option Bkt) (bg : Int) (t c : ByteArray) (w : World) (s : ByteArray) (x : Int × Int) (b : Bool) (s6 s7 : Value) (W : World) : Prop :=
  ∃ p : Nat, s6 = .pointer (some ⟨p, 0, none⟩) ∧ s7 = .bool b ∧ Blk W p 31 #[.string s, .int .i64 x.1, .int .i64 x.2] ∧ B + 2 ≤ p ∧ OfAt B rp mc mb n k g f bg t c w W
/-- behind the look for the bucket -/
def OfBkt (B rp mc mb n k : Nat) (g : ByteArray → Option (Int × Int)) (f : ByteArray → ByteArray → Option Bkt) (bg : Int) (t c : ByteArray) (w : World) (p : Nat) (s : ByteArray) (x : Int × Int) (y : Bkt) (b : Bool) (s8 s9 : Value) (W : World) : Prop :=
  ∃ q : Nat, s8 = .pointer (some ⟨q, 0, none⟩) ∧ s9 = .bool b ∧ Blk W q 23 #[.int .i64 y.1, .int .i64 y.2.1, .int .i64 y.2.2.1, .int .i64 y.2.2.2] ∧ B + 2 ≤ q ∧ Blk W p 31 #[.string s, .int .i64 x.1, .int .i64 x.2] ∧ OfAt B rp mc mb n k g f bg t c w W
theorem OfAt.start {rp mc mb n k : Nat} {g : ByteArray → Option (Int × Int)} {f : ByteArray → ByteArray → Option Bkt} {bg : Int} (t c : ByteArray) {w : World} (h : RatesAt rp mc mb n k g f bg w) :
    OfAt w.heap.size rp mc mb n k g f bg t c w ((w.alloc (.cells #[.string t, .string c] 77)).alloc (.cells #[.int .i64 0, .int .i64 0, .int .i64 0, .int .i64 0] 23)) :=
  ⟨h.keep (((Below.refl _ _).alloc (Nat.le_refl _) _).alloc (by simp) _), (Blk.new w _ _).alloc _, by have := Blk.new (w.alloc (.cells #[.string t, .string c] 77)) 23 #[.int .i64 0, .int .i64 0, .int .i64 0, .int .i64 0]; simpa using this, ((Below.refl _ _).alloc (Nat.le_refl _) _).alloc (by simp) _, by simp, h.lt⟩

set_option maxRecDepth 100000 in
set_option maxHeartbeats 4000000 in
theorem rof_any (rp mc mb n k : Nat) (g : ByteArray → Option (Int × Int)) (f : ByteArray → ByteArray → Option Bkt) (bg : Int) (t c : ByteArray) (w : World) (h : RatesAt rp mc mb n k g f bg w) (ht : t.size ≤ maxLen) (hc : c.size ≤ maxLen) :
    Calls Try.prog 45 #[.pointer (some ⟨rp, 0, none⟩), .agg #[.string t, .string c]] w fun e w' => e = .returned (.tuple #[bktV (bktOf g f bg t c), .bool (g c).isSome]) ∧ Below w.heap.size w w' := by
  have h0 := OfAt.start t c h
  clear h
  obtain ⟨sC, xC, bC, hcl, hb⟩ : ∃ (sC : ByteArray) (xC : Int × Int) (bC : Bool), clsOf g c = clsV sC xC.1 xC.2 ∧ (g c).isSome = bC ∧ ∀ x, g c = some x → x = xC := by
    unfold clsOf
    cases hg : g c with
    | none => exact ⟨_, (0, 0), _, rfl, rfl, fun x hx => by cases hx⟩
    | some x => exact ⟨_, x, _, rfl, rfl, fun y hy => (Option.some.inj hy).symm⟩
  have HC := Lib.hid (And.intro hcl hb)
  clear hcl hb
  go_enter Try.func45, Try.ntmps45
  go_wp2_with fail
  generalize (w.alloc (.cells #[.string t, .string c] 77)).alloc (.cells #[.int .i64 0, .int .i64 0, .int .i64 0, .int .i64 0] 23) = w0 at *
  have H0 := Lib.hid h0
  have hroom := h0.room
  clear h0
  obtain ⟨B, hB⟩ : ∃ B, w.heap.size = B := ⟨_, rfl⟩
  rw [hB] at H0 hroom
  rw [hB]
  have HB := Lib.hid hB
  clear hB
  go_cut [6, 7] (fun s6 s7 W => OfCls B rp mc mb n k g f bg t c w sC xC bC s6 s7 W)
  case first =>
    refine wp_region_split [0, 1, 2, 3, 4, 5] 10 6 [7, 8, 9] [11, 12] 31 (zeroCl 0) 6 _ _ ?_ (by kernel_rfl) (by kernel_rfl) (by kernel_rfl) (by kernel_rfl) (by kernel_rfl) (by kernel_rfl) rfl rfl rfl rfl rfl (by decide) (by decide) (by kernel_rfl) (by kernel_rfl) (by kernel_rfl) ?_ ?_ ?_
    case refine_2 =>
      intro ρ w1
      simp [execOp, go_sem, zeroCl]
    case refine_3 =>
      intro w1 b1
      have G : ∀ d os, OfAt B rp mc mb n k g f bg t c w (Sort.grow (redrawn w1 d) os) := fun d os => H0.out.only (Only.of_below (S := []) (b1.trans ((below_regrown w1 d os).mono b1.size))) (by simp)
      have m0 := fun d os => (G d os).rates.cells.1
      have m1 := fun d os => (G d os).who.c2.1.2
      clear G
      simp only [atIdx, List.filterMap_cons, List.filterMap_nil, List.getElem?_toArray, List.getElem?_cons_zero, List.getElem?_cons_succ]
      iterate 6 (show wpQuiet _ _ _ _ (_ :: _) _; go_big_quiet_step (fail))
      refine wpQuiet_nil ?_
      rfl
    case refine_4 =>
      intro w1 b1
      have h1 := H0.out.only (Only.of_below (S := []) b1) (by simp)
      have hl := h1.rates.look c hc
      have h1r := h1.room
      rw [HC.out.1, HC.out.2.1] at hl
      refine callAt_value (v := .tuple #[clsV sC xC.1 xC.2, .bool bC]) ?hrun ?_
      case hrun =>
        simp only [List.getElem?_toArray, List.getElem_toArray, List.getElem_cons_zero, List.getElem_cons_succ]
        simp [execOp, go_sem, hl]
      refine ⟨?_, ?_⟩
      · intro p h2 h3 h4
        simp only [atIdx, List.cons_append, List.nil_append, List.filterMap_cons, List.filterMap_nil, List.getElem?_toArray, List.getElem?_cons_zero, List.getElem?_cons_succ]
        show wpList _ _ _ (_ :: _) _ _
        have hpz : Blk w1 p 31 #[.string ⟨#[]⟩, .int .i64 0, .int .i64 0] := h4
        obtain ⟨⟨y0, y1, y2⟩, x0, x1, x2⟩ := hpz.c3
        simp only [clsV]
        go_wp2_with (fail)
        refine onlyNormal_ok ?_
        go_wp2_with (fail)
        go_meet
        case rel =>
          exact ⟨p, rfl, rfl, blk_set3 hpz _ _ _, by omega, h1.only (only_set3 w1 p _ _ _) (by simp; omega)⟩
      · simp only [atIdx, List.cons_append, List.nil_append, List.filterMap_cons, List.filterMap_nil, List.getElem?_toArray, List.getElem?_cons_zero, List.getElem?_cons_succ]
        show wpList _ _ _ (_ :: _) _ _
        simp only [clsV]
        go_wp2_with (fail)
        refine onlyNormal_ok ?_
        go_wp2_with (fail)
        go_meet
        case rel =>
          exact ⟨w1.heap.size, rfl, rfl, Blk.new w1 _ _, by omega, h1.only (Only.of_below (S := []) ((Below.refl _ _).alloc (Nat.le_refl _) _)) (by simp)⟩
  case rest =>
    obtain ⟨p, rfl, rfl, hp, hpl, h1⟩ := hcut
    have H1 := Lib.hid (And.intro hp h1)
    have hr1 := h1.room
    clear H0 hp h1
    obtain ⟨⟨e0, e1, e2, e3⟩, f0, f1, f2, f3⟩ := H1.out.2.res.c4
    cases bC
    · go_wp2_with (fail)
      have hbl := blk_set4 H1.out.2.res (.int .i64 0) (.int .i64 0) (.int .i64 0) (.int .i64 0)
      have hbw := H1.out.2.below.trans ((only_set4 wc (B + 1) (.int .i64 0) (.int .i64 0) (.int .i64 0) (.int .i64 0)).below (B := B) (by omega) (by simp))
      generalize (((wc.setCell ⟨B + 1, 0, none⟩ (.int .i64 0)).setCell ⟨B + 1, 1, none⟩ (.int .i64 0)).setCell ⟨B + 1, 2, none⟩ (.int .i64 0)).setCell ⟨B + 1, 3, none⟩ (.int .i64 0) = W at *
      obtain ⟨⟨v0, v1, v2, v3⟩, -⟩ := hbl.c4
      clear e0 e1 e2 e3 f0 f1 f2 f3
      refine bodyPost_ret (v := .tuple #[bktV (bktOf g f bg t c), .bool (g c).isSome]) ?_ rfl ⟨rfl, by rw [HB.out]; exact hbw⟩
      · have hn : g c = none := by have := HC.out.2.1; cases hg : g c <;> simp_all
        simp only [bktOf, hn, Option.isSome_none, bktV]
        simp [results, Try.results45, go_sem, v0, v1, v2, v3]
    · clear e0 e1 e2 e3 f0 f1 f2 f3
      obtain ⟨y, bB, hyb⟩ : ∃ (y : Bkt) (bB : Bool), (f t c).getD (0, 0, 0, 0) = y ∧ (f t c).isSome = bB := ⟨_, _, rfl, rfl⟩
      have HY := Lib.hid hyb
      clear hyb
      go_wp2_with (fail)
      go_cut [8, 9] (fun s8 s9 W => OfBkt B rp mc mb n k g f bg t c w p sC xC y bB s8 s9 W)
      case first =>
        refine wp_region_split [0, 1, 2, 3, 4] 9 5 [6, 7, 8] [10, 11] 23 (zeroBk 0) 8 _ _ ?_ (by kernel_rfl) (by kernel_rfl) (by kernel_rfl) (by kernel_rfl) (by kernel_rfl) (by kernel_rfl) rfl rfl rfl rfl rfl (by decide) (by decide) (by kernel_rfl) (by kernel_rfl) (by kernel_rfl) ?_ ?_ ?_
        case refine_2 =>
          intro ρ w1
          simp [execOp, go_sem, zeroBk]
        case refine_3 =>
          intro w1 b1
          have G : ∀ d os, OfAt B rp mc mb n k g f bg t c w (Sort.grow (redrawn w1 d) os) := fun d os => H1.out.2.only (Only.of_below (S := []) (b1.trans ((below_regrown w1 d os).mono b1.size))) (by simp)
          have m0 := fun d os => (G d os).rates.cells.2.1
          have m1 := fun d os => (G d os).who.c2.1.2
          have m2 := fun d os => (G d os).who.c2.1.1
          clear G
          simp only [atIdx, List.filterMap_cons, List.filterMap_nil, List.getElem?_toArray, List.getElem?_cons_zero, List.getElem?_cons_succ]
          iterate 5 (show wpQuiet _ _ _ _ (_ :: _) _; go_big_quiet_step (fail))
          refine wpQuiet_nil ?_
          rfl
        case refine_4 =>
          intro w1 b1
          have h1 := H1.out.2.only (Only.of_below (S := []) b1) (by simp)
          have hpp := H1.out.1.below b1 H1.out.1.lt
          have hl := h1.rates.lookB t c ht hc
          have h1r := h1.room
          rw [HY.out.1, HY.out.2] at hl
          refine callAt_value (v := .tuple #[bktV y, .bool bB]) ?hrun ?_
          case hrun =>
            simp only [List.getElem?_toArray, List.getElem_toArray, List.getElem_cons_zero, List.getElem_cons_succ]
            simp [execOp, go_sem, hl]
          refine ⟨?_, ?_⟩
          · intro q h2 h3 h4
            simp only [atIdx, List.cons_append, List.nil_append, List.filterMap_cons, List.filterMap_nil, List.getElem?_toArray, List.getElem?_cons_zero, List.getElem?_cons_succ]
            show wpList _ _ _ (_ :: _) _ _
            have hpz : Blk w1 q 23 #[.int .i64 0, .int .i64 0, .int .i64 0, .int .i64 0] := h4
            obtain ⟨⟨y0, y1, y2, y3⟩, x0, x1, x2, x3⟩ := hpz.c4
            simp only [bktV]
            go_wp2_with (fail)
            refine onlyNormal_ok ?_
            go_wp2_with (fail)
            go_meet
            case rel =>
              exact ⟨q, rfl, rfl, blk_set4 hpz _ _ _ _, by omega, hpp.only (only_set4 w1 q _ _ _ _) (by simp; exact Blk.ne_ hpp hpz (by decide)), h1.only (only_set4 w1 q _ _ _ _) (by simp; omega)⟩
          · simp only [atIdx, List.cons_append, List.nil_append, List.filterMap_cons, List.filterMap_nil, List.getElem?_toArray, List.getElem?_cons_zero, List.getElem?_cons_succ]
            show wpList _ _ _ (_ :: _) _ _
            simp only [bktV]
            go_wp2_with (fail)
            refine onlyNormal_ok ?_
            go_wp2_with (fail)
            go_meet
            case rel =>
              exact ⟨w1.heap.size, rfl, rfl, Blk.new w1 _ _, by omega, hpp.alloc _, h1.only (Only.of_below (S := []) ((Below.refl _ _).alloc (Nat.le_refl _) _)) (by simp)⟩
      case rest =>
        obtain ⟨q, rfl, rfl, hq, hql, hp, h1⟩ := hcut
        have H2 := Lib.hid (And.intro hq (And.intro hp h1))
        have hr2 := h1.room
        have hg : g c = some xC := by
          have h2 := HC.out.2.1
          cases hg : g c with
          | none => rw [hg] at h2; cases h2
          | some z => rw [HC.out.2.2 z hg]
        have hne : q ≠ B + 1 := by omega
        have HG := Lib.hid hg
        clear H1 hq hp h1 hg
        cases bB
        · have hfn : f t c = none := by have := HY.out.2; cases hg : f t c <;> simp_all
          go_wp2_with (fail)
          have G : ∀ d os, OfAt B rp mc mb n k g f bg t c w (Sort.grow (redrawn wc d) os) := fun d os => H2.out.2.2.only (Only.of_below (S := []) (below_regrown wc d os)) (by simp)
          have m0 := fun d os => (G d os).rates.cells.2.2
          have P : ∀ d os, Blk (Sort.grow (redrawn wc d) os) p 31 #[.string sC, .int .i64 xC.1, .int .i64 xC.2] := fun d os => H2.out.2.1.below (below_regrown wc d os) H2.out.2.1.lt
          have m1 := fun d os => (P d os).c3.1.1
          have m2 := fun d os => (P d os).c3.1.2.1
          have m3 := fun d os => (P d os).c3.1.2.2
          clear G P
          refine wp_region_below_tail 6 (by kernel_rfl) (by kernel_rfl) ?_
          simp only [List.take_succ_cons, List.take_zero, List.drop_succ_cons, List.drop_zero]
          repeat (go_big_quiet_step (fail))
          go_big_quiet_step ((go_at_call 14; exact Calls.regrown_of (new_any sC xC.1 xC.2 bg _)))
          refine wpQuiet_nil ?_
          intro w2 hw'
          obtain ⟨⟨dq, osq⟩, hw''⟩ := hw'
          have bb : Below wc.heap.size wc w2 := by rw [hw'']; exact below_regrown wc dq osq
          clear hw'' m0 m1 m2 m3
          have hq2 := H2.out.1.below bb H2.out.1.lt
          have h2 := H2.out.2.2.only (Only.of_below (S := []) bb) (by simp)
          obtain ⟨⟨y0, y1, y2, y3⟩, x0, x1, x2, x3⟩ := hq2.c4
          have h3 := h2.only (only_set4 w2 q (.int .i64 xC.1) (.int .i64 xC.2) (.int .i64 0) (.int .i64 bg)) (by simp; omega)
          obtain ⟨⟨e0, e1, e2, e3⟩, f0, f1, f2, f3⟩ := h2.res.c4
          have H3 := Lib.hid h3
          have hr3 := h3.room
          have hre := h3.res
          have hbl := blk_set4 hre (.int .i64 xC.1) (.int .i64 xC.2) (.int .i64 0) (.int .i64 bg)
          have hbw := h3.below.trans ((only_set4 _ (B + 1) (.int .i64 xC.1) (.int .i64 xC.2) (.int .i64 0) (.int .i64 bg)).below (B := B) (by omega) (by simp))
          have HBL := Lib.hid (And.intro hbl hbw)
          clear h2 h3 hq2 H2 hre hbl hbw
          go_wp2_with (fail)
          obtain ⟨hbl, hbw⟩ := HBL.out
          generalize ((((((((w2.setCell ⟨q, 0, none⟩ (.int .i64 xC.1)).setCell ⟨q, 1, none⟩ (.int .i64 xC.2)).setCell ⟨q, 2, none⟩ (.int .i64 0)).setCell ⟨q, 3, none⟩ (.int .i64 bg)).setCell ⟨B + 1, 0, none⟩ (.int .i64 xC.1)).setCell ⟨B + 1, 1, none⟩ (.int .i64 xC.2)).setCell ⟨B + 1, 2, none⟩ (.int .i64 0)).setCell ⟨B + 1, 3, none⟩ (.int .i64 bg)) = W at *
          obtain ⟨⟨v0, v1, v2, v3⟩, -⟩ := hbl.c4
          clear e0 e1 e2 e3 f0 f1 f2 f3 y0 y1 y2 y3 x0 x1 x2 x3
          refine bodyPost_ret (v := .tuple #[bktV (bktOf g f bg t c), .bool (g c).isSome]) ?_ rfl ⟨rfl, by rw [HB.out]; exact hbw⟩
          · simp only [bktOf, HG.out, hfn, Option.isSome_some, bktV, Option.getD_none]
            simp [results, Try.results45, go_sem, v0, v1, v2, v3]
        · have hfs : f t c = some y := by
            have h1 := HY.out.1
            have h2 := HY.out.2
            cases hg : f t c with
            | none => rw [hg] at h2; cases h2
            | some z => rw [hg] at h1; rw [← h1]; rfl
          have HF := Lib.hid hfs
          clear hfs
          obtain ⟨⟨y0, y1, y2, y3⟩, x0, x1, x2, x3⟩ := H2.out.1.c4
          obtain ⟨⟨e0, e1, e2, e3⟩, f0, f1, f2, f3⟩ := H2.out.2.2.res.c4
          go_wp2_with (fail)
          have hbl := blk_set4 H2.out.2.2.res (.int .i64 y.1) (.int .i64 y.2.1) (.int .i64 y.2.2.1) (.int .i64 y.2.2.2)
          have hbw := H2.out.2.2.below.trans ((only_set4 wc (B + 1) (.int .i64 y.1) (.int .i64 y.2.1) (.int .i64 y.2.2.1) (.int .i64 y.2.2.2)).below (B := B) (by omega) (by simp))
          generalize (((wc.setCell ⟨B + 1, 0, none⟩ (.int .i64 y.1)).setCell ⟨B + 1, 1, none⟩ (.int .i64 y.2.1)).setCell ⟨B + 1, 2, none⟩ (.int .i64 y.2.2.1)).setCell ⟨B + 1, 3, none⟩ (.int .i64 y.2.2.2) = W at *
          obtain ⟨⟨v0, v1, v2, v3⟩, -⟩ := hbl.c4
          clear e0 e1 e2 e3 f0 f1 f2 f3 y0 y1 y2 y3 x0 x1 x2 x3
          refine bodyPost_ret (v := .tuple #[bktV (bktOf g f bg t c), .bool (g c).isSome]) ?_ rfl ⟨rfl, by rw [HB.out]; exact hbw⟩
          · simp only [bktOf, HG.out, HF.out, Option.isSome_some, bktV, Option.getD_some]
            simp [results, Try.results45, go_sem, v0, v1, v2, v3]
end Go.Proofs.Ytikpbhfjmlfooaa
