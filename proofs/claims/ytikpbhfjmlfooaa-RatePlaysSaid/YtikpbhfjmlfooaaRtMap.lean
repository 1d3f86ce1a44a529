/-
  The maps of rates: classes by name, buckets by tenant and class; how they read, what a look tells, what a store makes of them. Conditions: names no longer than a text can be.
-/
import Derived.Test.YtikpbhfjmlfooaaRtWord
import Derived.Test.YtikpbhfjmlfooaaChecked
import Derived.Test.YtikpbhfjmlfooaaBucket
import Derived.Test.YtikpbhfjmlfooaaOnly
import Derived.Lib.SmallJoins
import Derived.MapViews
import Derived.DeepKeys4
namespace Go.Proofs.Ytikpbhfjmlfooaa
set_option linter.unusedVariables false
set_option linter.unusedSimpArgs false
open Go.RowKit Go.Maps Go.ChangeShapes Go.WideShapes Go.Joins

abbrev Bkt := Int × Int × Int × Int
def clsV (s : ByteArray) (c f : Int) : Value := .agg #[.string s, .int .i64 c, .int .i64 f]
def clsD (s : ByteArray) (c f : Int) : DataW Unit := .agg [.lit (.string s.data.toList), .lit (.int .i64 c), .lit (.int .i64 f)]
def Rcls : Value → Option (DataW Unit × List MemPlace)
  | .agg cs => match cs.toList with
    | [.string s, .int .i64 c, .int .i64 f] => some (clsD s c f, [])
    | _ => none
  | _ => none
theorem Rcls_mk (s : ByteArray) (c f : Int) : Rcls (clsV s c f) = some (clsD s c f, []) := rfl
theorem Rcls_inv {v : Value} {z : DataW Unit × List MemPlace} (h : Rcls v = some z) : ∃ s c f, v = clsV s c f ∧ z = (clsD s c f, []) := by
  unfold Rcls at h
  split at h
  · split at h
    · rename_i cs s c f hc
      refine ⟨s, c, f, ?_, (Option.some.inj h).symm⟩
      rw [clsV, ← hc]
    · cases h
  · cases h
theorem clsD_inj {s s' : ByteArray} {c c' f f' : Int} (h : clsD s c f = clsD s' c' f') : s = s' ∧ c = c' ∧ f = f' := by
  simp only [clsD, DataW.agg.injEq, List.cons.injEq, DataW.lit.injEq, Lit.string.injEq, Lit.int.injEq, true_and, and_true] at h
  refine ⟨?_, h.2.1, h.2.2⟩
  rw [← txt_data s, ← txt_data s', h.1]

def bktV (b : Bkt) : Value := .agg #[.int .i64 b.1, .int .i64 b.2.1, .int .i64 b.2.2.1, .int .i64 b.2.2.2]
def bktD (b : Bkt) : DataW Unit := .agg [.lit (.int .i64 b.1), .lit (.int .i64 b.2.1), .lit (.int .i64 b.2.2.1), .lit (.int .i64 b.2.2.2)]
def Rbkt : Value → Option (DataW Unit × List MemPlace)
  | .agg cs => match cs.toList with
    | [.int .i64 c, .int .i64 f, .int .i64 h, .int .i64 t] => some (bktD (c, f, h, t), [])
    | _ => none
  | _ => none
theorem Rbkt_mk (b : Bkt) : Rbkt (bktV b) = some (bktD b, []) := rfl
theorem Rbkt_inv {v : Value} {z : DataW Unit × List MemPlace} (h : Rbkt v = some z) : ∃ b, v = bktV b ∧ z = (bktD b, []) := by
  unfold Rbkt at h
  split at h
  · split at h
    · rename_i cs c f y t hc
      refine ⟨(c, f, y, t), ?_, (Option.some.inj h).symm⟩
      rw [bktV, ← hc]
    · cases h
  · cases h
theorem bktD_inj {b b' : Bkt} (h : bktD b = bktD b') : b = b' := by
  obtain ⟨c, f, y, t⟩ := b
  obtain ⟨c', f', y', t'⟩ := b'
  simp only [bktD, DataW.agg.injEq, List.cons.injEq, DataW.lit.injEq, Lit.int.injEq, true_and, and_true] at h
  obtain ⟨rfl, rfl, rfl, rfl⟩ := h
  rfl

/-! the keys -/
theorem rtLaidOut : laidOutB Try.prog = true := by kernel_rfl
theorem rowW : (77 : TypeId) < Try.prog.types.size := of_decide_eq_true (by kernel_rfl)
theorem deepW : Try.prog.keyTypeAt (Try.prog.types.size + 1) 77 = true := by kernel_rfl
theorem wideW : (match Try.prog.underlying 77 with | some (.array _ _) | some (.struct _) => true | _ => false) = true := by kernel_rfl
theorem lawW : Keyed Try.prog 77 := Keyed.of_law (deep_law_laid rtLaidOut (m := 3) (by omega) rowW (by kernel_rfl) wideW)
theorem lawS : Keyed Try.prog 9 := string_keyed Try.underlying9
theorem cellsW : Try.prog.cellsOf 77 = 2 := by kernel_rfl
def whoV (t c : ByteArray) : Value := .agg #[.string t, .string c]
def kwho (t c : ByteArray) : Lit := (DataW.agg [.lit (.string t.data.toList), .lit (.string c.data.toList)] : DataW Unit).asKey
theorem string_reads {H : Type} (enc : TypeId × Value → H) (w : World) (s : ByteArray) (hs : s.size ≤ maxLen) : ∃ n, DataW.trod enc Try.prog w 0 (fun _ => true) true n 9 [.string s] = some (.lit (.string s.data.toList), []) :=
  ⟨1, by simp [DataW.trod, Try.underlying9, hs]⟩
theorem who_key (t c : ByteArray) (ht : t.size ≤ maxLen) (hc : c.size ≤ maxLen) : keyOf Try.prog 77 (whoV t c) = some (kwho t c) := by
  have hf : (whoV t c).formed Try.prog 77 = true := by
    simp [whoV, Value.formed, Try.underlying77, cellsW]
  have h := shut_agg2 (H := Unit) (enc := fun _ => ()) (P := Try.prog) (w := default) (base := 0) (spare := fun _ => true) (held := true) (v0 := .string t) (v1 := .string c) Try.underlying77 (by kernel_rfl) cellsW (string_reads _ _ t ht) (string_reads _ _ c hc)
  exact (keyOf_asKey deepW wideW hf h).1
theorem kwho_inj {t c t' c' : ByteArray} (ht : t.size ≤ maxLen) (hc : c.size ≤ maxLen) (ht' : t'.size ≤ maxLen) (hc' : c'.size ≤ maxLen) (h : kwho t c = kwho t' c') : t = t' ∧ c = c' := by
  have h1 := who_key t c ht hc
  have h2 := who_key t' c' ht' hc'
  rw [← h] at h2
  have := lawW.inj h1 h2
  simp only [whoV, Value.agg.injEq, Array.mk.injEq, List.cons.injEq, Value.string.injEq, and_true] at this
  exact this
theorem str_key (s : ByteArray) (hs : s.size ≤ maxLen) : keyOf Try.prog 9 (.string s) = some (.string s.data.toList) := WideMaps.keyOf_string_mk Try.underlying9 hs
theorem str_inj {s s' : ByteArray} (h : (Lit.string s.data.toList) = .string s'.data.toList) : s = s' := by
  injection h with h
  rw [← txt_data s, ← txt_data s', h]

/-! what the maps read as -/
def ClsMap (D : DataW Unit) (g : ByteArray → Option (Int × Int)) : Prop :=
  ∀ s, s.size ≤ maxLen → has D (.string s.data.toList) = (g s).isSome ∧ ∀ x z, g s = some x → D.atKey (.string s.data.toList) z = clsD s x.1 x.2
def BktMap (D : DataW Unit) (f : ByteArray → ByteArray → Option Bkt) : Prop :=
  ∀ t c, t.size ≤ maxLen → c.size ≤ maxLen → has D (kwho t c) = (f t c).isSome ∧ ∀ b z, f t c = some b → D.atKey (kwho t c) z = bktD b
theorem clsMap_none : ClsMap (.map []) (fun _ => none) := fun s _ => ⟨rfl, fun x z h => by cases h⟩
theorem bktMap_none : BktMap (.map []) (fun _ _ => none) := fun t c _ _ => ⟨rfl, fun b z h => by cases h⟩
theorem ClsMap.put {D : DataW Unit} {g g' : ByteArray → Option (Int × Int)} (h : ClsMap D g) (hM : IsMap D) (s : ByteArray) (c f : Int) (hs : s.size ≤ maxLen) (h1 : g' s = some (c, f)) (h2 : ∀ s', s' ≠ s → g' s' = g s') :
    ClsMap (D.put (.string s.data.toList) (clsD s c f)) g' := by
  intro s' hs'
  by_cases e : s' = s
  · subst e
    rw [h1]
    refine ⟨has_put_same hM (lawS.key (str_key s' hs)) _, fun x z hx => ?_⟩
    obtain rfl := Option.some.inj hx
    rw [atKey_put_same hM (lawS.key (str_key s' hs))]
  · have hne : (Lit.string s'.data.toList) ≠ .string s.data.toList := fun e' => e (str_inj e')
    rw [h2 s' e]
    obtain ⟨a1, a2⟩ := h s' hs'
    exact ⟨(has_put_other hne _).trans a1, fun x z hx => (atKey_put_other hne _ _).trans (a2 x z hx)⟩
theorem BktMap.put {D : DataW Unit} {f f' : ByteArray → ByteArray → Option Bkt} (h : BktMap D f) (hM : IsMap D) (t c : ByteArray) (b : Bkt) (ht : t.size ≤ maxLen) (hc : c.size ≤ maxLen) (h1 : f' t c = some b) (h2 : ∀ t' c', ¬ (t' = t ∧ c' = c) → f' t' c' = f t' c') :
    BktMap (D.put (kwho t c) (bktD b)) f' := by
  intro t' c' ht' hc'
  by_cases e : t' = t ∧ c' = c
  · obtain ⟨rfl, rfl⟩ := e
    rw [h1]
    refine ⟨has_put_same hM (lawW.key (who_key _ _ ht hc)) _, fun x z hx => ?_⟩
    obtain rfl := Option.some.inj hx
    rw [atKey_put_same hM (lawW.key (who_key _ _ ht hc))]
  · have hne : kwho t' c' ≠ kwho t c := fun e' => e (kwho_inj ht' hc' ht hc e')
    rw [h2 t' c' e]
    obtain ⟨a1, a2⟩ := h t' c' ht' hc'
    exact ⟨(has_put_other hne _).trans a1, fun x z hx => (atKey_put_other hne _ _).trans (a2 x z hx)⟩

theorem zeroCls (w : World) : (zeroValue 31).run Try.prog w = .ok (clsV .empty 0 0) w := by kernel_rfl
theorem zeroBkt (w : World) : (zeroValue 23).run Try.prog w = .ok (bktV (0, 0, 0, 0)) w := by kernel_rfl
def clsOf (g : ByteArray → Option (Int × Int)) (s : ByteArray) : Value := match g s with
  | some x => clsV s x.1 x.2
  | none => clsV .empty 0 0
theorem cls_look {w : World} {m k : Nat} {D : DataW Unit} {g : ByteArray → Option (Int × Int)} (h : w.ownsMap Try.prog 9 Rcls m k D) (hc : ClsMap D g) (s : ByteArray) (hs : s.size ≤ maxLen) :
    (Instr.lookup 62 (.map (some m)) (.string s) true).run Try.prog w = .ok (.tuple #[clsOf g s, .bool (g s).isSome]) w := by
  obtain ⟨v, ps, hrun, hv⟩ := h.look_ok lawS Try.underlying62 (zeroCls w) (Rcls_mk _ _ _) (str_key s hs)
  obtain ⟨s', c, f, rfl, hz⟩ := Rcls_inv hv
  have e := congrArg Prod.fst hz
  simp only at e
  obtain ⟨h1, h2⟩ := hc s hs
  rw [hrun, h1]
  congr 4
  unfold clsOf
  cases hf : g s with
  | none =>
    rw [hf] at h1
    rw [atKey_of_not_has h1] at e
    obtain ⟨rfl, rfl, rfl⟩ := clsD_inj e
    rfl
  | some x =>
    rw [h2 x _ hf] at e
    obtain ⟨rfl, rfl, rfl⟩ := clsD_inj e
    rfl
theorem bkt_look {w : World} {m k : Nat} {D : DataW Unit} {f : ByteArray → ByteArray → Option Bkt} (h : w.ownsMap Try.prog 77 Rbkt m k D) (hc : BktMap D f) (t c : ByteArray) (ht : t.size ≤ maxLen) (hcs : c.size ≤ maxLen) :
    (Instr.lookup 63 (.map (some m)) (.agg #[.string t, .string c]) true).run Try.prog w = .ok (.tuple #[bktV ((f t c).getD (0, 0, 0, 0)), .bool (f t c).isSome]) w := by
  obtain ⟨v, ps, hrun, hv⟩ := h.look_ok lawW Try.underlying63 (zeroBkt w) (Rbkt_mk _) (who_key t c ht hcs)
  obtain ⟨b, rfl, hz⟩ := Rbkt_inv hv
  have e := congrArg Prod.fst hz
  simp only at e
  obtain ⟨h1, h2⟩ := hc t c ht hcs
  rw [whoV] at hrun
  rw [hrun, h1]
  congr 4
  cases hf : f t c with
  | none =>
    rw [hf] at h1
    rw [atKey_of_not_has h1] at e
    obtain rfl := bktD_inj e
    rfl
  | some x =>
    rw [h2 x _ hf] at e
    obtain rfl := bktD_inj e
    rfl
theorem cls_look_nil (w : World) (s : ByteArray) (hs : s.size ≤ maxLen) :
    (Instr.lookup 62 (.map none) (.string s) true).run Try.prog w = .ok (.tuple #[clsV .empty 0 0, .bool false]) w :=
  look_nil true lawS Try.underlying62 (zeroCls w) (str_key s hs)
end Go.Proofs.Ytikpbhfjmlfooaa
