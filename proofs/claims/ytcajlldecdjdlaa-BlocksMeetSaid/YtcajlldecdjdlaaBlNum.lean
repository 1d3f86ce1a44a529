/-
  The keys of number's map. Conditions: the numbers are ints.
-/
import Derived.Test.YtcajlldecdjdlaaBlHas
import Derived.Maps.Own
import Derived.Maps.OwnOps
import Derived.Maps.OwnSet
import Derived.DeepKeys4
namespace Go.Proofs.Ytcajlldecdjdlaa
set_option linter.unusedVariables false
open Go.RowKit Go.Maps

theorem laidOutK : laidOutB Try.prog = true := by kernel_rfl
theorem rowK : (38 : TypeId) < Try.prog.types.size := of_decide_eq_true (by kernel_rfl)
theorem wideK : (match Try.prog.underlying 38 with | some (.array _ _) | some (.struct _) => true | _ => false) = true := by rw [Try.underlying38]
theorem lawK : Keyed Try.prog 38 := Keyed.of_law (deep_law_laid laidOutK (m := 2) (by omega) rowK (by kernel_rfl) wideK)
theorem zeroK (w : World) : (zeroValue 3).run Try.prog w = .ok (.int .i64 0) w := by kernel_rfl

def pairV (x : Int × Int) : Value := .agg #[.int .i64 x.1, .int .i64 x.2]
def PairIn (x : Int × Int) : Prop := (Lit.int .i64 x.1).wf = true ∧ (Lit.int .i64 x.2).wf = true
theorem typesK : Try.prog.types.size = 61 + 1 := by kernel_rfl
theorem keyTypeK : Try.prog.keyType 38 = true := by kernel_rfl
theorem cellsK : Try.prog.cellsOf 38 = 2 := by kernel_rfl
theorem cellsI : Try.prog.cellsOf 3 = 1 := by kernel_rfl

theorem litsI (d : Nat) (a : Int) (h : (Lit.int .i64 a).wf = true) : Try.prog.keyLits (d + 1) 3 [.int .i64 a] = some [.int .i64 a] := by
  simp [Program.keyLits, Try.underlying3, h]
theorem litsK (d : Nat) (a b : Int) (h1 : (Lit.int .i64 a).wf = true) (h2 : (Lit.int .i64 b).wf = true) : Try.prog.keyLits (d + 1 + 1) 38 [.int .i64 a, .int .i64 b] = some [.int .i64 a, .int .i64 b] := by
  have r2 : List.range 2 = [0, 1] := rfl
  unfold Program.keyLits
  rw [Try.underlying38]
  simp [cellsK, cellsI, r2, litsI d a h1, litsI d b h2]
theorem formedK (a b : Int) : (Value.agg #[.int .i64 a, .int .i64 b]).formed Try.prog 38 = true := by simp [Value.formed, Try.underlying38, cellsK]

theorem keyK (x : Int × Int) (h : PairIn x) : ∃ l, keyOf Try.prog 38 (pairV x) = some l := by
  obtain ⟨a, b⟩ := x
  obtain ⟨h1, h2⟩ := h
  unfold keyOf pairV
  rw [Try.underlying38, keyTypeK, formedK, typesK]
  have e : (Value.agg #[.int .i64 a, .int .i64 b]).cells.toList = [.int .i64 a, .int .i64 b] := rfl
  simp only [e, litsK 61 a b h1 h2, Bool.true_and, if_true, Option.map_some]
  exact ⟨_, rfl⟩
theorem keyK_inj (x y : Int × Int) (l : Lit) (h1 : keyOf Try.prog 38 (pairV x) = some l) (h2 : keyOf Try.prog 38 (pairV y) = some l) : x = y := by
  have := lawK.inj h1 h2
  simp [pairV] at this
  exact Prod.ext this.1 this.2

/-- what number's map holds behind n keys -/
structure Holds {H : Type} (f : Nat → Int × Int) (n : Nat) (D : DataW H) : Prop where
  tidy : Tidy D
  count : size D = Bl.many f n
  old : ∀ k x l, k < n → f k = x → keyOf Try.prog 38 (pairV x) = some l → has D l = true ∧ ∀ z, D.atKey l z = .lit (.int .i64 (Bl.num f k))
  new : ∀ x l, (∀ k, k < n → f k ≠ x) → keyOf Try.prog 38 (pairV x) = some l → has D l = false

theorem holds_none {H : Type} (f : Nat → Int × Int) : Holds (H := H) f 0 (.map []) :=
  ⟨tidy_empty, rfl, fun k _ _ hk => by omega, fun _ _ _ _ => rfl⟩

theorem holds_old {H : Type} (f : Nat → Int × Int) (n : Nat) (D : DataW H) (h : Holds f n D) (k : Nat) (hk : k < n) (he : f k = f n) : Holds f (n + 1) D where
  tidy := h.tidy
  count := by rw [Bl.many_old f n k hk he, h.count]
  old := fun j x l hj hx hl => by
    by_cases hjn : j < n
    · exact h.old j x l hjn hx hl
    · have : j = n := by omega
      subst this
      have := h.old k x l hk (he.trans hx) hl
      rw [Bl.num_key f k j he] at this
      exact this
  new := fun x l hx hl => h.new x l (fun k hk => hx k (by omega)) hl

theorem holds_new {H : Type} (f : Nat → Int × Int) (n : Nat) (D : DataW H) (h : Holds f n D) (hn : ∀ k, k < n → f k ≠ f n) (l : Lit) (hl : keyOf Try.prog 38 (pairV (f n)) = some l) :
    Holds f (n + 1) (D.put l (.lit (.int .i64 (Bl.many f n)))) where
  tidy := h.tidy.put (lawK.key hl) _
  count := by rw [Bl.many_new f n hn, size_put h.tidy, h.new _ l hn hl, h.count]; rfl
  old := fun j x l' hj hx hl' => by
    by_cases hxn : x = f n
    · subst hxn
      have e : l' = l := by rw [hl'] at hl; exact Option.some.inj hl
      subst e
      have : j = n := by
        rcases Nat.lt_or_ge j n with h1 | h1
        · exact absurd hx (hn j h1)
        · omega
      subst this
      refine ⟨has_put_same h.tidy.isMap (lawK.key hl) _, fun z => ?_⟩
      rw [atKey_put_same h.tidy.isMap (lawK.key hl), Bl.num_new f j hn]
    · have hne : l' ≠ l := fun e => hxn (keyK_inj _ _ l (e ▸ hl') hl)
      have hjn : j < n := by
        rcases Nat.lt_or_ge j n with h1 | h1
        · exact h1
        · have : j = n := by omega
          subst this
          exact absurd hx.symm hxn
      obtain ⟨o1, o2⟩ := h.old j x l' hjn hx hl'
      exact ⟨(has_put_other hne _).trans o1, fun z => (atKey_put_other hne _ z).trans (o2 z)⟩
  new := fun x l' hx hl' => by
    have hne : l' ≠ l := fun e => hx n (by omega) (keyK_inj _ _ l hl (e ▸ hl'))
    rw [has_put_other hne]
    exact h.new x l' (fun k hk => hx k (by omega)) hl'
end Go.Proofs.Ytcajlldecdjdlaa
