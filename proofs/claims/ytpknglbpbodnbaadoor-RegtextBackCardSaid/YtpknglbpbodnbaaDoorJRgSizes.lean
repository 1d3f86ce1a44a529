/-
  How large what is read may be, and that its words fit. Plain words; no Go in sight. Conditions: each lemma says its own.
-/
import Derived.Test.YtpknglbpbodnbaaDoorJRgClass
namespace Go.Proofs.YtpknglbpbodnbaaDoor
set_option linter.unusedVariables false
set_option linter.unusedSimpArgs false
namespace Rg
open Cs

theorem sizeN_pos (n : Nd) : 1 ≤ sizeN n := by cases n; rw [sizeN]; omega
theorem sizeL_app (l m : List Nd) : sizeL (l ++ m) = sizeL l + sizeL m := by
  induction l with
  | nil => simp [sizeL]
  | cons n l ih => rw [List.cons_append, sizeL, sizeL, ih]; omega
theorem sizeL_len (l : List Nd) : l.length ≤ sizeL l := by
  induction l with
  | nil => simp
  | cons n l ih => rw [sizeL, List.length_cons]; have := sizeN_pos n; omega
theorem sizeL_kids (n : Nd) : sizeL n.kids + 1 ≤ sizeN n := by cases n; rw [sizeN]; show _ + 1 ≤ 1 + _; simp only [Nd.kids]; omega
theorem flatN_size (k : Int) (ps : List Nd) : sizeL (flatN k ps) ≤ sizeL ps := by
  induction ps with
  | nil => simp [flatN]
  | cons p ps ih =>
    have e : flatN k (p :: ps) = (if p.kind = k then p.kids else [p]) ++ flatN k ps := by simp [flatN]
    rw [e, sizeL_app, sizeL]
    split
    · have := sizeL_kids p; omega
    · simp only [sizeL]; omega
theorem flatN_len (k : Int) (ps : List Nd) : (flatN k ps).length ≤ sizeL ps := Nat.le_trans (sizeL_len _) (flatN_size k ps)
theorem joinN_size (k : Int) (ps : List Nd) : sizeN (joinN k ps) ≤ 1 + sizeL ps := by
  unfold joinN
  have h := flatN_size k ps
  match hl : flatN k ps with
  | [] => rw [show oneOf k [] = .mk k none4 [] 0 0 from rfl, sizeN]; simp [sizeL]
  | [n] => rw [hl] at h; rw [show oneOf k [n] = n from rfl]; simp only [sizeL] at h; omega
  | a :: b :: l => rw [hl] at h; rw [show oneOf k (a :: b :: l) = .mk k none4 (a :: b :: l) 0 0 from rfl, sizeN]; omega
theorem flatN_in {k : Int} {ps : List Nd} (h : ∀ p ∈ ps, InN p) : ∀ p ∈ flatN k ps, InN p := by
  intro p hp
  obtain ⟨q, hq, hp⟩ := List.mem_flatMap.1 hp
  have h1 := h q hq
  split at hp
  · cases q with
    | mk k s l x y => rw [InN] at h1; exact InL_iff.1 h1.2 p hp
  · obtain rfl := List.mem_singleton.1 hp
    exact h1
theorem joinN_in {k : Int} {ps : List Nd} (h : ∀ p ∈ ps, InN p) : InN (joinN k ps) := by
  unfold joinN
  have h := flatN_in (k := k) h
  match hl : flatN k ps with
  | [] => rw [show oneOf k [] = .mk k none4 [] 0 0 from rfl, InN]; exact ⟨none4_in, trivial⟩
  | [n] => exact h n (by rw [hl]; simp)
  | a :: b :: l => rw [show oneOf k (a :: b :: l) = .mk k none4 (a :: b :: l) 0 0 from rfl, InN]; exact ⟨none4_in, InL_iff.2 fun n hn => h n (by rw [hl]; exact hn)⟩
theorem BytesL.sub {a b : List Nat} (h : BytesL (a ++ b)) : BytesL b := (BytesL.app.1 h).2
theorem BytesL.tail {l : List Nat} (h : BytesL l) : BytesL l.tail := fun b hb => h b (List.mem_of_mem_tail hb)
theorem classL_in {n : Nat} {s s1 : S4} {l l1 : List Nat} (hl : BytesL l) (hs : SetIn s.f) (h : classL n s l = some (s1, l1)) : SetIn s1.f := by
  induction n generalizing s l with
  | zero => cases h
  | succ n ih =>
    unfold classL at h
    cases h1 : itemP l with
    | none => rw [h1] at h; cases h
    | some r =>
      obtain ⟨x, l2⟩ := r
      rw [h1] at h
      simp only at h
      have hx := itemP_in hl h1
      obtain ⟨a, e1, e2⟩ := itemP_tail h1
      split at h
      · cases h; exact or4_in hs hx
      · exact ih (by rw [e1] at hl; exact hl.sub) (or4_in hs hx) h
theorem classP_in {s : S4} {l l1 : List Nat} (hl : BytesL l) (h : classP l = some (s, l1)) : SetIn s.f := by
  unfold classP at h
  split at h
  · obtain ⟨x, hx, e⟩ := Option.map_eq_some_iff.1 h
    obtain ⟨x1, x2⟩ := x
    obtain ⟨rfl, -⟩ : not4 x1 = s ∧ _ := by simpa using e
    exact not4_in (classL_in hl.tail none4_in hx)
  · exact classL_in hl none4_in h
theorem escP_in {l l1 : List Nat} {e : Esc} (hl : BytesL l) (h : escP l = some (e, l1)) : SetIn e.set.f := by
  have h2 : signP (92 :: l) = some (e, l1) := by rw [signP, if_pos rfl]; exact h
  exact Esc.in_ (l := 92 :: l) (BytesL.cons.2 ⟨by omega, hl⟩) h2
theorem oneN_in {s : S4} (h : SetIn s.f) : InN (oneN s) := by unfold oneN; rw [InN]; exact ⟨h, trivial⟩
theorem repN_in {n : Nd} {x y : Int} (h : InN n) : InN (repN n x y) := by unfold repN; rw [InN]; exact ⟨none4_in, h, trivial⟩
theorem repN_size (n : Nd) (x y : Int) : sizeN (repN n x y) = sizeN n + 1 := by unfold repN; rw [sizeN]; simp [sizeL]; omega
theorem oneN_size (s : S4) : sizeN (oneN s) = 1 := by unfold oneN; rw [sizeN]; simp [sizeL]
theorem len_app {l a l1 : List Nat} (h : l = a ++ l1) : l.length = a.length + l1.length := by rw [h, List.length_append]
theorem quantP_size {n n1 : Nd} {l l1 : List Nat} (h : quantP n l = some (n1, l1)) : (sizeN n1 + 2 * l1.length ≤ sizeN n + 2 * l.length) ∧ (InN n → InN n1) := by
  cases l with
  | nil => cases h; exact ⟨by simp, id⟩
  | cons b l =>
    rw [quantP] at h
    split at h
    · cases h; exact ⟨by rw [repN_size, List.length_cons]; omega, repN_in⟩
    · split at h
      · cases h; exact ⟨by rw [repN_size, List.length_cons]; omega, repN_in⟩
      · split at h
        · cases h; exact ⟨by rw [repN_size, List.length_cons]; omega, repN_in⟩
        · split at h
          · cases h1 : bracesP l with
            | none => rw [h1] at h; cases h
            | some r =>
              obtain ⟨x, y, l2⟩ := r
              rw [h1] at h
              simp only at h
              obtain ⟨a, e⟩ := bracesP_tail h1
              have := len_app e
              split at h
              · cases h
                exact ⟨by rw [repN_size, List.length_cons, List.length_tail]; omega, repN_in⟩
              · cases h
          · cases h; exact ⟨Nat.le_refl _, id⟩
theorem head_cons {l : List Nat} {b : Nat} (h : l.head? = some b) : l = b :: l.tail := head_tail h
/-- what is left is a tail -/
def Tl (l l1 : List Nat) : Prop := ∃ a, l = a ++ l1
theorem Tl.refl (l : List Nat) : Tl l l := ⟨[], rfl⟩
theorem Tl.trans {a b c : List Nat} (h : Tl a b) (h2 : Tl b c) : Tl a c := by
  obtain ⟨x, rfl⟩ := h
  obtain ⟨y, rfl⟩ := h2
  exact ⟨x ++ y, by rw [List.append_assoc]⟩
theorem Tl.cons {b : Nat} {l l1 : List Nat} (h : Tl l l1) : Tl (b :: l) l1 := by
  obtain ⟨x, rfl⟩ := h
  exact ⟨b :: x, rfl⟩
theorem Tl.tail (l : List Nat) : Tl l l.tail := by
  cases l with
  | nil => exact .refl _
  | cons b l => exact ⟨[b], rfl⟩
theorem Tl.bytes {l l1 : List Nat} (h : Tl l l1) (hl : BytesL l) : BytesL l1 := by obtain ⟨a, rfl⟩ := h; exact hl.sub
theorem Tl.len {l l1 : List Nat} (h : Tl l l1) : l1.length ≤ l.length := by obtain ⟨a, rfl⟩ := h; rw [List.length_append]; omega
theorem quantP_tl {n n1 : Nd} {l l1 : List Nat} (h : quantP n l = some (n1, l1)) : Tl l l1 := quantP_tail h
theorem repSplit (n : Nd) : ([n] : List Nd).headD zeroN = n := rfl
/-- sizes and words -/
theorem sizes (f : Nat) : (∀ o l n l1, BytesL l → altP f o l = some (n, l1) → (sizeN n + 2 * l1.length ≤ 2 * l.length + 1 ∧ InN n ∧ Tl l l1)) ∧
    (∀ o ps l n l1, BytesL l → 1 ≤ ps.length → (∀ p ∈ ps, InN p) → barP f o ps l = some (n, l1) → (sizeN n + 2 * l1.length ≤ 2 * l.length + sizeL ps + (if ps.length = 1 then 0 else 1) ∧ InN n ∧ Tl l l1)) ∧
    (∀ o ps l n l1, BytesL l → (∀ p ∈ ps, InN p) → catP f o ps l = some (n, l1) → (sizeN n + 2 * l1.length ≤ 2 * l.length + sizeL ps + 1 ∧ InN n ∧ Tl l l1)) ∧
    (∀ o l n l1, BytesL l → pieceP f o l = some (n, l1) → (sizeN n + 2 * l1.length ≤ 2 * l.length ∧ InN n ∧ Tl l l1)) ∧
    (∀ o l n l1, BytesL l → atomP f o l = some (n, l1) → (sizeN n + 2 * l1.length ≤ 2 * l.length ∧ InN n ∧ Tl l l1)) := by
  induction f with
  | zero => exact ⟨fun _ _ _ _ _ h => (by rw [altP] at h; cases h), fun _ _ _ _ _ _ _ _ h => (by rw [barP] at h; cases h), fun _ _ _ _ _ _ _ h => (by rw [catP] at h; cases h), fun _ _ _ _ _ h => (by rw [pieceP] at h; cases h), fun _ _ _ _ _ h => (by rw [atomP] at h; cases h)⟩
  | succ f ih =>
    obtain ⟨i1, i2, i3, i4, i5⟩ := ih
    refine ⟨fun o l n l1 hl h => ?_, fun o ps l n l1 hl hp hi h => ?_, fun o ps l n l1 hl hi h => ?_, fun o l n l1 hl h => ?_, fun o l n l1 hl h => ?_⟩
    · rw [altP] at h
      cases h1 : catP f o [] l with
      | none => rw [h1] at h; cases h
      | some r =>
        rw [h1] at h
        have a1 := i3 o [] l r.1 r.2 hl (fun p hp => by cases hp) h1
        have a2 := i2 o [r.1] r.2 n l1 (a1.2.2.bytes hl) (by simp) (fun p hp => by obtain rfl := List.mem_singleton.1 hp; exact a1.2.1) h
        have b1 := a1.1
        have b2 := a2.1
        simp only [sizeL, List.length_singleton, if_true] at b1 b2
        exact ⟨by omega, a2.2.1, a1.2.2.trans a2.2.2⟩
    · rw [barP] at h
      split at h
      · rename_i hh
        cases h1 : catP f o [] l.tail with
        | none => rw [h1] at h; cases h
        | some r =>
          rw [h1] at h
          have a1 := i3 o [] l.tail r.1 r.2 hl.tail (fun p hp => by cases hp) h1
          have a2 := i2 o (ps ++ [r.1]) r.2 n l1 (a1.2.2.bytes hl.tail) (by simp) (fun p hp => by
            rcases List.mem_append.1 hp with hp | hp
            · exact hi p hp
            · obtain rfl := List.mem_singleton.1 hp; exact a1.2.1) h
          have b1 := a1.1
          have b2 := a2.1
          have b3 : l.length = l.tail.length + 1 := by
            cases l with
            | nil => cases hh
            | cons a l => rfl
          rw [sizeL_app, if_neg (by rw [List.length_append, List.length_singleton]; omega)] at b2
          simp only [sizeL] at b1 b2
          exact ⟨by split <;> omega, a2.2.1, (Tl.tail l).trans (a1.2.2.trans a2.2.2)⟩
      · cases h
        split
        · rename_i h1
          obtain ⟨p, rfl⟩ := List.length_eq_one_iff.1 h1
          refine ⟨?_, hi p (by simp), .refl _⟩
          show sizeN p + _ ≤ _
          simp only [sizeL]
          omega
        · have := joinN_size 3 ps
          exact ⟨by omega, joinN_in hi, .refl _⟩
    · rw [catP] at h
      split at h
      · cases h
        have := joinN_size 2 ps
        exact ⟨by omega, joinN_in hi, .refl _⟩
      · cases h1 : pieceP f o l with
        | none => rw [h1] at h; cases h
        | some r =>
          rw [h1] at h
          have a1 := i4 o l r.1 r.2 hl h1
          have a2 := i3 o (ps ++ [r.1]) r.2 n l1 (a1.2.2.bytes hl) (fun p hp => by
            rcases List.mem_append.1 hp with hp | hp
            · exact hi p hp
            · obtain rfl := List.mem_singleton.1 hp; exact a1.2.1) h
          have b1 := a1.1
          have b2 := a2.1
          rw [sizeL_app] at b2
          simp only [sizeL] at b2
          exact ⟨by omega, a2.2.1, a1.2.2.trans a2.2.2⟩
    · rw [pieceP] at h
      cases h1 : atomP f o l with
      | none => rw [h1] at h; cases h
      | some r =>
        rw [h1] at h
        have a1 := i5 o l r.1 r.2 hl h1
        have a2 := quantP_size h
        exact ⟨by omega, a2.2 a1.2.1, a1.2.2.trans (quantP_tl h)⟩
    · cases l with
      | nil => rw [atomP.eq_def] at h; cases h
      | cons b l2 =>
        have hl2 := (BytesL.cons.1 hl).2
        rw [atomP.eq_def] at h
        simp only at h
        rw [List.length_cons]
        split at h
        · cases h
        · split at h
          · split at h
            · cases h
            · cases h1 : altP f (o + 1) l2 with
              | none => rw [h1] at h; cases h
              | some r =>
                rw [h1] at h
                simp only at h
                have a1 := i1 (o + 1) l2 r.1 r.2 hl2 h1
                split at h
                · rename_i hh
                  cases h
                  have b3 := congrArg List.length (head_cons hh)
                  simp only [List.length_cons] at b3
                  exact ⟨by omega, a1.2.1, (a1.2.2.trans (Tl.tail _)).cons⟩
                · cases h
          · split at h
            · cases h; exact ⟨by rw [oneN_size]; omega, oneN_in (span4_in _ _), (Tl.refl _).cons⟩
            · split at h
              · cases h1 : classP l2 with
                | none => rw [h1] at h; cases h
                | some r =>
                  obtain ⟨s, l3⟩ := r
                  rw [h1] at h
                  cases h
                  obtain ⟨a, e, _⟩ := classP_tail h1
                  have := len_app e
                  exact ⟨by rw [oneN_size]; omega, oneN_in (classP_in hl2 h1), Tl.cons ⟨a, e⟩⟩
              · split at h
                · cases h1 : escP l2 with
                  | none => rw [h1] at h; cases h
                  | some r =>
                    obtain ⟨s, l3⟩ := r
                    rw [h1] at h
                    cases h
                    obtain ⟨a, e, _⟩ := escP_tail h1
                    have := len_app e
                    exact ⟨by rw [oneN_size]; omega, oneN_in (escP_in hl2 h1), Tl.cons ⟨a, e⟩⟩
                · cases h; exact ⟨by rw [oneN_size]; omega, oneN_in (one4_in _), (Tl.refl _).cons⟩
/-- a pattern's tree is small, and its words fit -/
theorem parseN_size {l : List Nat} {n : Nd} (hl : BytesL l) (h : parseN l = some n) : sizeN n ≤ 2 * l.length + 1 ∧ InN n ∧ l.length ≤ 256 := by
  unfold parseN at h
  split at h
  · cases h
  · rename_i h256
    cases h1 : altP (4 * l.length + 4) 0 l with
    | none => rw [h1] at h; cases h
    | some r =>
      obtain ⟨m, l1⟩ := r
      rw [h1] at h
      cases l1 with
      | nil =>
        simp only at h
        cases h
        have := (sizes _).1 0 l n [] hl h1
        simp only [List.length_nil] at this
        exact ⟨by omega, this.2.1, by omega⟩
      | cons a l1 => cases h
end Rg
end Go.Proofs.YtpknglbpbodnbaaDoor
