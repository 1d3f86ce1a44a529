/-
  The reference's least text, level by level: plain words. Conditions: the automaton is right.
-/
import Derived.Test.YtmmlakheimfijaaGreatDoorJLgFinPl
namespace Go.Proofs.YtmmlakheimfijaaGreatDoor
set_option linter.unusedVariables false
set_option linter.unusedSimpArgs false

abbrev OT := Option (List Nat)
/-- the lesser of two -/
def mnT (o : OT) (t : List Nat) : OT := match o with
  | none => some t
  | some u => if slx.lexB t u = true then some t else some u
def putT (o : Nat → OT) (m : Nat) (t : List Nat) : Nat → OT := fun x => if x = m then mnT (o m) t else o x
/-- the row of a state whose text is known: bytes below n -/
def rowT (d : Aut) (blk : Nat → Nat) (L : Nat → OT) (s n : Nat) (o : Nat → OT) : Nat → OT := match L s with
  | none => o
  | some t => (List.range n).foldl (fun o b => putT o (d.nx s (blk b)) (t ++ [b])) o
theorem rowT_succ (d : Aut) (blk : Nat → Nat) (L : Nat → OT) (s n : Nat) (o : Nat → OT) {t : List Nat} (h : L s = some t) : rowT d blk L s (n + 1) o = putT (rowT d blk L s n o) (d.nx s (blk n)) (t ++ [n]) := by
  unfold rowT
  rw [h]
  simp only [List.range_succ, List.foldl_append, List.foldl_cons, List.foldl_nil]
def rowsT (d : Aut) (blk : Nat → Nat) (L : Nat → OT) (s : Nat) : Nat → OT := (List.range s).foldl (fun o s => rowT d blk L s 256 o) fun _ => none
theorem rowsT_succ (d : Aut) (blk : Nat → Nat) (L : Nat → OT) (s : Nat) : rowsT d blk L (s + 1) = rowT d blk L s 256 (rowsT d blk L s) := by
  unfold rowsT
  rw [List.range_succ, List.foldl_append]
  rfl
def lvT (d : Aut) (blk : Nat → Nat) : Nat → Nat → OT
  | 0 => fun s => if s = d.start then some [] else none
  | n + 1 => rowsT d blk (lvT d blk n) d.many
def bestT (d : Aut) (L : Nat → OT) (s : Nat) : OT := (List.range s).foldl (fun o s => match L s with
  | none => o
  | some t => if d.fin s = true then mnT o t else o) none
theorem bestT_succ (d : Aut) (L : Nat → OT) (s : Nat) : bestT d L (s + 1) = match L s with
  | none => bestT d L s
  | some t => if d.fin s = true then mnT (bestT d L s) t else bestT d L s := by
  unfold bestT
  rw [List.range_succ, List.foldl_append]
  rfl
def searchT (d : Aut) (blk : Nat → Nat) : Nat → OT
  | 0 => none
  | n + 1 => match searchT d blk n with
    | some t => some t
    | none => bestT d (lvT d blk n) d.many
def refFirst (d : Aut) (blk : Nat → Nat) : OT := searchT d blk d.many

/-- the least of a set of texts of one length, or none -/
def LeastOf (S : List Nat → Prop) (o : OT) : Prop := match o with
  | none => ∀ u, ¬ S u
  | some t => S t ∧ ∀ u, S u → t = u ∨ slx.lexB t u = true
theorem LeastOf.congr {S S' : List Nat → Prop} {o : OT} (h : LeastOf S o) (hS : ∀ u, S u ↔ S' u) : LeastOf S' o := by
  cases o with
  | none => exact fun u hu => h u ((hS u).2 hu)
  | some t => exact ⟨(hS t).1 h.1, fun u hu => h.2 u ((hS u).2 hu)⟩
theorem LeastOf.mn {S : List Nat → Prop} {o : OT} {n : Nat} (hn : ∀ u, S u → u.length = n) {T : List Nat → Prop} {t : List Nat} (h : LeastOf S o) (ht : T t) (hT : ∀ u, T u → u.length = n ∧ (t = u ∨ slx.lexB t u = true)) : LeastOf (fun u => S u ∨ T u) (mnT o t) := by
  cases o with
  | none => exact ⟨.inr ht, fun u hu => hu.elim (fun h' => (h u h').elim) fun h' => (hT u h').2⟩
  | some v =>
    have hvn := hn v h.1
    have htn := (hT t ht).1
    unfold mnT
    simp only
    split
    · rename_i hlt
      refine ⟨.inr ht, fun u hu => hu.elim (fun h' => ?_) fun h' => (hT u h').2⟩
      rcases h.2 u h' with rfl | h2
      · exact .inr hlt
      · exact .inr (lexB_trans hlt h2)
    · rename_i hlt
      refine ⟨.inl h.1, fun u hu => hu.elim (h.2 u) fun h' => ?_⟩
      have hvt : v = t ∨ slx.lexB v t = true := by
        rcases lexB_total v t (by omega) with h3 | h3 | h3
        · exact .inr h3
        · exact .inl h3
        · exact absurd h3 hlt
      rcases (hT u h').2 with rfl | h4
      · exact hvt
      · rcases hvt with rfl | h5
        · exact .inr h4
        · exact .inr (lexB_trans h5 h4)
section
variable {d : Aut} {blk : Nat → Nat}
/-- texts of n bytes that lead to m -/
def To (d : Aut) (blk : Nat → Nat) (n m : Nat) (u : List Nat) : Prop := Bytes u ∧ u.length = n ∧ d.at_ blk u = m
theorem row_least {L : Nat → OT} {n s : Nat} (hL : LeastOf (To d blk n s) (L s)) {o : Nat → OT} {S : Nat → List Nat → Prop} (hS : ∀ m u, S m u → u.length = n + 1) (ho : ∀ m, LeastOf (S m) (o m)) :
    ∀ c, c ≤ 256 → ∀ m, LeastOf (fun u => S m u ∨ ∃ v b, b < c ∧ u = v ++ [b] ∧ To d blk n s v ∧ d.nx s (blk b) = m) (rowT d blk L s c o m)
  | 0, _, m => by
    have e : rowT d blk L s 0 o = o := by unfold rowT; split <;> rfl
    rw [e]
    exact (ho m).congr fun u => ⟨.inl, fun h => h.elim id fun ⟨v, b, hb, _⟩ => by omega⟩
  | c + 1, hc, m => by
    cases h : L s with
    | none =>
      rw [h] at hL
      have e : rowT d blk L s (c + 1) o = o := by unfold rowT; rw [h]
      rw [e]
      exact (ho m).congr fun u => ⟨.inl, fun h => h.elim id fun ⟨v, b, _, _, hv, _⟩ => (hL v hv).elim⟩
    | some t =>
      rw [h] at hL
      rw [rowT_succ d blk L s c o h]
      have ih := row_least (n := n) (s := s) (L := L) (by rw [h]; exact hL) hS ho c (by omega) m
      have hlen : ∀ u, (S m u ∨ ∃ v b, b < c ∧ u = v ++ [b] ∧ To d blk n s v ∧ d.nx s (blk b) = m) → u.length = n + 1 := by
        rintro u (hu | ⟨v, b, -, rfl, hv, -⟩)
        · exact hS m u hu
        · have := hv.2.1; simp [this]
      unfold putT
      by_cases e : m = d.nx s (blk c)
      · rw [if_pos e, ← e]
        refine (ih.mn (T := fun u => ∃ v, u = v ++ [c] ∧ To d blk n s v) hlen ⟨t, rfl, hL.1⟩ ?_).congr fun u => ⟨?_, ?_⟩
        · rintro u ⟨v, rfl, hv⟩
          refine ⟨by have := hv.2.1; simp [this], ?_⟩
          rcases hL.2 v hv with rfl | h2
          · exact .inl rfl
          · exact .inr (lexB_app t v c c (by rw [hL.1.2.1, hv.2.1]) h2)
        · rintro ((hu | ⟨v, b, hb, rfl, hv, hm⟩) | ⟨v, rfl, hv⟩)
          · exact .inl hu
          · exact .inr ⟨v, b, by omega, rfl, hv, hm⟩
          · exact .inr ⟨v, c, by omega, rfl, hv, e.symm⟩
        · rintro (hu | ⟨v, b, hb, rfl, hv, hm⟩)
          · exact .inl (.inl hu)
          · by_cases e2 : b = c
            · subst e2; exact .inr ⟨v, rfl, hv⟩
            · exact .inl (.inr ⟨v, b, by omega, rfl, hv, hm⟩)
      · rw [if_neg e]
        refine ih.congr fun u => ⟨?_, ?_⟩
        · rintro (hu | ⟨v, b, hb, rfl, hv, hm⟩)
          · exact .inl hu
          · exact .inr ⟨v, b, by omega, rfl, hv, hm⟩
        · rintro (hu | ⟨v, b, hb, rfl, hv, hm⟩)
          · exact .inl hu
          · by_cases e2 : b = c
            · subst e2; exact absurd hm.symm e
            · exact .inr ⟨v, b, by omega, rfl, hv, hm⟩
theorem rows_least {L : Nat → OT} {n : Nat} (hL : ∀ s, s < d.many → LeastOf (To d blk n s) (L s)) : ∀ c, c ≤ d.many → ∀ m, LeastOf (fun u => ∃ v b s, s < c ∧ b < 256 ∧ u = v ++ [b] ∧ To d blk n s v ∧ d.nx s (blk b) = m) (rowsT d blk L c m)
  | 0, _, m => fun u ⟨v, b, s, hs, _⟩ => by omega
  | c + 1, hc, m => by
    rw [rowsT_succ]
    refine (row_least (hL c (by omega)) (S := fun m u => ∃ v b s, s < c ∧ b < 256 ∧ u = v ++ [b] ∧ To d blk n s v ∧ d.nx s (blk b) = m) ?_ (rows_least hL c (by omega)) 256 (Nat.le_refl _) m).congr fun u => ⟨?_, ?_⟩
    · rintro m u ⟨v, b, s, -, -, rfl, hv, -⟩
      have := hv.2.1; simp [this]
    · rintro (⟨v, b, s, hs, h⟩ | ⟨v, b, hb, h⟩)
      · exact ⟨v, b, s, by omega, h⟩
      · exact ⟨v, b, c, by omega, hb, h⟩
    · rintro ⟨v, b, s, hs, hb, h⟩
      by_cases e : s = c
      · subst e; exact .inr ⟨v, b, hb, h⟩
      · exact .inl ⟨v, b, s, by omega, hb, h⟩
theorem lv_least (hd : d.Ok) (hb : d.Blk blk) : ∀ n m, m < d.many → LeastOf (To d blk n m) (lvT d blk n m)
  | 0, m, hm => by
    unfold lvT
    split
    · rename_i e
      refine ⟨⟨.nil, rfl, e.symm⟩, fun u hu => .inl (List.eq_nil_of_length_eq_zero hu.2.1).symm⟩
    · rename_i e
      intro u hu
      have := List.eq_nil_of_length_eq_zero hu.2.1
      subst this
      exact e hu.2.2.symm
  | n + 1, m, hm => by
    unfold lvT
    refine (rows_least (fun s hs => lv_least hd hb n s hs) d.many (Nat.le_refl _) m).congr fun u => ⟨?_, ?_⟩
    · rintro ⟨v, b, s, hs, hb1, rfl, hv, rfl⟩
      exact ⟨hv.1.app (.one hb1), by have := hv.2.1; simp [this], by rw [Aut.at_app, hv.2.2]⟩
    · rintro ⟨hu, hl, rfl⟩
      rcases List.eq_nil_or_concat u with rfl | ⟨v, b, rfl⟩
      · cases hl
      · rw [List.concat_eq_append] at hu hl ⊢
        exact ⟨v, b, d.at_ blk v, Aut.at_lt hd hb hu.of_app.1, hu b (by simp), rfl, ⟨hu.of_app.1, by simpa using hl, rfl⟩, (Aut.at_app v b).symm⟩
theorem best_least {L : Nat → OT} {n : Nat} (hL : ∀ s, s < d.many → LeastOf (To d blk n s) (L s)) : ∀ c, c ≤ d.many → LeastOf (fun u => ∃ s, s < c ∧ To d blk n s u ∧ d.fin s = true) (bestT d L c)
  | 0, _ => fun u ⟨s, hs, _⟩ => by omega
  | c + 1, hc => by
    rw [bestT_succ]
    have ih := best_least hL c (by omega)
    have hc' := hL c (by omega)
    have keep : (∀ u, To d blk n c u → d.fin c = true → False) → LeastOf (fun u => ∃ s, s < c + 1 ∧ To d blk n s u ∧ d.fin s = true) (bestT d L c) := fun hno =>
      ih.congr fun u => ⟨fun ⟨s, hs, h⟩ => ⟨s, by omega, h⟩, fun ⟨s, hs, h⟩ => by
        by_cases e : s = c
        · subst e; exact (hno u h.1 h.2).elim
        · exact ⟨s, by omega, h⟩⟩
    cases hLc : L c with
    | none =>
      rw [hLc] at hc'
      exact keep fun u hu _ => hc' u hu
    | some t =>
      rw [hLc] at hc'
      simp only
      split
      · rename_i hf
        refine (ih.mn (n := n) (T := To d blk n c) (fun u ⟨s, _, hu, _⟩ => hu.2.1) hc'.1 fun u hu => ⟨hu.2.1, hc'.2 u hu⟩).congr fun u => ⟨?_, ?_⟩
        · rintro (⟨s, hs, h⟩ | h)
          · exact ⟨s, by omega, h⟩
          · exact ⟨c, by omega, h, hf⟩
        · rintro ⟨s, hs, h⟩
          by_cases e : s = c
          · subst e; exact .inr h.1
          · exact .inl ⟨s, by omega, h⟩
      · rename_i hf
        exact keep fun u _ h => hf h
theorem level_least (hd : d.Ok) (hb : d.Blk blk) (n : Nat) : LeastOf (fun u => Bytes u ∧ u.length = n ∧ d.lang blk u = true) (bestT d (lvT d blk n) d.many) :=
  (best_least (fun s hs => lv_least hd hb n s hs) d.many (Nat.le_refl _)).congr fun u =>
    ⟨fun ⟨s, _, hu, hf⟩ => ⟨hu.1, hu.2.1, by unfold Aut.lang; rw [hu.2.2]; exact hf⟩, fun ⟨h1, h2, h3⟩ => ⟨_, Aut.at_lt hd hb h1, ⟨h1, h2, rfl⟩, h3⟩⟩
theorem search_least (hd : d.Ok) (hb : d.Blk blk) : ∀ n, match searchT d blk n with
    | none => ∀ u, Bytes u → u.length < n → d.lang blk u = false
    | some t => t.length < n ∧ IsLeastT (d.lang blk) t
  | 0 => fun u _ h => by omega
  | n + 1 => by
    have ih := search_least hd hb n
    unfold searchT
    cases h : searchT d blk n with
    | some t =>
      rw [h] at ih
      exact ⟨by have := ih.1; omega, ih.2⟩
    | none =>
      rw [h] at ih
      simp only at ih ⊢
      have hl := level_least hd hb n
      cases h2 : bestT d (lvT d blk n) d.many with
      | none =>
        rw [h2] at hl
        simp only
        intro u hu hn
        by_cases e : u.length = n
        · cases h3 : d.lang blk u with
          | false => rfl
          | true => exact (hl u ⟨hu, e, h3⟩).elim
        · exact ih u hu (by omega)
      | some t =>
        rw [h2] at hl
        refine ⟨by have := hl.1.2.1; omega, hl.1.1, hl.1.2.2, fun u hu h3 => ?_⟩
        have h4 : n ≤ u.length := Nat.le_of_not_lt fun h5 => by
          have := ih u hu h5
          rw [h3] at this
          cases this
        by_cases e : u.length = n
        · rcases hl.2 u ⟨hu, e, h3⟩ with h6 | h6
          · exact .inl h6
          · exact .inr (slx_iff.2 (.inr ⟨by rw [hl.1.2.1, e], h6⟩))
        · exact .inr (slx_iff.2 (.inl (by have := hl.1.2.1; omega)))
theorem refFirst_some (hd : d.Ok) (hb : d.Blk blk) {t : List Nat} (h : refFirst d blk = some t) : t.length < d.many ∧ IsLeastT (d.lang blk) t := by
  have := search_least hd hb d.many
  unfold refFirst at h
  rw [h] at this
  exact this
theorem refFirst_none (hd : d.Ok) (hb : d.Blk blk) (h : refFirst d blk = none) {u : List Nat} (hu : Bytes u) : d.lang blk u = false := by
  have := search_least hd hb d.many
  unfold refFirst at h
  rw [h] at this
  cases h3 : d.lang blk u with
  | false => rfl
  | true =>
    obtain ⟨v, h4, h5, h6⟩ := short_one hd hb _ u (Nat.le_refl _) hu h3
    have := this v h4 h6
    rw [h5] at this
    cases this
end
/-- both tell the same -/
theorem first_same {D : DfaI} (hR : RightD D) : refFirst D.aut D.blk = firstD D := by
  cases h : refFirst D.aut D.blk with
  | none =>
    cases h2 : firstD D with
    | none => rfl
    | some t =>
      have h3 := firstD_some hR h2
      have h4 : D.aut.lang D.blk t = false := refFirst_none hR.ok hR.blk.1.blk h h3.1
      have h5 : D.aut.lang D.blk t = true := h3.2.1
      rw [h5] at h4
      cases h4
  | some t =>
    obtain ⟨h3, h4⟩ := refFirst_some hR.ok hR.blk.1.blk h
    cases h2 : firstD D with
    | none =>
      have : D.aut.lang D.blk t = false := firstD_none hR h2 h4.1
      have h5 : D.aut.lang D.blk t = true := h4.2.1
      rw [h5] at this
      cases this
    | some u => rw [h4.eq (firstD_some hR h2)]
theorem firstD_len {D : DfaI} (hR : RightD D) {t : List Nat} (h : firstD D = some t) : t.length < D.next.length := by
  rw [← first_same hR] at h
  have := (refFirst_some hR.ok hR.blk.1.blk h).1
  rw [← D.nx_len]
  exact this
end Go.Proofs.YtmmlakheimfijaaGreatDoor
