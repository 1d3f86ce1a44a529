/-
  A tree's own text is read as the tree. Plain words; no Go in sight. Conditions: each lemma says its own.
-/
import Derived.Test.YtpknglbpbodnbaaDoorJRgRound
namespace Go.Proofs.YtpknglbpbodnbaaDoor
set_option linter.unusedVariables false
set_option linter.unusedSimpArgs false
namespace Rg
open Cs

/-- nothing says how often -/
def Quiet (r : List Nat) : Prop := ∀ b, r.head? = some b → b ≠ 42 ∧ b ≠ 43 ∧ b ≠ 63 ∧ b ≠ 123
theorem quant_none {r : List Nat} (h : Quiet r) (n : Nd) : quantP n r = some (n, r) := by
  cases r with
  | nil => rfl
  | cons b r =>
    obtain ⟨h1, h2, h3, h4⟩ := h b rfl
    rw [quantP, if_neg h1, if_neg h2, if_neg h3, if_neg h4]
theorem Quiet.head {r : List Nat} (h : HeadNot r badP) : Quiet r := by
  obtain ⟨c, u, rfl, hc⟩ := h
  intro b hb
  simp at hb
  rw [← hb]
  unfold badP at hc
  simp at hc
  omega
theorem endB_iff {r : List Nat} : endB r = true ↔ r = [] ∨ r.head? = some 124 ∨ r.head? = some 41 := by
  unfold endB
  simp [or_assoc]
theorem Quiet.end_ {r : List Nat} (h : endB r = true) : Quiet r := by
  rcases endB_iff.1 h with rfl | h | h
  · intro b hb; cases hb
  · intro b hb; rw [h] at hb; simp at hb; omega
  · intro b hb; rw [h] at hb; simp at hb; omega
theorem endB_head {r : List Nat} (h : HeadNot r badP) : ¬ endB r = true := by
  obtain ⟨c, u, rfl, hc⟩ := h
  rw [endB_iff]
  unfold badP at hc
  simp at hc ⊢
  omega
theorem right_kind {n : Nd} (h : rightN n = true) : n.kind = 1 ∨ n.kind = 2 ∨ n.kind = 3 ∨ n.kind = 4 := by
  cases n with
  | mk k s l x y =>
    obtain ⟨_, _, _, h⟩ := rightN_iff.1 h
    show k = 1 ∨ k = 2 ∨ k = 3 ∨ k = 4
    omega
/-- what is read of a tree's text -/
structure Facts (n : Nd) : Prop where
  head : n.kind = 1 ∨ n.kind = 4 → HeadNot (tellN n) badP
  piece : ∀ f o r, n.kind = 1 ∨ n.kind = 4 → o + nestN n ≤ 16 → 4 * (tellN n ++ r).length + 2 ≤ f → Quiet r → pieceP f o (tellN n ++ r) = some (n, r)
  cat : ∀ f o r, n.kind ≠ 3 → o + nestN n ≤ 16 → 4 * (tellN n ++ r).length + 3 ≤ f → endB r = true → catP f o [] (tellN n ++ r) = some (n, r)
  alt : ∀ f o r, o + nestN n ≤ 16 → 4 * (tellN n ++ r).length + 4 ≤ f → r = [] ∨ r.head? = some 41 → altP f o (tellN n ++ r) = some (n, r)
theorem group_len (t r : List Nat) : (wrapT true t ++ r).length = (t ++ 41 :: r).length + 1 := by
  unfold wrapT
  simp
theorem group_atom {n : Nd} (h : Facts n) {f o : Nat} {r : List Nat} (ho : o + nestN n + 1 ≤ 16) (hf : 4 * (wrapT true (tellN n) ++ r).length + 1 ≤ f) : atomP f o (wrapT true (tellN n) ++ r) = some (n, r) := by
  rw [group_len] at hf
  obtain ⟨f, rfl⟩ : ∃ j, f = j + 1 := ⟨f - 1, by omega⟩
  have e : wrapT true (tellN n) ++ r = 40 :: (tellN n ++ 41 :: r) := by simp [wrapT]
  rw [e, atom_back, if_neg (by simp [signsA]), if_pos rfl, if_neg (by omega), h.alt f (o + 1) (41 :: r) (by omega) (by omega) (.inr rfl)]
  show (if (41 :: r).head? = some 41 then some (n, r) else none) = _
  rw [if_pos (show (41 :: r).head? = some 41 from rfl)]
theorem piece_of {f o : Nat} {l l1 : List Nat} {n n1 : Nd} (h : atomP f o l = some (n, l1)) : pieceP (f + 1) o l = quantP n l1 := by
  rw [pieceP, h]
/-- a part of a row -/
theorem kid_piece {n : Nd} (h : Facts n) (hr : rightN n = true) (hk : n.kind ≠ 2) {f o : Nat} {r : List Nat} (ho : o + (nestN n + if wrapB 2 n = true then 1 else 0) ≤ 16)
    (hf : 4 * (wrapT (wrapB 2 n) (tellN n) ++ r).length + 2 ≤ f) (hq : Quiet r) : pieceP f o (wrapT (wrapB 2 n) (tellN n) ++ r) = some (n, r) := by
  by_cases h3 : n.kind = 3
  · have e : wrapB 2 n = true := by unfold wrapB; simp [h3]
    rw [e] at ho hf ⊢
    rw [if_pos rfl] at ho
    obtain ⟨f, rfl⟩ : ∃ j, f = j + 1 := ⟨f - 1, by omega⟩
    rw [piece_of (n1 := n) (group_atom h (by omega) (by omega))]
    exact quant_none hq n
  · have e : wrapB 2 n = false := by unfold wrapB; simp [h3]
    rw [e] at ho hf ⊢
    exact h.piece f o r (by have := right_kind hr; omega) (by simpa using ho) hf hq
theorem kid_head {n : Nd} (h : Facts n) (hr : rightN n = true) (hk : n.kind ≠ 2) : HeadNot (wrapT (wrapB 2 n) (tellN n)) badP := by
  by_cases h3 : n.kind = 3
  · have e : wrapB 2 n = true := by unfold wrapB; simp [h3]
    rw [e]
    exact ⟨40, _, rfl, by simp [badP]⟩
  · have e : wrapB 2 n = false := by unfold wrapB; simp [h3]
    rw [e]
    exact h.head (by have := right_kind hr; omega)
theorem barT2 (first : Bool) : barT 2 first = [] := by unfold barT; rw [if_neg (by omega)]
theorem cat_loop (l : List Nd) (hl : ∀ n ∈ l, Facts n ∧ rightN n = true ∧ n.kind ≠ 2) : ∀ (first : Bool) (ps : List Nd) (f o : Nat) (r : List Nat), o + nestL 2 l ≤ 16 → 4 * (tellL 2 first l ++ r).length + 3 ≤ f → endB r = true →
    catP f o ps (tellL 2 first l ++ r) = some (joinN 2 (ps ++ l), r) := by
  induction l with
  | nil =>
    intro first ps f o r ho hf he
    obtain ⟨f, rfl⟩ : ∃ j, f = j + 1 := ⟨f - 1, by omega⟩
    show catP (f + 1) o ps ([] ++ r) = _
    rw [List.nil_append, catP, if_pos he, List.append_nil]
  | cons n l ih =>
    intro first ps f o r ho hf he
    obtain ⟨f, rfl⟩ : ∃ j, f = j + 1 := ⟨f - 1, by omega⟩
    obtain ⟨h1, h2, h3⟩ := hl n (List.mem_cons_self ..)
    have hl' : ∀ m ∈ l, Facts m ∧ rightN m = true ∧ m.kind ≠ 2 := fun m hm => hl m (List.mem_cons_of_mem _ hm)
    have e : tellL 2 first (n :: l) ++ r = wrapT (wrapB 2 n) (tellN n) ++ (tellL 2 false l ++ r) := by
      rw [tellL, barT2]
      simp
    rw [e] at hf ⊢
    rw [nestL] at ho
    have hh := kid_head h1 h2 h3
    have hq : Quiet (tellL 2 false l ++ r) := by
      cases l with
      | nil => exact Quiet.end_ he
      | cons m l =>
        obtain ⟨g1, g2, g3⟩ := hl' m (List.mem_cons_self ..)
        refine Quiet.head (HeadNot.app ?_ r)
        rw [tellL, barT2, List.nil_append]
        exact (kid_head g1 g2 g3).app _
    have hp : 0 < (wrapT (wrapB 2 n) (tellN n)).length := by
      obtain ⟨c, u, e, _⟩ := hh
      rw [e]
      simp
    have hmx := Nat.le_max_left (nestN n + if wrapB 2 n = true then 1 else 0) (nestL 2 l)
    have hmy := Nat.le_max_right (nestN n + if wrapB 2 n = true then 1 else 0) (nestL 2 l)
    rw [catP, if_neg (endB_head (hh.app _)), kid_piece h1 h2 h3 (by omega) (by omega) hq]
    show catP f o (ps ++ [n]) (tellL 2 false l ++ r) = _
    rw [ih hl' false (ps ++ [n]) f o r (by omega) (by rw [List.length_append] at hf; omega) he]
    simp
theorem flatN_none {k : Int} {l : List Nd} (h : ∀ n ∈ l, n.kind ≠ k) : flatN k l = l := by
  unfold flatN
  induction l with
  | nil => rfl
  | cons n l ih =>
    rw [List.flatMap_cons, if_neg (h n (List.mem_cons_self ..)), ih fun m hm => h m (List.mem_cons_of_mem _ hm)]
    rfl
theorem oneOf_many {k : Int} {l : List Nd} (h : l.length ≠ 1) : oneOf k l = .mk k none4 l 0 0 := by
  match l, h with
  | [], _ => rfl
  | [x], h => exact (h rfl).elim
  | x :: y :: l, _ => rfl
theorem barT3f : barT 3 false = [124] := rfl
theorem barT3t : barT 3 true = [] := by unfold barT; rw [if_neg (by simp)]
theorem wrapB3 (n : Nd) : wrapB 3 n = false := by unfold wrapB; simp
theorem bar_loop (l : List Nd) (hl : ∀ n ∈ l, Facts n ∧ n.kind ≠ 3) : ∀ (ps : List Nd) (f o : Nat) (r : List Nat), o + nestL 3 l ≤ 16 → 4 * (tellL 3 false l ++ r).length + 3 ≤ f → r = [] ∨ r.head? = some 41 →
    barP f o ps (tellL 3 false l ++ r) = some (if (ps ++ l).length = 1 then (ps ++ l).headD zeroN else joinN 3 (ps ++ l), r) := by
  induction l with
  | nil =>
    intro ps f o r ho hf he
    obtain ⟨f, rfl⟩ : ∃ j, f = j + 1 := ⟨f - 1, by omega⟩
    show barP (f + 1) o ps ([] ++ r) = _
    have hne : ¬ r.head? = some 124 := by
      rcases he with rfl | he
      · simp
      · rw [he]; simp
    rw [List.nil_append, barP, if_neg hne, List.append_nil]
  | cons n l ih =>
    intro ps f o r ho hf he
    obtain ⟨f, rfl⟩ : ∃ j, f = j + 1 := ⟨f - 1, by omega⟩
    obtain ⟨h1, h2⟩ := hl n (List.mem_cons_self ..)
    have hl' : ∀ m ∈ l, Facts m ∧ m.kind ≠ 3 := fun m hm => hl m (List.mem_cons_of_mem _ hm)
    have e : tellL 3 false (n :: l) ++ r = 124 :: (tellN n ++ (tellL 3 false l ++ r)) := by
      rw [tellL, barT3f, wrapB3]
      simp [wrapT]
    rw [e] at hf ⊢
    rw [nestL, wrapB3] at ho
    simp only [Bool.false_eq_true, if_false, Nat.add_zero] at ho
    have hmx := Nat.le_max_left (nestN n) (nestL 3 l)
    have hmy := Nat.le_max_right (nestN n) (nestL 3 l)
    have hend : endB (tellL 3 false l ++ r) = true := by
      rw [endB_iff]
      cases l with
      | nil => rcases he with rfl | he
               · exact .inl rfl
               · exact .inr (.inr he)
      | cons m l => exact .inr (.inl rfl)
    rw [List.length_cons] at hf
    rw [barP, if_pos (show (124 :: (tellN n ++ (tellL 3 false l ++ r))).head? = some 124 from rfl)]
    show (match catP f o [] (tellN n ++ (tellL 3 false l ++ r)) with | none => none | some (n, l1) => barP f o (ps ++ [n]) l1) = _
    rw [h1.cat f o _ h2 (by omega) (by omega) hend]
    show barP f o (ps ++ [n]) (tellL 3 false l ++ r) = _
    rw [ih hl' (ps ++ [n]) f o r (by omega) (by rw [List.length_append] at hf; omega) he]
    simp
theorem facts_of {n : Nd} (hh : n.kind = 1 ∨ n.kind = 4 → HeadNot (tellN n) badP)
    (hp : ∀ f o r, n.kind = 1 ∨ n.kind = 4 → o + nestN n ≤ 16 → 4 * (tellN n ++ r).length + 2 ≤ f → Quiet r → pieceP f o (tellN n ++ r) = some (n, r))
    (hk : n.kind = 1 ∨ n.kind = 4) : Facts n := by
  have hc : ∀ f o r, n.kind ≠ 3 → o + nestN n ≤ 16 → 4 * (tellN n ++ r).length + 3 ≤ f → endB r = true → catP f o [] (tellN n ++ r) = some (n, r) := fun f o r _ ho hf he => by
    obtain ⟨f, rfl⟩ : ∃ j, f = j + 1 := ⟨f - 1, by omega⟩
    have h0 := hh hk
    rw [catP, if_neg (endB_head (h0.app r)), hp f o r hk ho (by omega) (Quiet.end_ he)]
    show catP f o ([] ++ [n]) r = _
    obtain ⟨c, u, e, _⟩ := h0
    have hl : 0 < (tellN n ++ r).length := by rw [e]; simp
    obtain ⟨f, rfl⟩ : ∃ j, f = j + 1 := ⟨f - 1, by omega⟩
    rw [catP, if_pos he]
    have : joinN 2 ([] ++ [n]) = n := by
      unfold joinN
      rw [flatN_none (by intro m hm; simp at hm; rw [hm]; omega)]
      rfl
    rw [this]
  refine ⟨hh, hp, hc, fun f o r ho hf he => ?_⟩
  obtain ⟨f, rfl⟩ : ∃ j, f = j + 1 := ⟨f - 1, by omega⟩
  have hend : endB r = true := by
    rw [endB_iff]
    rcases he with h | h
    · exact .inl h
    · exact .inr (.inr h)
  rw [altP, hc f o r (by omega) ho (by omega) hend]
  show barP f o [n] r = _
  have h0 := hh hk
  obtain ⟨c, u, e, _⟩ := h0
  have hl : 0 < (tellN n ++ r).length := by rw [e]; simp
  obtain ⟨f, rfl⟩ : ∃ j, f = j + 1 := ⟨f - 1, by omega⟩
  have hne : ¬ r.head? = some 124 := by
    rcases he with rfl | he
    · simp
    · rw [he]; simp
  rw [barP, if_neg hne]
  rfl
/-- every right tree's text is read as the tree -/
theorem facts (n : Nd) : rightN n = true → InN n → Facts n := by
  refine Nd.ind (P := fun n => rightN n = true → InN n → Facts n) (fun k s l x y ih hr hin => ?_) n
  obtain ⟨h1, h2, h3, h4⟩ := rightN_iff.1 hr
  rw [InN, InL_iff] at hin
  have ihF : ∀ m ∈ l, Facts m := fun m hm => ih m hm (h1 m hm).1 (hin.2 m hm)
  rcases h4 with ⟨rfl, rfl⟩ | ⟨rfl, hlen⟩ | ⟨rfl, hlen⟩ | ⟨rfl, hlen, ht⟩
  · -- a set
    obtain ⟨rfl, rfl⟩ := h3 (by omega)
    have e : tellN (.mk 1 s [] 0 0) = setT s := by rw [tellN, if_pos rfl]
    refine facts_of (fun _ => ?_) (fun f o r _ ho hf hq => ?_) (.inl rfl)
    · rw [e]; exact set_head hin.1
    · rw [e] at hf ⊢
      obtain ⟨f, rfl⟩ : ∃ j, f = j + 1 + 1 := ⟨f - 2, by omega⟩
      rw [piece_of (n1 := .mk 1 s [] 0 0) (set_back hin.1 f o r)]
      exact quant_none hq _
  · -- a row
    obtain ⟨rfl, rfl⟩ := h3 (by omega)
    obtain rfl := h2 (by omega)
    have e : tellN (.mk 2 none4 l 0 0) = tellL 2 true l := by rw [tellN, if_neg (by omega), if_neg (by omega), List.append_nil]
    have en : nestN (.mk 2 none4 l 0 0) = nestL 2 l := by rw [nestN, if_neg (by omega)]
    have hl : ∀ m ∈ l, Facts m ∧ rightN m = true ∧ m.kind ≠ 2 := fun m hm => ⟨ihF m hm, (h1 m hm).1, fun e => by have := (h1 m hm).2 e; omega⟩
    have hj : joinN 2 ([] ++ l) = .mk 2 none4 l 0 0 := by
      unfold joinN
      rw [List.nil_append, flatN_none fun m hm => (hl m hm).2.2, oneOf_many hlen]
    have hc : ∀ f o r, o + nestL 2 l ≤ 16 → 4 * (tellL 2 true l ++ r).length + 3 ≤ f → endB r = true → catP f o [] (tellL 2 true l ++ r) = some (.mk 2 none4 l 0 0, r) := fun f o r ho hf he => by
      rw [cat_loop l hl true [] f o r ho hf he, hj]
    refine ⟨fun h => ?_, fun f o r h => ?_, fun f o r _ ho hf he => ?_, fun f o r ho hf he => ?_⟩
    · exact absurd (show (2 : Int) = 1 ∨ (2 : Int) = 4 from h) (by omega)
    · exact absurd (show (2 : Int) = 1 ∨ (2 : Int) = 4 from h) (by omega)
    · rw [e] at hf ⊢
      rw [en] at ho
      exact hc f o r ho hf he
    · rw [e] at hf ⊢
      rw [en] at ho
      obtain ⟨f, rfl⟩ : ∃ j, f = j + 1 + 1 := ⟨f - 2, by omega⟩
      have hend : endB r = true := by
        rw [endB_iff]
        rcases he with h | h
        · exact .inl h
        · exact .inr (.inr h)
      have hne : ¬ r.head? = some 124 := by
        rcases he with rfl | he
        · simp
        · rw [he]; simp
      rw [altP, hc (f + 1) o r ho (by omega) hend]
      show barP (f + 1) o [_] r = _
      rw [barP, if_neg hne]
      rfl
  · -- branches
    obtain ⟨rfl, rfl⟩ := h3 (by omega)
    obtain rfl := h2 (by omega)
    have e : tellN (.mk 3 none4 l 0 0) = tellL 3 true l := by rw [tellN, if_neg (by omega), if_neg (by omega), List.append_nil]
    have en : nestN (.mk 3 none4 l 0 0) = nestL 3 l := by rw [nestN, if_neg (by omega)]
    have hl : ∀ m ∈ l, Facts m ∧ m.kind ≠ 3 := fun m hm => ⟨ihF m hm, fun e => by have := (h1 m hm).2 e; omega⟩
    refine ⟨fun h => ?_, fun f o r h => ?_, fun f o r h => ?_, fun f o r ho hf he => ?_⟩
    · exact absurd (show (3 : Int) = 1 ∨ (3 : Int) = 4 from h) (by omega)
    · exact absurd (show (3 : Int) = 1 ∨ (3 : Int) = 4 from h) (by omega)
    · exact absurd (show (3 : Int) ≠ 3 from h) (by omega)
    · rw [e] at hf ⊢
      rw [en] at ho
      obtain ⟨f, rfl⟩ : ∃ j, f = j + 1 := ⟨f - 1, by omega⟩
      cases l with
      | nil => simp at hlen
      | cons m l =>
        obtain ⟨g1, g2⟩ := hl m (List.mem_cons_self ..)
        have hl' : ∀ m ∈ l, Facts m ∧ m.kind ≠ 3 := fun m hm => hl m (List.mem_cons_of_mem _ hm)
        have e2 : tellL 3 true (m :: l) ++ r = tellN m ++ (tellL 3 false l ++ r) := by
          rw [tellL, barT3t, wrapB3]
          simp [wrapT]
        rw [e2] at hf ⊢
        rw [nestL, wrapB3] at ho
        simp only [Bool.false_eq_true, if_false, Nat.add_zero] at ho
        have hmx := Nat.le_max_left (nestN m) (nestL 3 l)
        have hmy := Nat.le_max_right (nestN m) (nestL 3 l)
        have hend : endB (tellL 3 false l ++ r) = true := by
          rw [endB_iff]
          cases l with
          | nil => simp at hlen
          | cons m l => exact .inr (.inl rfl)
        rw [altP, g1.cat f o _ g2 (by omega) (by omega) hend]
        show barP f o [m] (tellL 3 false l ++ r) = _
        rw [bar_loop l hl' [m] f o r (by omega) (by rw [List.length_append] at hf; omega) he]
        have hne : ¬ ([m] ++ l).length = 1 := by
          rw [List.length_append]
          rw [List.length_cons] at hlen
          show ¬ 1 + l.length = 1
          omega
        rw [if_neg hne]
        have hj : joinN 3 ([m] ++ l) = .mk 3 none4 (m :: l) 0 0 := by
          unfold joinN
          rw [flatN_none (l := [m] ++ l) fun x hx => (hl x hx).2]
          exact oneOf_many hne
        rw [hj]
  · -- a part that comes so often
    obtain rfl := h2 (by omega)
    match l, hlen with
    | [m], _ =>
      have hm := ihF m (List.mem_cons_self ..)
      obtain ⟨hr', _⟩ := h1 m (List.mem_cons_self ..)
      have e : tellN (.mk 4 none4 [m] x y) = wrapT (wrapB 4 m) (tellN m) ++ oftenT x y := by
        rw [tellN, if_neg (by omega), if_pos rfl, tellL, tellL]
        unfold barT
        rw [if_neg (by simp)]
        simp
      have en : nestN (.mk 4 none4 [m] x y) = nestN m + if wrapB 4 m = true then 1 else 0 := by
        rw [nestN, if_neg (by omega), nestL, nestL]
        simp
      have hw : wrapB 4 m = decide (m.kind ≠ 1) := by unfold wrapB; simp
      have hat : ∀ f o r, o + (nestN m + if wrapB 4 m = true then 1 else 0) ≤ 16 → 4 * (wrapT (wrapB 4 m) (tellN m) ++ r).length + 1 ≤ f → atomP f o (wrapT (wrapB 4 m) (tellN m) ++ r) = some (m, r) := fun f o r ho hf => by
        by_cases hk : m.kind = 1
        · have e0 : wrapB 4 m = false := by rw [hw]; simp [hk]
          rw [e0] at hf ⊢
          have hin' := hin.2 m (List.mem_cons_self ..)
          cases m with
          | mk k' s' l' x' y' =>
            obtain rfl : k' = 1 := hk
            obtain ⟨_, _, g3, g4⟩ := rightN_iff.1 hr'
            obtain ⟨rfl, rfl⟩ := g3 (by omega)
            obtain rfl : l' = [] := by
              rcases g4 with g4 | g4 | g4 | g4
              · exact g4.2
              all_goals exact absurd g4.1 (by omega)
            obtain ⟨f, rfl⟩ : ∃ j, f = j + 1 := ⟨f - 1, by omega⟩
            have e1 : tellN (.mk 1 s' [] 0 0) = setT s' := by rw [tellN, if_pos rfl]
            rw [e1]
            rw [InN] at hin'
            exact set_back hin'.1 f o r
        · have e0 : wrapB 4 m = true := by rw [hw]; simp [hk]
          rw [e0] at ho hf ⊢
          rw [if_pos rfl] at ho
          exact group_atom hm (by omega) hf
      refine facts_of (fun _ => ?_) (fun f o r _ ho hf hq => ?_) (.inr rfl)
      · rw [e]
        refine HeadNot.app ?_ _
        by_cases hk : m.kind = 1
        · have e0 : wrapB 4 m = false := by rw [hw]; simp [hk]
          rw [e0]
          exact hm.head (.inl hk)
        · have e0 : wrapB 4 m = true := by rw [hw]; simp [hk]
          rw [e0]
          exact ⟨40, _, rfl, by simp [badP]⟩
      · rw [e] at hf ⊢
        rw [en] at ho
        rw [List.append_assoc] at hf ⊢
        obtain ⟨f, rfl⟩ : ∃ j, f = j + 1 := ⟨f - 1, by omega⟩
        rw [piece_of (n1 := .mk 4 none4 [m] x y) (hat f o _ ho (by omega)), often_back ht]
        rfl
/-- a tree's own text is read as the tree -/
theorem text_back {n : Nd} (hin : InN n) {t : List Nat} (h : textN n = some t) : parseN t = some n := by
  unfold textN at h
  split at h
  · rename_i hc
    cases h
    obtain ⟨h1, h2, h3⟩ := hc
    have := (facts n h1 hin).alt (4 * (tellN n).length + 4) 0 [] (by omega) (by rw [List.append_nil]; exact Nat.le_refl _) (.inl rfl)
    rw [List.append_nil] at this
    unfold parseN
    rw [if_neg (by omega), this]
  · cases h
end Rg
end Go.Proofs.YtpknglbpbodnbaaDoor
