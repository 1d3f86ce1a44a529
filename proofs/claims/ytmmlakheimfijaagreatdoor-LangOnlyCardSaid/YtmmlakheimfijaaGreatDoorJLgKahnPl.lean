/-
  Taking out states that nothing leads to: plain words. Conditions: the automaton is right; all its states are reached.
-/
import Derived.Test.YtmmlakheimfijaaGreatDoorJLgFinPl
namespace Go.Proofs.YtmmlakheimfijaaGreatDoor
set_option linter.unusedVariables false
set_option linter.unusedSimpArgs false

def rowKa (d : Aut) (n : Nat) : List Nat := (List.range d.wide).map (d.nx n)
def degK (d : Aut) (U : Nat → Bool) (R : List Nat) (m : Nat) : List Nat → Nat
  | [] => 0
  | n :: l => (if U n = true ∧ n ∉ R then (rowKa d n).count m else 0) + degK d U R m l
theorem degK_out {d : Aut} {U : Nat → Bool} {R : List Nat} {m n : Nat} : ∀ {l : List Nat}, n ∉ l → degK d U (n :: R) m l = degK d U R m l
  | [], _ => rfl
  | a :: l, h => by
    have h1 : n ≠ a := fun e => h (by simp [e])
    have h2 : n ∉ l := fun e => h (by simp [e])
    have e : (a ∉ n :: R) ↔ a ∉ R := by simp [Ne.symm h1]
    rw [degK, degK, degK_out h2]
    simp only [e]
theorem degK_take {d : Aut} {U : Nat → Bool} {R : List Nat} {m n : Nat} (hU : U n = true) (hR : n ∉ R) : ∀ {l : List Nat}, l.Nodup → n ∈ l → degK d U R m l = degK d U (n :: R) m l + (rowKa d n).count m
  | [], _, h => by cases h
  | a :: l, hn, h => by
    rw [List.nodup_cons] at hn
    rw [degK, degK]
    by_cases e : a = n
    · subst e
      rw [degK_out hn.1, if_pos ⟨hU, hR⟩, if_neg (fun h => h.2 (by simp))]
      omega
    · have hm : n ∈ l := by
        rcases List.mem_cons.1 h with h | h
        · exact absurd h.symm e
        · exact h
      have e2 : (a ∉ n :: R) ↔ a ∉ R := by simp [e]
      rw [degK_take hU hR hn.2 hm]
      simp only [e2]
      omega
theorem degK_pos {d : Aut} {U : Nat → Bool} {R : List Nat} {m : Nat} : ∀ {l : List Nat}, degK d U R m l ≠ 0 → ∃ n, n ∈ l ∧ U n = true ∧ n ∉ R ∧ m ∈ rowKa d n
  | [], h => by exact absurd rfl h
  | a :: l, h => by
    rw [degK] at h
    by_cases hc : U a = true ∧ a ∉ R
    · by_cases hm : m ∈ rowKa d a
      · exact ⟨a, by simp, hc.1, hc.2, hm⟩
      · rw [if_pos hc, List.count_eq_zero_of_not_mem hm] at h
        obtain ⟨n, h1, h2⟩ := degK_pos (d := d) (U := U) (R := R) (m := m) (l := l) (by omega)
        exact ⟨n, by simp [h1], h2⟩
    · rw [if_neg hc] at h
      obtain ⟨n, h1, h2⟩ := degK_pos (d := d) (U := U) (R := R) (m := m) (l := l) (by omega)
      exact ⟨n, by simp [h1], h2⟩
theorem degK_zero {d : Aut} {U : Nat → Bool} {R : List Nat} {m : Nat} : ∀ {l : List Nat}, degK d U R m l = 0 → ∀ n, n ∈ l → U n = true → n ∉ R → m ∉ rowKa d n
  | a :: l, h, n, hn, hU, hR, hm => by
    rw [degK] at h
    rcases List.mem_cons.1 hn with rfl | hn
    · rw [if_pos ⟨hU, hR⟩] at h
      have := List.count_pos_iff.2 hm
      omega
    · exact degK_zero (d := d) (U := U) (R := R) (m := m) (l := l) (by omega) n hn hU hR hm
theorem degK_le {d : Aut} {U : Nat → Bool} {R : List Nat} {m : Nat} : ∀ {l : List Nat}, degK d U R m l ≤ l.length * d.wide
  | [] => by simp [degK]
  | a :: l => by
    rw [degK, List.length_cons, Nat.succ_mul]
    have ih := degK_le (d := d) (U := U) (R := R) (m := m) (l := l)
    have h1 : (rowKa d a).count m ≤ d.wide := Nat.le_trans List.count_le_length (by simp [rowKa])
    split <;> omega

structure KI (d : Aut) (U : Nat → Bool) (into : Nat → Nat) (free R P : List Nat) : Prop where
  nodup : (free ++ R).Nodup
  use : ∀ x ∈ free ++ R, x < d.many ∧ U x = true
  cnt : ∀ m, m < d.many → into m = degK d U R m (List.range d.many) + P.count m
  zero : ∀ m ∈ free ++ R, into m = 0
  all : ∀ m, m < d.many → U m = true → into m = 0 → m ∈ free ++ R
  ord : ∀ l1 r l2, R = l1 ++ r :: l2 → ∀ p k, p < d.many → k < d.wide → U p = true → d.nx p k = r → p ∈ l2
theorem KI.len {d : Aut} {U : Nat → Bool} {into : Nat → Nat} {free R P : List Nat} (h : KI d U into free R P) : free.length + R.length ≤ d.many := by
  have := nodup_sub _ (List.range d.many) h.nodup fun x hx => List.mem_range.2 (h.use x hx).1
  simpa using this
theorem KI.start {d : Aut} {U : Nat → Bool} {into : Nat → Nat} (hi : ∀ m, m < d.many → into m = degK d U [] m (List.range d.many)) :
    KI d U into ((List.range d.many).filter fun n => U n && decide (into n = 0)) [] [] where
  nodup := by
    rw [List.append_nil]
    exact List.nodup_range.filter _
  use := fun x hx => by
    simp only [List.append_nil, List.mem_filter, List.mem_range, Bool.and_eq_true] at hx
    exact ⟨hx.1, hx.2.1⟩
  cnt := fun m hm => by rw [hi m hm]; simp
  zero := fun m hm => by
    simp only [List.append_nil, List.mem_filter, List.mem_range, Bool.and_eq_true, decide_eq_true_eq] at hm
    exact hm.2.2
  all := fun m hm hU h0 => by simp [hm, hU, h0]
  ord := fun l1 r l2 h => by simp at h
theorem KI.pop {d : Aut} {U : Nat → Bool} {into : Nat → Nat} {f R : List Nat} {n : Nat} (h : KI d U into (f ++ [n]) R []) : KI d U into f (n :: R) (rowKa d n) where
  nodup := by
    have := h.nodup
    rwa [List.append_assoc] at this
  use := fun x hx => h.use x (by rw [List.append_assoc]; exact hx)
  cnt := fun m hm => by
    have h1 := h.use n (by simp)
    have h2 : n ∉ R := fun hR => by
      have := h.nodup
      rw [List.append_assoc, List.nodup_append] at this
      have := this.2.1
      simp at this
      exact this.1 hR
    rw [h.cnt m hm, degK_take h1.2 h2 List.nodup_range (List.mem_range.2 h1.1)]
    simp
  zero := fun m hm => h.zero m (by rw [List.append_assoc]; exact hm)
  all := fun m hm hU h0 => by
    have := h.all m hm hU h0
    rwa [List.append_assoc] at this
  ord := fun l1 r l2 e p k hp hk hU hr => by
    cases l1 with
    | nil =>
      simp only [List.nil_append, List.cons.injEq] at e
      obtain ⟨rfl, rfl⟩ := e
      have h0 := h.zero n (by simp)
      rw [h.cnt n (h.use n (by simp)).1] at h0
      refine Classical.byContradiction fun hR => ?_
      exact degK_zero (d := d) (U := U) (R := R) (m := n) (l := List.range d.many) (by omega) p (List.mem_range.2 hp) hU hR (List.mem_map.2 ⟨k, List.mem_range.2 hk, hr⟩)
    | cons a l1 =>
      simp only [List.cons_append, List.cons.injEq] at e
      exact h.ord l1 r l2 e.2 p k hp hk hU hr
theorem KI.step {d : Aut} {U : Nat → Bool} {into into' : Nat → Nat} {free R P : List Nat} {m : Nat} (h : KI d U into free R (m :: P)) (hm : m < d.many)
    (hi : ∀ x, into' x = if x = m then into m - 1 else into x) : 0 < into m ∧ KI d U into' (if U m && decide (into' m = 0) then free ++ [m] else free) R P := by
  have hc : into m = degK d U R m (List.range d.many) + (P.count m + 1) := by rw [h.cnt m hm, List.count_cons_self]
  have hpos : 0 < into m := by omega
  have hnot : m ∉ free ++ R := fun hx => by have := h.zero m hx; omega
  have him : into' m = into m - 1 := by rw [hi, if_pos rfl]
  have hinto : ∀ x, x < d.many → into' x = degK d U R x (List.range d.many) + P.count x := fun x hx => by
    rw [hi]
    by_cases e : x = m
    · subst e; rw [if_pos rfl]; omega
    · rw [if_neg e, h.cnt x hx, List.count_cons_of_ne (Ne.symm e)]
  refine ⟨hpos, ?_⟩
  split
  · rename_i hz
    rw [Bool.and_eq_true, decide_eq_true_eq] at hz
    exact {
      nodup := by
        have h1 := h.nodup
        rw [List.append_assoc]
        rw [List.nodup_append] at h1 ⊢
        refine ⟨h1.1, ?_, fun a ha b hb e => ?_⟩
        · simp only [List.singleton_append, List.nodup_cons]
          exact ⟨fun hR => hnot (by simp [hR]), h1.2.1⟩
        · subst e
          rcases List.mem_cons.1 hb with rfl | hb
          · exact hnot (by simp [ha])
          · exact h1.2.2 a ha a hb rfl
      use := fun x hx => by
        simp only [List.append_assoc, List.mem_append, List.mem_singleton] at hx
        rcases hx with hx | rfl | hx
        · exact h.use x (by simp [hx])
        · exact ⟨hm, hz.1⟩
        · exact h.use x (by simp [hx])
      cnt := hinto
      zero := fun x hx => by
        simp only [List.append_assoc, List.mem_append, List.mem_singleton] at hx
        by_cases e : x = m
        · rw [e]; exact hz.2
        · rw [hi, if_neg e]
          exact h.zero x (by
            rcases hx with hx | hx | hx
            · simp [hx]
            · exact absurd hx e
            · simp [hx])
      all := fun x hx hU h0 => by
        by_cases e : x = m
        · simp [e]
        · rw [hi, if_neg e] at h0
          have := h.all x hx hU h0
          simp only [List.append_assoc, List.mem_append, List.mem_singleton] at this ⊢
          rcases this with h | h
          · exact .inl h
          · exact .inr (.inr h)
      ord := h.ord }
  · rename_i hz
    exact {
      nodup := h.nodup
      use := h.use
      cnt := hinto
      zero := fun x hx => by
        have e : x ≠ m := fun e => hnot (e ▸ hx)
        rw [hi, if_neg e]
        exact h.zero x hx
      all := fun x hx hU h0 => by
        by_cases e : x = m
        · subst e
          exact absurd (by rw [Bool.and_eq_true, decide_eq_true_eq]; exact ⟨hU, h0⟩) hz
        · rw [hi, if_neg e] at h0
          exact h.all x hx hU h0
      ord := h.ord }
section
variable {d : Aut} {blk : Nat → Nat} {U : Nat → Bool} {into : Nat → Nat} {R : List Nat}
theorem path_ord (hd : d.Ok) (hb : d.Blk blk) (hU : ∀ p, p < d.many → (U p = true ↔ Useful d p)) (h : KI d U into [] R []) (hall : ∀ m, m < d.many → U m = true → m ∈ R) :
    ∀ (n : Nat) (u v : List Nat), u.length = n → Bytes u → Bytes v → d.lang blk (u ++ v) = true → ∃ l1 l2, R = l1 ++ d.at_ blk u :: l2 ∧ n ≤ l2.length
  | 0, u, v, hn, hu, hv, hL => by
    have h1 := Aut.at_lt hd hb hu
    have h2 := hall _ h1 ((hU _ h1).2 (Useful.of_text hb hv hL))
    obtain ⟨l1, l2, e⟩ := List.append_of_mem h2
    exact ⟨l1, l2, e, Nat.zero_le _⟩
  | n + 1, u, v, hn, hu, hv, hL => by
    rcases List.eq_nil_or_concat u with rfl | ⟨x, b, rfl⟩
    · cases hn
    · rw [List.concat_eq_append] at hn hu hL ⊢
      have hbb := hu b (by simp)
      have h1 := Aut.at_lt hd hb hu
      have h2 := hall _ h1 ((hU _ h1).2 (Useful.of_text hb hv hL))
      obtain ⟨l1, l2, e⟩ := List.append_of_mem h2
      have hx := Aut.at_lt hd hb hu.of_app.1
      have hux : U (d.at_ blk x) = true := (hU _ hx).2 (Useful.of_text hb (v := b :: v) ((Bytes.one hbb).app hv) (by simpa using hL))
      have h3 := h.ord l1 _ l2 e (d.at_ blk x) (blk b) hx (hb.lt b hbb) hux (Aut.at_app x b).symm
      obtain ⟨a1, a2, e2, h4⟩ := path_ord hd hb hU h hall n x (b :: v) (by simpa using hn) hu.of_app.1 ((Bytes.one hbb).app hv) (by simpa using hL)
      refine ⟨l1, l2, e, ?_⟩
      -- the place of a state in R is one
      have hnd : R.Nodup := by simpa using h.nodup
      obtain ⟨c1, c2, e3⟩ := List.append_of_mem h3
      have e4 : a1 ++ d.at_ blk x :: a2 = (l1 ++ d.at_ blk (x ++ [b]) :: c1) ++ d.at_ blk x :: c2 := by
        rw [← e2, e, e3]; simp
      have h5 : a2 = c2 := by
        have hn1 : d.at_ blk x ∉ a1 := fun hm => by
          rw [e2, List.nodup_append] at hnd
          exact hnd.2.2 _ hm _ (by simp) rfl
        have hn2 : d.at_ blk x ∉ l1 ++ d.at_ blk (x ++ [b]) :: c1 := fun hm => by
          rw [e2, e4, List.nodup_append] at hnd
          exact hnd.2.2 _ hm _ (by simp) rfl
        have key : ∀ (p q : List Nat) (y : Nat) (s t : List Nat), y ∉ p → y ∉ q → p ++ y :: s = q ++ y :: t → s = t := by
          intro p
          induction p with
          | nil =>
            intro q y s t _ hq e
            cases q with
            | nil => simpa using e
            | cons a q => simp at e; exact absurd (by simp [e.1]) hq
          | cons a p ih =>
            intro q y s t hp hq e
            cases q with
            | nil => simp at e; exact absurd (by simp [e.1]) hp
            | cons c q =>
              simp at e
              exact ih q y s t (fun h => hp (by simp [h])) (fun h => hq (by simp [h])) e.2
        exact key _ _ _ _ _ hn1 hn2 e4
      rw [e3, List.length_append, List.length_cons, ← h5]
      omega
theorem kahn_fin (hd : d.Ok) (hb : d.Blk blk) (hU : ∀ p, p < d.many → (U p = true ↔ Useful d p)) (h : KI d U into [] R []) (hall : ∀ m, m < d.many → U m = true → m ∈ R) : FinL (d.lang blk) := by
  refine ⟨d.many, fun u hu hL => ?_⟩
  obtain ⟨l1, l2, e, hl⟩ := path_ord hd hb hU h hall _ u [] rfl hu .nil (by simpa using hL)
  have := h.len
  rw [e] at this
  simp at this
  omega
theorem kahn_inf (hd : d.Ok) (hb : d.Blk blk) (hU : ∀ p, p < d.many → (U p = true ↔ Useful d p)) (hreach : ∀ p, p < d.many → ∃ u, Bytes u ∧ d.at_ blk u = p) (h : KI d U into [] R []) {m : Nat} (hm : m < d.many) (hUm : U m = true) (hmR : m ∉ R) : ¬ FinL (d.lang blk) := by
  have back : ∀ (n : Nat), ∃ p ws, p < d.many ∧ U p = true ∧ p ∉ R ∧ d.Word ws ∧ ws.length = n ∧ d.run p ws = m := by
    intro n
    induction n with
    | zero => exact ⟨m, [], hm, hUm, hmR, fun k hk => absurd hk List.not_mem_nil, rfl, rfl⟩
    | succ n ih =>
      obtain ⟨p, ws, hp, hUp, hpR, hw, hl, e⟩ := ih
      have hne : into p ≠ 0 := fun h0 => hpR (by simpa using h.all p hp hUp h0)
      rw [h.cnt p hp] at hne
      obtain ⟨q, hq, hUq, hqR, hr⟩ := degK_pos (l := List.range d.many) (by simpa using hne)
      obtain ⟨k, hk, rfl⟩ := List.mem_map.1 hr
      exact ⟨q, k :: ws, List.mem_range.1 hq, hUq, hqR, fun j hj => by
        rcases List.mem_cons.1 hj with rfl | hj
        · exact List.mem_range.1 hk
        · exact hw j hj, by simp [hl], e⟩
  rintro ⟨n, hn⟩
  obtain ⟨p, ws, hp, hUp, hpR, hw, hl, e⟩ := back n
  obtain ⟨u, hu, hup⟩ := hreach p hp
  obtain ⟨v, hv, rfl⟩ := Aut.word_to hb hw
  have h1 : d.at_ blk (u ++ v) = m := by rw [at_cat, hup]; exact e
  obtain ⟨t, ht, hL⟩ := Useful.text hb (hu.app hv) (by rw [h1]; exact (hU m hm).1 hUm)
  have := hn _ ((hu.app hv).app ht) hL
  simp at hl this
  omega
/-- none left, just if texts are bounded -/
theorem kahn_iff (hd : d.Ok) (hb : d.Blk blk) (hU : ∀ p, p < d.many → (U p = true ↔ Useful d p)) (hreach : ∀ p, p < d.many → ∃ u, Bytes u ∧ d.at_ blk u = p) (h : KI d U into [] R []) :
    ((List.range d.many).filter U).length = R.length ↔ FinL (d.lang blk) := by
  have hnd : R.Nodup := by simpa using h.nodup
  have hsub : ∀ x ∈ R, x ∈ (List.range d.many).filter U := fun x hx => by
    have := h.use x (by simpa using hx)
    simp [this]
  constructor
  · intro e
    refine kahn_fin hd hb hU h fun m hm hUm => Classical.byContradiction fun hmR => ?_
    have h1 := nodup_sub (m :: R) ((List.range d.many).filter U) (List.nodup_cons.2 ⟨hmR, hnd⟩) fun x hx => by
      rcases List.mem_cons.1 hx with rfl | hx
      · simp [hm, hUm]
      · exact hsub x hx
    simp only [List.length_cons] at h1
    omega
  · intro hf
    have h1 := nodup_sub R _ hnd hsub
    have h2 : ((List.range d.many).filter U).length ≤ R.length := nodup_sub _ R (List.nodup_range.filter _) fun x hx => by
      simp only [List.mem_filter, List.mem_range] at hx
      exact Classical.byContradiction fun hxR => kahn_inf hd hb hU hreach h hx.1 hx.2 hxR hf
    omega
end
end Go.Proofs.YtmmlakheimfijaaGreatDoor
