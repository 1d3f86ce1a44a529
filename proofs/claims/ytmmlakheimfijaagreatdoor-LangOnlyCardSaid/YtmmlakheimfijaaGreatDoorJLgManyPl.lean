/-
  How many texts of n bytes lead to a state: plain words. Conditions: the automaton is right.
-/
import Derived.Test.YtmmlakheimfijaaGreatDoorJLgOnlyPl
import Derived.Test.YtmmlakheimfijaaGreatDoorJSat
namespace Go.Proofs.YtmmlakheimfijaaGreatDoor
set_option linter.unusedVariables false
set_option linter.unusedSimpArgs false

theorem clip_nn {a : Int} (h : 0 ≤ a) : clip a = if a > 9223372036854775807 then 9223372036854775807 else a := by
  unfold clip
  split
  · rfl
  · rw [if_neg (by omega)]
theorem clip_pos {a : Int} (h : 0 ≤ a) : 0 ≤ clip a ∧ clip a ≤ a ∧ clip a ≤ 9223372036854775807 := by
  rw [clip_nn h]; split <;> omega
theorem clip_add {a b : Int} (ha : 0 ≤ a) (hb : 0 ≤ b) : clip (clip a + clip b) = clip (a + b) := by
  have h1 := clip_pos ha
  have h2 := clip_pos hb
  rw [clip_nn (show 0 ≤ clip a + clip b by omega), clip_nn (show 0 ≤ a + b by omega)]
  rw [clip_nn ha, clip_nn hb] at *
  split at h1 <;> split at h2 <;> (repeat' split) <;> omega
theorem clip_mul {a b : Int} (ha : 0 ≤ a) (hb : 0 ≤ b) : clip (clip a * b) = clip (a * b) := by
  have h1 := clip_pos ha
  by_cases h : a > 9223372036854775807
  · have e : clip a = 9223372036854775807 := by rw [clip_nn ha, if_pos h]
    by_cases h0 : b = 0
    · subst h0; simp
    · have g1 : 9223372036854775807 * 1 ≤ 9223372036854775807 * b := Int.mul_le_mul_of_nonneg_left (by omega) (by omega)
      have g2 : 9223372036854775807 * b ≤ a * b := Int.mul_le_mul_of_nonneg_right (by omega) hb
      rw [e, clip_nn (by omega), clip_nn (by omega)]
      repeat' split
      all_goals omega
  · have e : clip a = a := by rw [clip_nn ha, if_neg h]
    rw [e]

def sumF (f : Nat → Nat) : Nat → Nat
  | 0 => 0
  | n + 1 => sumF f n + f n
theorem sumF_congr {f g : Nat → Nat} : ∀ {n}, (∀ i, i < n → f i = g i) → sumF f n = sumF g n
  | 0, _ => rfl
  | n + 1, h => by rw [sumF, sumF, sumF_congr fun i hi => h i (by omega), h n (by omega)]
theorem sumF_add (f g : Nat → Nat) : ∀ n, sumF (fun i => f i + g i) n = sumF f n + sumF g n
  | 0 => rfl
  | n + 1 => by rw [sumF, sumF, sumF, sumF_add f g n]; omega
theorem sumF_zero : ∀ n, sumF (fun _ => 0) n = 0
  | 0 => rfl
  | n + 1 => by rw [sumF, sumF_zero n]
theorem sumF_mul (f : Nat → Nat) (c : Nat) : ∀ n, sumF (fun i => f i * c) n = sumF f n * c
  | 0 => by simp [sumF]
  | n + 1 => by rw [sumF, sumF, sumF_mul f c n, Nat.add_mul]
theorem sumF_swap (f : Nat → Nat → Nat) (m : Nat) : ∀ n, sumF (fun i => sumF (f i) m) n = sumF (fun j => sumF (fun i => f i j) n) m
  | 0 => by simp only [sumF]; rw [sumF_zero]
  | n + 1 => by
    simp only [sumF]
    rw [sumF_swap f m n, sumF_add]
theorem sumF_one (f : Nat → Nat) {k : Nat} : ∀ {n}, k < n → sumF (fun i => if i = k then f i else 0) n = f k
  | 0, h => by omega
  | n + 1, h => by
    rw [sumF]
    by_cases e : n = k
    · subst e
      rw [if_pos rfl, sumF_congr (g := fun _ => 0) fun i hi => if_neg (by omega), sumF_zero]
      omega
    · rw [if_neg e, sumF_one f (by omega)]
      omega
theorem sumF_mono (f : Nat → Nat) {a b : Nat} (h : a ≤ b) : sumF f a ≤ sumF f b := by
  induction b with
  | zero => obtain rfl : a = 0 := by omega
            exact Nat.le_refl _
  | succ b ih =>
    by_cases e : a = b + 1
    · subst e; exact Nat.le_refl _
    · have := ih (by omega)
      rw [sumF]; omega

section
variable {d : Aut} {blk : Nat → Nat}
/-- how many bytes (below n) are of a block -/
def wideN (blk : Nat → Nat) (n k : Nat) : Nat := sumF (fun b => if blk b = k then 1 else 0) n
theorem wideN_le (blk : Nat → Nat) (k : Nat) : ∀ n, wideN blk n k ≤ n
  | 0 => Nat.le_refl _
  | n + 1 => by
    have := wideN_le blk k n
    unfold wideN at *
    rw [sumF]
    split <;> omega
/-- what a state gives to m by one byte, byte by byte -/
def giveB (d : Aut) (blk : Nat → Nat) (c : Nat → Nat) (m s b : Nat) : Nat := if d.nx s (blk b) = m then c s else 0
/-- .. block by block -/
def giveK (d : Aut) (blk : Nat → Nat) (c : Nat → Nat) (m s k : Nat) : Nat := if d.nx s k = m then c s * wideN blk 256 k else 0
theorem give_same (hb : d.Blk blk) (c : Nat → Nat) (m s : Nat) : sumF (giveB d blk c m s) 256 = sumF (giveK d blk c m s) d.wide := by
  have h1 : sumF (giveB d blk c m s) 256 = sumF (fun b => sumF (fun k => if k = blk b then (if d.nx s k = m then c s else 0) else 0) d.wide) 256 :=
    sumF_congr fun b hbb => (sumF_one (fun k => if d.nx s k = m then c s else 0) (hb.lt b hbb)).symm
  rw [h1, sumF_swap]
  refine sumF_congr fun k hk => ?_
  unfold giveK wideN
  have h2 : sumF (fun b => if k = blk b then (if d.nx s k = m then c s else 0) else 0) 256 = sumF (fun b => (if blk b = k then 1 else 0) * (if d.nx s k = m then c s else 0)) 256 :=
    sumF_congr fun b _ => by
      by_cases e : k = blk b
      · rw [if_pos e, if_pos e.symm, Nat.one_mul]
      · rw [if_neg e, if_neg (Ne.symm e), Nat.zero_mul]
  rw [h2, sumF_mul]
  split
  · rw [Nat.mul_comm]
  · simp
def cntF (d : Aut) (blk : Nat → Nat) : Nat → Nat → Nat
  | 0 => fun s => if s = d.start then 1 else 0
  | n + 1 => fun m => sumF (fun s => sumF (giveB d blk (cntF d blk n) m s) 256) d.many
theorem cntF_blocks (hb : d.Blk blk) (n m : Nat) : cntF d blk (n + 1) m = sumF (fun s => sumF (giveK d blk (cntF d blk n) m s) d.wide) d.many :=
  sumF_congr fun s _ => give_same hb _ _ _
def totF (d : Aut) (c : Nat → Nat) (s : Nat) : Nat := sumF (fun s => if d.fin s = true then c s else 0) s
def manyF (d : Aut) (blk : Nat → Nat) (n : Nat) : Nat := totF d (cntF d blk n) d.many

/-! texts -/
def textsN : Nat → List (List Nat)
  | 0 => [[]]
  | n + 1 => (textsN n).flatMap fun u => (List.range 256).map fun b => u ++ [b]
theorem textsN_in : ∀ n, ∀ u ∈ textsN n, Bytes u ∧ u.length = n
  | 0, u, h => by
    obtain rfl := List.mem_singleton.1 h
    exact ⟨.nil, rfl⟩
  | n + 1, u, h => by
    obtain ⟨v, hv, h2⟩ := List.mem_flatMap.1 h
    obtain ⟨b, hb, rfl⟩ := List.mem_map.1 h2
    obtain ⟨h3, h4⟩ := textsN_in n v hv
    exact ⟨h3.app (.one (List.mem_range.1 hb)), by simp [h4]⟩
theorem textsN_all : ∀ (n : Nat) (u : List Nat), Bytes u → u.length = n → u ∈ textsN n
  | 0, u, _, h => by
    obtain rfl := List.eq_nil_of_length_eq_zero h
    simp [textsN]
  | n + 1, u, hu, h => by
    rcases List.eq_nil_or_concat u with rfl | ⟨v, b, rfl⟩
    · cases h
    · rw [List.concat_eq_append] at hu h ⊢
      exact List.mem_flatMap.2 ⟨v, textsN_all n v hu.of_app.1 (by simpa using h), List.mem_map.2 ⟨b, List.mem_range.2 (hu b (by simp)), rfl⟩⟩
theorem count_range (p : Nat → Bool) : ∀ n, (List.range n).countP p = sumF (fun b => if p b = true then 1 else 0) n
  | 0 => rfl
  | n + 1 => by
    rw [List.range_succ, List.countP_append, count_range p n, sumF]
    simp [List.countP_cons]
theorem group_sum {α : Type} (h : α → Nat) (g : Nat → Nat) (N : Nat) : ∀ (l : List α), (∀ x ∈ l, h x < N) → (l.map fun x => g (h x)).sum = sumF (fun s => l.countP (fun x => decide (h x = s)) * g s) N
  | [], _ => by simp [sumF_zero]
  | x :: l, hl => by
    have ih := group_sum h g N l fun y hy => hl y (by simp [hy])
    have hx := hl x (by simp)
    rw [List.map_cons, List.sum_cons, ih]
    have h1 : sumF (fun s => (x :: l).countP (fun x => decide (h x = s)) * g s) N = sumF (fun s => (if s = h x then g s else 0) + l.countP (fun x => decide (h x = s)) * g s) N :=
      sumF_congr fun s _ => by
        rw [List.countP_cons]
        by_cases e : s = h x
        · subst e; simp [Nat.add_mul, Nat.add_comm]
        · rw [if_neg e]; simp [Ne.symm e]
    rw [h1, sumF_add, sumF_one g hx]
theorem cnt_texts (hd : d.Ok) (hb : d.Blk blk) : ∀ n s, cntF d blk n s = (textsN n).countP fun u => decide (d.at_ blk u = s)
  | 0, s => by
    simp only [cntF, textsN, List.countP_cons, List.countP_nil]
    by_cases e : s = d.start
    · subst e; simp [Aut.at_, Aut.run]
    · rw [if_neg e]
      simp [Aut.at_, Aut.run, Ne.symm e]
  | n + 1, m => by
    have ih := cnt_texts hd hb n
    rw [textsN, List.countP_flatMap]
    have h1 : ∀ u : List Nat, ((List.countP fun u => decide (d.at_ blk u = m)) ∘ fun u => (List.range 256).map fun b => u ++ [b]) u = sumF (fun b => if d.nx (d.at_ blk u) (blk b) = m then 1 else 0) 256 := fun u => by
      simp only [Function.comp, List.countP_map]
      rw [count_range]
      refine sumF_congr fun b _ => ?_
      simp only [Function.comp, Aut.at_app, decide_eq_true_eq]
    rw [List.map_congr_left fun u _ => h1 u]
    rw [group_sum (d.at_ blk) (fun s => sumF (fun b => if d.nx s (blk b) = m then 1 else 0) 256) d.many (textsN n) fun u hu => Aut.at_lt hd hb (textsN_in n u hu).1]
    show sumF (fun s => sumF (giveB d blk (cntF d blk n) m s) 256) d.many = _
    refine sumF_congr fun s _ => ?_
    rw [← ih s, Nat.mul_comm, ← sumF_mul]
    refine sumF_congr fun b _ => ?_
    unfold giveB
    split <;> simp
theorem many_texts (hd : d.Ok) (hb : d.Blk blk) (n : Nat) : manyF d blk n = (textsN n).countP (d.lang blk) := by
  have h1 : ((textsN n).map fun u => (fun s => if d.fin s = true then 1 else 0) (d.at_ blk u)).sum = (textsN n).countP (d.lang blk) := by
    generalize textsN n = l
    induction l with
    | nil => rfl
    | cons u l ih =>
      rw [List.map_cons, List.sum_cons, ih, List.countP_cons]
      show (if d.fin (d.at_ blk u) = true then 1 else 0) + _ = List.countP (d.lang blk) l + (if d.fin (d.at_ blk u) = true then 1 else 0)
      omega
  rw [← h1, group_sum (d.at_ blk) (fun s => if d.fin s = true then 1 else 0) d.many (textsN n) fun u hu => Aut.at_lt hd hb (textsN_in n u hu).1]
  unfold manyF totF
  refine sumF_congr fun s _ => ?_
  rw [← cnt_texts hd hb n s]
  split <;> simp
theorem textsN_nodup : ∀ n, (textsN n).Nodup
  | 0 => by simp [textsN]
  | n + 1 => by
    rw [textsN, List.nodup_iff_pairwise_ne, List.pairwise_flatMap]
    refine ⟨fun u _ => ?_, (List.nodup_iff_pairwise_ne.1 (textsN_nodup n)).imp fun {u v} huv x hx y hy e => ?_⟩
    · rw [List.pairwise_map]
      exact List.pairwise_lt_range.imp fun {a b} hab e => by
        have := List.append_cancel_left e
        simp at this
        omega
    · obtain ⟨b, _, rfl⟩ := List.mem_map.1 hx
      obtain ⟨c, _, rfl⟩ := List.mem_map.1 hy
      exact huv (List.append_inj' e rfl).1
theorem many_only (hd : d.Ok) (hb : d.Blk blk) {t : List Nat} (h : IsOnly (d.lang blk) t) : manyF d blk t.length = 1 := by
  rw [many_texts hd hb]
  have h1 : (textsN t.length).countP (d.lang blk) = (textsN t.length).count t := by
    unfold List.count
    refine List.countP_congr fun u hu => ?_
    rw [h.2 u (textsN_in _ u hu).1]
    simp
  rw [h1]
  have h2 := List.nodup_iff_count.1 (textsN_nodup t.length) t
  have h3 := List.count_pos_iff.2 (textsN_all _ t h.1 rfl)
  omega
end
end Go.Proofs.YtmmlakheimfijaaGreatDoor
