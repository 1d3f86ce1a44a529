/-
  The walks of labels.Parse and the reference's Parse: both tell parseR. Conditions: the text's size; the tables of unicode/utf8 (the program's).
-/
import Derived.Test.YtgdfklgbdfpinaaDoorLbTake
namespace Go.Proofs.YtgdfklgbdfpinaaDoor
set_option linter.unusedVariables false
set_option linter.unusedSimpArgs false
open Go.RowKit Go.Maps Go.Sort Go.ChangeShapes Go.WideShapes

theorem takeF_ok (s : ByteArray) : ∀ (f i : Nat) (out : List Lab), ((takeF s f i out).2.2.1 = 0 → (takeF s f i out).2.2.2 = 0 ∧ (takeF s f i out).2.1 ≤ s.size) ∧ ((takeF s f i out).2.2.1 ≠ 0 → (takeF s f i out).1 = []) ∧ (out.length ≤ 32 → (takeF s f i out).1.length ≤ 32)
  | 0, i, out => ⟨nofun, fun _ => rfl, fun _ => by simp [takeF]⟩
  | f + 1, i, out => by
    by_cases h1 : s.size ≤ i
    · rw [takeF, if_pos h1]; exact ⟨nofun, fun _ => rfl, fun _ => by simp⟩
    by_cases h2 : out.length = 32
    · rw [takeF, if_neg h1, if_pos h2]; exact ⟨nofun, fun _ => rfl, fun _ => by simp⟩
    rw [takeF_label s f i out h1 h2]
    by_cases h3 : (labelR s i).2.2.1 ≠ 0
    · rw [if_pos h3]; exact ⟨fun h => absurd h h3, fun _ => rfl, fun _ => by simp⟩
    have hin := labelR_in s i (by simpa using h3)
    rw [if_neg h3]
    by_cases h4 : isB s (labelR s i).2.1 125 = true
    · rw [if_pos h4]
      rw [isB] at h4
      have := of_decide_eq_true (Bool.and_eq_true_iff.1 h4).1
      exact ⟨fun _ => ⟨rfl, this⟩, fun h => absurd rfl h, fun h => by simp; omega⟩
    rw [if_neg h4]
    by_cases h5 : isB s (labelR s i).2.1 44 = false
    · rw [if_pos h5]; exact ⟨fun h => absurd h (atN_ne s _), fun _ => rfl, fun _ => by simp⟩
    rw [if_neg h5]
    by_cases h6 : isB s ((labelR s i).2.1 + 1) 32 = false
    · rw [if_pos h6]; exact ⟨fun h => absurd h (atN_ne s _), fun _ => rfl, fun _ => by simp⟩
    rw [if_neg h6]
    have ih := takeF_ok s f ((labelR s i).2.1 + 2) (out ++ [(labelR s i).1])
    exact ⟨ih.1, ih.2.1, fun h => ih.2.2 (by simp; omega)⟩
theorem takeR_ok (s : ByteArray) (q : Int) : ((takeR s q).2.2.1 = 0 → (takeR s q).2.2.2 = 0 ∧ (takeR s q).2.1 ≤ s.size) ∧ ((takeR s q).2.2.1 ≠ 0 → (takeR s q).1 = []) ∧ (takeR s q).1.length ≤ 32 := by
  rw [takeR]
  by_cases h1 : q < 0 ∨ (s.size : Int) < q
  · rw [if_pos h1]; exact ⟨nofun, fun _ => rfl, by simp⟩
  rw [if_neg h1]
  by_cases h2 : isB s q.toNat 123 = false
  · rw [if_pos h2]; exact ⟨fun h => absurd h (atN_ne s _), fun _ => rfl, by simp⟩
  rw [if_neg h2]
  by_cases h3 : isB s (q.toNat + 1) 125 = true
  · rw [if_pos h3]
    rw [isB] at h3
    have := of_decide_eq_true (Bool.and_eq_true_iff.1 h3).1
    exact ⟨fun _ => ⟨rfl, this⟩, fun h => absurd rfl h, by simp⟩
  rw [if_neg h3]
  have := takeF_ok s s.size (q.toNat + 1) []
  exact ⟨this.1, this.2.1, this.2.2 (by simp)⟩

theorem IsLab.setCell {w : World} {B : Nat} {A : Option Addr} {l : List Lab} (h : IsLab w B A l) {g i : Nat} (v : Value) (hg : ∀ x, A = some x → g < x.block) : IsLab (w.setCell ⟨g, i, none⟩ v) B A l :=
  h.imp id fun ⟨b, off, e, hbB, hc⟩ => ⟨b, off, e, hbB, fun j x hj => by
    have hne : b ≠ g := by have := hg _ e; simp at this; omega
    have k : ∀ o, (w.setCell ⟨g, i, none⟩ v).cell? ⟨b, o, none⟩ = w.cell? ⟨b, o, none⟩ := fun o => World.cell?_of_block (w := w) (Below.heap_setCell w ⟨g, i, none⟩ v b hne)
    rw [k, k]
    exact hc j x hj⟩

theorem cell_alloc {w : World} {g i : Nat} {v : Value} (o : Obj) (h : w.cell? ⟨g, i, none⟩ = some v) : (w.alloc o).cell? ⟨g, i, none⟩ = some v :=
  (Below.cell ((Below.refl w.heap.size w).alloc (Nat.le_refl _) o) (World.block_lt_of_cell? w _ h)).trans h

/-- what Parse tells -/
def ParseTells (s : ByteArray) (e : Ending) (w w' : World) : Prop :=
  ∃ A c, e = .returned (.tuple #[.slice A (parseR s).1.length c, fltV ((parseR s).2.1, (parseR s).2.2)]) ∧ IsLab w' w'.heap.size A (parseR s).1 ∧ Below w.heap.size w w'
theorem parseTells_bad {s : ByteArray} {w w' : World} {e a : Nat} (hr : parseR s = ([], e, a)) (hb : Below w.heap.size w w') : ParseTells s (.returned (.tuple #[.slice none 0 0, .agg #[.int .i64 e, .int .i64 a]])) w w' := by
  unfold ParseTells
  rw [hr]
  exact ⟨none, 0, rfl, .inl rfl, hb⟩
/-- the fault is filled, the labels are told -/
theorem parse_good {s : ByteArray} {w wr : World} {A : Option Addr} {c : Nat} {out : List Lab} (x y a b : Value) (hr : parseR s = (out, 0, 0)) (hl : IsLab wr wr.heap.size A out) (hA : ∀ x, A = some x → w.heap.size < x.block)
    (hB : Blk wr w.heap.size 33 #[a, b]) (hbw : Below w.heap.size w wr) (hx : x = .int .i64 0) (hy : y = .int .i64 0) :
    ∃ w2, (wr.setCell ⟨w.heap.size, 0, none⟩ x).setCell ⟨w.heap.size, 1, none⟩ y = w2 ∧ w2.cell? ⟨w.heap.size, 0, none⟩ = some (.int .i64 0) ∧ w2.cell? ⟨w.heap.size, 1, none⟩ = some (.int .i64 0) ∧ w2.heap.size = wr.heap.size ∧
      ∀ w3, Below w2.heap.size w2 w3 → ParseTells s (.returned (.tuple #[.slice A out.length c, .agg #[.int .i64 0, .int .i64 0]])) w w3 := by
  subst hx hy
  obtain ⟨w2, e2, r0, r1, b2⟩ := fault_set (.int .i64 0) (.int .i64 0) hB hbw (Nat.le_refl _)
  have hz : w2.heap.size = wr.heap.size := by rw [← e2]; simp
  refine ⟨w2, e2, r0, r1, hz, fun w3 h3 => ?_⟩
  have h2 := (hl.setCell (g := w.heap.size) (i := 0) (.int .i64 0) hA).setCell (g := w.heap.size) (i := 1) (.int .i64 0) hA
  rw [e2, ← hz] at h2
  unfold ParseTells
  rw [hr]
  exact ⟨A, c, rfl, h2.below h3 h3.size, b2.trans (h3.mono b2.size)⟩

set_option maxRecDepth 100000 in
set_option maxHeartbeats 4000000 in
theorem parse_any (s : ByteArray) (w : World) (hs : s.size ≤ 1000000) (hT : Lib.Utf8Tabs 0 1 w) :
    Calls Tryd.prog 16 #[.string s] w fun e w' => ParseTells s e w w' := by
  have hmax : s.size ≤ maxLen := by unfold maxLen; omega
  have HT := Lib.hid hT
  clear hT
  have hB := Blk.new w 33 #[.int .i64 0, .int .i64 0]
  have hbw := (Below.refl w.heap.size w).alloc (Nat.le_refl _) (.cells #[.int .i64 0, .int .i64 0] 33)
  have htk := take_any s 0 _ hs (Utf8Tabs_below HT.out hbw)
  have hz1 : (w.alloc (.cells #[.int .i64 0, .int .i64 0] 33)).heap.size = w.heap.size + 1 := by simp
  have HQ := Lib.hid (And.intro hB (And.intro hbw (And.intro htk hz1)))
  clear hB hbw htk hz1
  go_enter Tryd.func16, Tryd.ntmps16
  go_wp2_with fail
  generalize w.alloc (.cells #[.int .i64 0, .int .i64 0] 33) = w1 at *
  refine HQ.out.2.2.1.mono ?_
  rintro r w5 ⟨A, c, rfl, hl, hA, b5⟩
  rw [HQ.out.2.2.2] at hA
  have hok := takeR_ok s 0
  have hpr : parseR s = if (takeR s 0).2.2.1 = 0 ∧ (takeR s 0).2.1 < s.size then ([], 2, (takeR s 0).2.1) else ((takeR s 0).1, (takeR s 0).2.2) := rfl
  obtain ⟨⟨l, end_, e, a⟩, hr⟩ : ∃ r, takeR s 0 = r := ⟨_, rfl⟩
  rw [hr] at hl hok hpr
  simp only [hr, fltV]
  simp only at hl hok hpr
  have hB5 := (HQ.out.1.below b5 HQ.out.1.lt).alloc (.cells #[.int .i64 e, .int .i64 a] 33)
  have B5 := (HQ.out.2.1.trans (b5.mono HQ.out.2.1.size)).alloc (by have := b5.size; have := HQ.out.2.1.size; omega) (.cells #[.int .i64 e, .int .i64 a] 33)
  have q5 := Blk.new w5 33 #[.int .i64 e, .int .i64 a]
  have hl5 := hl.below ((Below.refl w5.heap.size w5).alloc (Nat.le_refl _) (.cells #[.int .i64 e, .int .i64 a] 33)) (B' := (w5.alloc (.cells #[.int .i64 e, .int .i64 a] 33)).heap.size) (by simp)
  have hz5 : w.heap.size < w5.heap.size := by have := b5.size; have := HQ.out.2.2.2; omega
  have HA := Lib.hid hA
  have HQ5 := Lib.hid (And.intro hB5 (And.intro B5 hl5))
  have HR := Lib.hid hr
  have HB4 := Lib.hid (And.intro (HQ.out.1.below b5 HQ.out.1.lt) (And.intro (HQ.out.2.1.trans (b5.mono HQ.out.2.1.size)) hl))
  clear hB5 B5 hl5 hl hA b5 hr
  by_cases he : e = 0
  case neg =>
    have hl0 := hok.2.1 he
    have HE : Hid (parseR s = ([], e, a)) := Lib.hid (by rw [hpr, if_neg (fun h => he h.1), hl0])
    have k5 : ((e : Int) == 0) = false := by simp; omega
    have k6 : ((e : Int) != 0) = true := by simp; omega
    have HL0 := Lib.hid hl0
    clear hok hpr he hl0
    go_wp2_with fail
    generalize w5.alloc (.cells #[.int .i64 e, .int .i64 a] 33) = w6 at *
    obtain ⟨⟨y0, y1⟩, -⟩ := q5.c2
    refine wp_region_still_tail 2 (by kernel_rfl) (by kernel_rfl) ?_
    simp only [List.take_succ_cons, List.take_zero, List.drop_succ_cons, List.drop_zero]
    repeat still_step
    refine wpStill_nil ?_
    change wpList _ _ _ _ _ w6.drew
    have HQ8 := Lib.hid (And.intro HQ5.out.1.drew (And.intro HQ5.out.2.1.drew (show IsLab w6.drew w6.drew.heap.size A l from HQ5.out.2.2)))
    clear y0 y1 q5
    generalize w6.drew = w8 at *
    obtain ⟨⟨u0, u1⟩, ⟨g0, g1⟩⟩ := HQ8.out.1.c2
    go_wp2_with fail
    obtain ⟨w2, e2, r0, r1, b2⟩ := fault_set (.int .i64 e) (.int .i64 a) HQ8.out.1 HQ8.out.2.1 (Nat.le_refl _)
    rw [e2]
    clear e2 u0 u1 g0 g1
    refine bodyPost_ret (by simp [results, Tryd.results16, go_sem, r0, r1]; try rfl) rfl ?_
    exact parseTells_bad HE.out b2
  subst he
  obtain ⟨⟨rfl, hle⟩, -, hl32⟩ := And.intro (hok.1 rfl) (And.intro trivial hok.2.2)
  by_cases hlt : end_ < s.size
  · have HE : Hid (parseR s = ([], 2, end_)) := Lib.hid (by rw [hpr, if_pos ⟨rfl, hlt⟩])
    have k1 : decide (end_ < s.size) = true := decide_eq_true hlt
    have ho : ∀ w, _ := fun w => at_lit s end_ 2 end_ w (by rw [atN, if_neg (by omega)])
    clear hok hpr hlt hle
    go_wp2_with fail
    refine (ho _).mono ?_
    rintro r w7 ⟨rfl, b7⟩
    have hB7 := HQ5.out.1.below b7 HQ5.out.1.lt
    have B7 := HQ5.out.2.1.trans (b7.mono HQ5.out.2.1.size)
    obtain ⟨⟨u0, u1⟩, ⟨g0, g1⟩⟩ := hB7.c2
    have HQ7 := Lib.hid (And.intro hB7 B7)
    clear hB7 B7 b7
    go_wp2_with fail
    obtain ⟨w2, e2, r0, r1, b2⟩ := fault_set (.int .i64 2) (.int .i64 end_) HQ7.out.1 HQ7.out.2 (Nat.le_refl _)
    rw [e2]
    clear e2 u0 u1 g0 g1
    refine bodyPost_ret (by simp [results, Tryd.results16, go_sem, r0, r1]; try rfl) rfl ?_
    exact parseTells_bad HE.out b2
  · have HE : Hid (parseR s = (l, 0, 0)) := Lib.hid (by rw [hpr, if_neg (fun h => hlt h.2)])
    have k1 : decide (end_ < s.size) = false := decide_eq_false hlt
    clear hok hpr hlt hle
    obtain ⟨⟨u0, u1⟩, ⟨g0, g1⟩⟩ := HB4.out.1.c2
    go_wp2_with fail
    obtain ⟨w2, e2, r0, r1, -, hp⟩ := parse_good (c := c) (.int .i64 0) (.int .i64 0) _ _ HE.out HB4.out.2.2 (fun x hx => by have := HA.out x hx; omega) HB4.out.1 HB4.out.2.1 rfl rfl
    rw [e2]
    clear e2 u0 u1 g0 g1
    have q0 := cell_alloc (.cells #[.int .i64 (0 : Nat), .int .i64 (0 : Nat)] 33) r0
    have q1 := cell_alloc (.cells #[.int .i64 (0 : Nat), .int .i64 (0 : Nat)] 33) r1
    have hP := hp _ ((Below.refl _ _).alloc (Nat.le_refl _) (.cells #[.int .i64 (0 : Nat), .int .i64 (0 : Nat)] 33))
    generalize w2.alloc (.cells #[.int .i64 (0 : Nat), .int .i64 (0 : Nat)] 33) = w9 at *
    refine bodyPost_ret (by simp [results, Tryd.results16, go_sem, q0, q1]; try rfl) rfl ?_
    exact hP

set_option maxRecDepth 100000 in
set_option maxHeartbeats 4000000 in
theorem rparse_any (s : ByteArray) (w : World) (hs : s.size ≤ 1000000) :
    Calls Tryd.prog 17 #[.string s] w fun e w' => ParseTells s e w w' := by
  have hmax : s.size ≤ maxLen := by unfold maxLen; omega
  have hB := Blk.new w 33 #[.int .i64 0, .int .i64 0]
  have hbw := (Below.refl w.heap.size w).alloc (Nat.le_refl _) (.cells #[.int .i64 0, .int .i64 0] 33)
  have htk := rtake_any s 0 (w.alloc (.cells #[.int .i64 0, .int .i64 0] 33)) hs
  have hz1 : (w.alloc (.cells #[.int .i64 0, .int .i64 0] 33)).heap.size = w.heap.size + 1 := by simp
  have HQ := Lib.hid (And.intro hB (And.intro hbw (And.intro htk hz1)))
  clear hB hbw htk hz1
  go_enter Tryd.func17, Tryd.ntmps17
  go_wp2_with fail
  generalize w.alloc (.cells #[.int .i64 0, .int .i64 0] 33) = w1 at *
  refine HQ.out.2.2.1.mono ?_
  rintro r w5 ⟨A, c, rfl, hl, hA, b5⟩
  rw [HQ.out.2.2.2] at hA
  have hok := takeR_ok s 0
  have hpr : parseR s = if (takeR s 0).2.2.1 = 0 ∧ (takeR s 0).2.1 < s.size then ([], 2, (takeR s 0).2.1) else ((takeR s 0).1, (takeR s 0).2.2) := rfl
  obtain ⟨⟨l, end_, e, a⟩, hr⟩ : ∃ r, takeR s 0 = r := ⟨_, rfl⟩
  rw [hr] at hl hok hpr
  simp only [hr, fltV]
  simp only at hl hok hpr
  have hB5 := (HQ.out.1.below b5 HQ.out.1.lt).alloc (.cells #[.int .i64 e, .int .i64 a] 33)
  have B5 := (HQ.out.2.1.trans (b5.mono HQ.out.2.1.size)).alloc (by have := b5.size; have := HQ.out.2.1.size; omega) (.cells #[.int .i64 e, .int .i64 a] 33)
  have q5 := Blk.new w5 33 #[.int .i64 e, .int .i64 a]
  have hl5 := hl.below ((Below.refl w5.heap.size w5).alloc (Nat.le_refl _) (.cells #[.int .i64 e, .int .i64 a] 33)) (B' := (w5.alloc (.cells #[.int .i64 e, .int .i64 a] 33)).heap.size) (by simp)
  have hz5 : w.heap.size < w5.heap.size := by have := b5.size; have := HQ.out.2.2.2; omega
  have HA := Lib.hid hA
  have HQ5 := Lib.hid (And.intro hB5 (And.intro B5 hl5))
  have HR := Lib.hid hr
  have HB4 := Lib.hid (And.intro (HQ.out.1.below b5 HQ.out.1.lt) (And.intro (HQ.out.2.1.trans (b5.mono HQ.out.2.1.size)) hl))
  clear hB5 B5 hl5 hl hA b5 hr
  by_cases he : e = 0
  case neg =>
    have hl0 := hok.2.1 he
    have HE : Hid (parseR s = ([], e, a)) := Lib.hid (by rw [hpr, if_neg (fun h => he h.1), hl0])
    have k5 : ((e : Int) == 0) = false := by simp; omega
    have k6 : ((e : Int) != 0) = true := by simp; omega
    have HL0 := Lib.hid hl0
    clear hok hpr he hl0
    go_wp2_with fail
    generalize w5.alloc (.cells #[.int .i64 e, .int .i64 a] 33) = w6 at *
    obtain ⟨⟨y0, y1⟩, -⟩ := q5.c2
    refine wp_region_still_tail 3 (by kernel_rfl) (by kernel_rfl) ?_
    simp only [List.take_succ_cons, List.take_zero, List.drop_succ_cons, List.drop_zero]
    repeat still_step
    refine wpStill_nil ?_
    change wpList _ _ _ _ _ w6.drew
    have HQ8 := Lib.hid (And.intro HQ5.out.1.drew (And.intro HQ5.out.2.1.drew (show IsLab w6.drew w6.drew.heap.size A l from HQ5.out.2.2)))
    clear y0 y1 q5
    generalize w6.drew = w8 at *
    obtain ⟨⟨u0, u1⟩, ⟨g0, g1⟩⟩ := HQ8.out.1.c2
    go_wp2_with fail
    obtain ⟨w2, e2, r0, r1, b2⟩ := fault_set (.int .i64 e) (.int .i64 a) HQ8.out.1 HQ8.out.2.1 (Nat.le_refl _)
    rw [e2]
    clear e2 u0 u1 g0 g1
    refine bodyPost_ret (by simp [results, Tryd.results17, go_sem, r0, r1]; try rfl) rfl ?_
    unfold ParseTells
    rw [HE.out, HL0.out]
    exact ⟨A, c, rfl, .inl rfl, b2⟩
  subst he
  obtain ⟨⟨rfl, hle⟩, -, hl32⟩ := And.intro (hok.1 rfl) (And.intro trivial hok.2.2)
  by_cases hlt : end_ < s.size
  · have HE : Hid (parseR s = ([], 2, end_)) := Lib.hid (by rw [hpr, if_pos ⟨rfl, hlt⟩])
    have k1 : decide (end_ < s.size) = true := decide_eq_true hlt
    clear hok hpr hlt hle
    obtain ⟨⟨u0, u1⟩, ⟨g0, g1⟩⟩ := HB4.out.1.c2
    go_wp2_with fail
    obtain ⟨w2, e2, r0, r1, b2⟩ := fault_set (.int .i64 2) (.int .i64 end_) HB4.out.1 HB4.out.2.1 (Nat.le_refl _)
    have hal : Below w.heap.size w (w2.alloc (.cells #[.int .i64 (0 : Nat), .int .i64 (0 : Nat)] 33)) := b2.alloc b2.size _
    rw [e2]
    clear e2 u0 u1 g0 g1
    have q0 := cell_alloc (.cells #[.int .i64 (0 : Nat), .int .i64 (0 : Nat)] 33) r0
    have q1 := cell_alloc (.cells #[.int .i64 (0 : Nat), .int .i64 (0 : Nat)] 33) r1
    have hP := trivial
    generalize w2.alloc (.cells #[.int .i64 (0 : Nat), .int .i64 (0 : Nat)] 33) = w9 at *
    refine bodyPost_ret (by simp [results, Tryd.results17, go_sem, q0, q1]; try rfl) rfl ?_
    exact parseTells_bad HE.out hal
  · have HE : Hid (parseR s = (l, 0, 0)) := Lib.hid (by rw [hpr, if_neg (fun h => hlt h.2)])
    have k1 : decide (end_ < s.size) = false := decide_eq_false hlt
    clear hok hpr hlt hle
    go_wp2_with fail
    generalize w5.alloc (.cells #[.int .i64 (0 : Nat), .int .i64 (0 : Nat)] 33) = w6 at *
    obtain ⟨⟨y0, y1⟩, -⟩ := q5.c2
    refine wp_region_still_tail 3 (by kernel_rfl) (by kernel_rfl) ?_
    simp only [List.take_succ_cons, List.take_zero, List.drop_succ_cons, List.drop_zero]
    repeat still_step
    refine wpStill_nil ?_
    change wpList _ _ _ _ _ w6.drew
    have HQ8 := Lib.hid (And.intro HQ5.out.1.drew (And.intro HQ5.out.2.1.drew (show IsLab w6.drew w6.drew.heap.size A l from HQ5.out.2.2)))
    clear y0 y1 q5
    generalize w6.drew = w8 at *
    obtain ⟨⟨u0, u1⟩, ⟨g0, g1⟩⟩ := HQ8.out.1.c2
    go_wp2_with fail
    obtain ⟨w2, e2, r0, r1, -, hp⟩ := parse_good (c := c) (.int .i64 0) (.int .i64 0) _ _ HE.out HQ8.out.2.2 (fun x hx => by have := HA.out x hx; omega) HQ8.out.1 HQ8.out.2.1 rfl rfl
    rw [e2]
    clear e2 u0 u1 g0 g1
    refine bodyPost_ret (by simp [results, Tryd.results17, go_sem, r0, r1]; try rfl) rfl ?_
    exact hp _ (Below.refl _ _)
end Go.Proofs.YtgdfklgbdfpinaaDoor
