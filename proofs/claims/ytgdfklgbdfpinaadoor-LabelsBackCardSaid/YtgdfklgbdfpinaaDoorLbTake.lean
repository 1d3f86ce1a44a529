/-
  The walk of labels.Take. Conditions: the text's size; the tables of unicode/utf8.
-/
import Derived.Test.YtgdfklgbdfpinaaDoorLbLabel
import Derived.Test.YtgdfklgbdfpinaaDoorLbRefTake
namespace Go.Proofs.YtgdfklgbdfpinaaDoor
set_option linter.unusedVariables false
set_option linter.unusedSimpArgs false
open Go.RowKit Go.Maps Go.Sort Go.ChangeShapes Go.WideShapes

theorem atN_ne (s : ByteArray) (i : Nat) : (atN s i).1 ≠ 0 := by
  unfold atN; by_cases h : s.size ≤ i
  · rw [if_pos h]; exact Nat.one_ne_zero
  · rw [if_neg h]; exact Nat.succ_ne_zero 1
theorem labelR_in (s : ByteArray) (i : Nat) (h : (labelR s i).2.2.1 = 0) : i < s.size ∧ i + 2 ≤ (labelR s i).2.1 ∧ (labelR s i).2.1 ≤ s.size ∧ (labelR s i).2.2.2 = 0 := by
  unfold labelR at h ⊢
  by_cases h1 : s.size ≤ i
  · rw [if_pos h1] at h; exact absurd h (atN_ne s i)
  rw [if_neg h1] at h ⊢
  by_cases h2 : ¬ (1 ≤ signs s i ∧ signs s i ≤ 32)
  · rw [if_pos h2] at h; cases h
  rw [if_neg h2] at h ⊢
  by_cases h3 : isB s (i + signs s i) 61 = false
  · rw [if_pos h3] at h; exact absurd h (atN_ne s _)
  rw [if_neg h3] at h ⊢
  have := readAt_in s _ h
  exact ⟨by omega, Nat.le_trans (by omega) this.1, this.2.1, this.2.2⟩
theorem takeF_label (s : ByteArray) (k i : Nat) (out : List Lab) (h1 : ¬ s.size ≤ i) (h2 : ¬ out.length = 32) :
    takeF s (k + 1) i out = if (labelR s i).2.2.1 ≠ 0 then ([], 0, (labelR s i).2.2)
      else if isB s (labelR s i).2.1 125 = true then (out ++ [(labelR s i).1], (labelR s i).2.1 + 1, 0, 0)
      else if isB s (labelR s i).2.1 44 = false then ([], 0, atN s (labelR s i).2.1)
      else if isB s ((labelR s i).2.1 + 1) 32 = false then ([], 0, atN s ((labelR s i).2.1 + 1))
      else takeF s k ((labelR s i).2.1 + 2) (out ++ [(labelR s i).1]) := by
  rw [takeF, if_neg h1, if_neg h2, labelR, if_neg h1]
  by_cases h3 : ¬ (1 ≤ signs s i ∧ signs s i ≤ 32)
  · rw [if_pos h3, if_pos h3, if_pos (Nat.succ_ne_zero 3)]
  rw [if_neg h3, if_neg h3]
  by_cases h4 : isB s (i + signs s i) 61 = false
  · rw [if_pos h4, if_pos h4, if_pos (atN_ne s _)]
  rw [if_neg h4, if_neg h4]

set_option maxRecDepth 100000 in
set_option maxHeartbeats 8000000 in
theorem take_any (s : ByteArray) (q : Int) (w : World) (hs : s.size ≤ 1000000) (hT : Lib.Utf8Tabs 0 1 w) :
    Calls Tryd.prog 18 #[.string s, .int .i64 q] w fun e w' => TakeTells (takeR s q) e w w' := by
  have hmax : s.size ≤ maxLen := by unfold maxLen; omega
  have HT := Lib.hid hT
  clear hT
  have hB := Blk.new w 33 #[.int .i64 0, .int .i64 0]
  have hbw := (Below.refl w.heap.size w).alloc (Nat.le_refl _) (.cells #[.int .i64 0, .int .i64 0] 33)
  obtain ⟨⟨v0, v1⟩, ⟨f0, f1⟩⟩ := hB.c2
  have HQ := Lib.hid (And.intro hB hbw)
  clear hB hbw
  by_cases hq : q < 0
  · have q1 : decide (q < 0) = true := decide_eq_true hq
    have HR : Hid (takeR s q = ([], 0, 7, 0)) := Lib.hid (by rw [takeR, if_pos (.inl hq)])
    clear hq
    go_enter Tryd.func18, Tryd.ntmps18
    go_wp2_with fail
    obtain ⟨w2, e2, r0, r1, b2⟩ := fresh_fault w 7 0
    rw [e2]
    clear e2 v0 v1 f0 f1
    refine bodyPost_ret (by simp [results, Tryd.results18, go_sem, r0, r1]; try rfl) rfl ?_
    exact takeTells_bad HR.out b2
  have q1 : decide (q < 0) = false := decide_eq_false hq
  obtain ⟨p, rfl⟩ : ∃ p : Nat, q = p := ⟨q.toNat, by omega⟩
  by_cases hp : s.size < p
  · have q2 : decide (s.size < p) = true := decide_eq_true hp
    have HR : Hid (takeR s (p : Int) = ([], 0, 7, 0)) := Lib.hid (by rw [takeR, if_pos (.inr (by omega))])
    clear hp
    go_enter Tryd.func18, Tryd.ntmps18
    go_wp2_with fail
    obtain ⟨w2, e2, r0, r1, b2⟩ := fresh_fault w 7 0
    rw [e2]
    clear e2 v0 v1 f0 f1
    refine bodyPost_ret (by simp [results, Tryd.results18, go_sem, r0, r1]; try rfl) rfl ?_
    exact takeTells_bad HR.out b2
  have q2 : decide (s.size < p) = false := decide_eq_false hp
  have hpl : p ≤ s.size := by omega
  have hR0 : takeR s (p : Int) = if isB s p 123 = false then ([], 0, atN s p) else if isB s (p + 1) 125 = true then ([], p + 2, 0, 0) else takeF s s.size (p + 1) [] := by
    rw [takeR, if_neg (by omega)]; rfl
  have wp1 : IntKind.i64.wrap ((p : Int) + 1) = ((p + 1 : Nat) : Int) := by rw [IntWalk.i64_in _ (by omega)]; omega
  have wp2 : IntKind.i64.wrap ((p : Int) + 2) = ((p + 2 : Nat) : Int) := by rw [IntWalk.i64_in _ (by omega)]; omega
  clear hq hp
  cases h1 : isB s p 123 with
  | false =>
    obtain ⟨⟨e, a⟩, hea⟩ : ∃ r, atN s p = r := ⟨_, rfl⟩
    have hi1 : ∀ w, _ := fun w => pre_lit s p 123 ⟨#[123]⟩ w false (by decide) rfl h1
    have ho : ∀ w, _ := fun w => at_lit s p e a w hea
    have HE : Hid (takeR s (p : Int) = ([], 0, e, a)) := Lib.hid (by rw [hR0, if_pos h1, hea])
    clear hR0 h1 hea
    go_enter Tryd.func18, Tryd.ntmps18
    go_wp2_with fail
    refine (hi1 _).mono ?_
    rintro e w' ⟨rfl, rfl⟩
    go_wp2_with fail
    generalize w.alloc (.cells #[.int .i64 0, .int .i64 0] 33) = w1 at *
    clear v0 v1 f0 f1
    refine (ho _).mono ?_
    rintro r w5 ⟨rfl, b5⟩
    have hB5 := HQ.out.1.below b5 HQ.out.1.lt
    have B5 := HQ.out.2.trans (b5.mono HQ.out.2.size)
    obtain ⟨⟨u0, u1⟩, ⟨g0, g1⟩⟩ := hB5.c2
    have HQ5 := Lib.hid (And.intro hB5 B5)
    clear hB5 B5 b5
    go_wp2_with fail
    obtain ⟨w2, e2, r0, r1, b2⟩ := fault_set (.int .i64 e) (.int .i64 a) HQ5.out.1 HQ5.out.2 (Nat.le_refl _)
    rw [e2]
    clear e2 u0 u1 g0 g1
    refine bodyPost_ret (by simp [results, Tryd.results18, go_sem, r0, r1]; try rfl) rfl ?_
    exact takeTells_bad HE.out b2
  | true =>
    have hpz : p < s.size := by
      rw [isB] at h1
      exact of_decide_eq_true (Bool.and_eq_true_iff.1 h1).1
    cases h2 : isB s (p + 1) 125 with
    | true =>
      have hi1 : ∀ w, _ := fun w => pre_lit s p 123 ⟨#[123]⟩ w true (by decide) rfl h1
      have hi2 : ∀ w, _ := fun w => pre_lit2 s p 123 125 ⟨#[123, 125]⟩ w true (by decide) (by decide) rfl h1 h2
      have HR : Hid (takeR s (p : Int) = ([], p + 2, 0, 0)) := Lib.hid (by rw [hR0, if_neg (by rw [h1]; simp), if_pos h2])
      clear hR0 h1 h2
      go_enter Tryd.func18, Tryd.ntmps18
      go_wp2_with fail
      refine (hi1 _).mono ?_
      rintro e w' ⟨rfl, rfl⟩
      go_wp2_with fail
      refine (hi2 _).mono ?_
      rintro e w' ⟨rfl, rfl⟩
      go_wp2_with fail
      obtain ⟨w2, e2, r0, r1, b2⟩ := fresh_fault w 0 0
      rw [e2]
      clear e2 v0 v1 f0 f1
      refine bodyPost_ret (by simp [results, Tryd.results18, go_sem, r0, r1]; try rfl) rfl ?_
      exact takeTells_bad HR.out b2
    | false =>
      have hi1 : ∀ w, _ := fun w => pre_lit s p 123 ⟨#[123]⟩ w true (by decide) rfl h1
      have hi2 : ∀ w, _ := fun w => pre_lit2 s p 123 125 ⟨#[123, 125]⟩ w false (by decide) (by decide) rfl h1 h2
      have HR : Hid (takeR s (p : Int) = takeF s s.size (p + 1) []) := Lib.hid (by rw [hR0, if_neg (by rw [h1]; simp), if_neg (by rw [h2]; simp)])
      clear hR0 h1 h2
      obtain ⟨i0, hi0, hz00, hz01, hz02⟩ := info_parts infoLab
      go_enter Tryd.func18, Tryd.ntmps18
      go_wp2_with fail
      refine (hi1 _).mono ?_
      rintro e w' ⟨rfl, rfl⟩
      go_wp2_with fail
      refine (hi2 _).mono ?_
      rintro e w' ⟨rfl, rfl⟩
      go_wp2_with fail
      have hB1 := HQ.out.1
      have B1 := HQ.out.2
      have hz1 : w.heap.size < (w.alloc (.cells #[.int .i64 0, .int .i64 0] 33)).heap.size := by simp
      clear v0 v1 f0 f1
      generalize w.alloc (.cells #[.int .i64 0, .int .i64 0] 33) = w1 at *
      go_loopw [7, 8] (fun v7 c8 wr => ∃ (i fuel : Nat) (out : List Lab), c8 = .int .i64 i ∧ wr.ownsRow (w.heap.size + 1) 42 2 v7 out.length (labCells out) ∧ Hid (takeR s (p : Int) = takeF s fuel i out) ∧ s.size ≤ i + fuel ∧ i ≤ s.size + 2 ∧ out.length ≤ 32 ∧ Blk wr w.heap.size 33 #[.int .i64 0, .int .i64 0] ∧ Below w.heap.size w wr ∧ w.heap.size < wr.heap.size) (fun _ c _ => s.size + 2 - (intOf c).toNat)
      case atStart => exact ⟨p + 1, s.size, [], by go_num, World.ownsRow_nil _ _ _ _, HR, by omega, by omega, by simp, hB1, B1, hz1⟩
      case round =>
        clear hB1 B1
        obtain ⟨i, fuel, out, rfl, hown, hrd, hfu, hil, hol, hB, hbw, hz⟩ := hrel
        obtain ⟨A, c, rfl, hlab⟩ := isLab_row hown
        have HQ2 := Lib.hid (And.intro hB hbw)
        have HL := Lib.hid (And.intro hown hlab)
        have hlb : ∀ w, _ := fun w => label_at s i w hs hil
        clear hB hbw hown hlab
        by_cases hi : s.size ≤ i
        · have hE : takeR s (p : Int) = ([], 0, 1, s.size) := by
            rw [hrd.out]
            cases fuel with
            | zero => rfl
            | succ f => rw [takeF, if_pos hi]
          have k1 : decide (i < s.size) = false := decide_eq_false (by omega)
          obtain ⟨x1, x2, e, a, hr, rfl, rfl⟩ : ∃ x1 x2 e a, labelR s i = ((x1, x2), 0, e, a) ∧ e = 1 ∧ a = s.size := ⟨.empty, .empty, 1, s.size, by rw [labelR, if_pos hi, atN, if_pos hi], rfl, rfl⟩
          have HE := Lib.hid hE
          have HR2 := Lib.hid hr
          clear hE hr hrd
          by_cases h32 : out.length = 32
          · have k2 : ((out.length : Int) == 32) = true := by rw [h32]; rfl
            clear h32
            obtain ⟨e, he1⟩ : ∃ e, e = 1 := ⟨_, rfl⟩
            have he : ¬ e = 0 := by omega
            obtain ⟨a, ha⟩ : ∃ a, a = s.size := ⟨_, rfl⟩
            rw [← he1, ← ha] at HE HR2
            clear he1 ha
            go_wp2_with fail
            refine (hlb _ (Utf8Tabs_below HT.out HQ2.out.2)).mono ?_
            rintro r w5 ⟨rfl, b5⟩
            rw [HR2.out]
            simp only [lrV]
            have hB5 := ((HQ2.out.1.below b5 hz).alloc (.cells #[.string x1, .string x2] 42)).alloc (.cells #[.int .i64 e, .int .i64 a] 33)
            have B5 := ((HQ2.out.2.trans (b5.mono (by omega))).alloc (by have := b5.size; omega) (.cells #[.string x1, .string x2] 42)).alloc (by have := b5.size; simp; omega) (.cells #[.int .i64 e, .int .i64 a] 33)
            have q5 := Blk.new (w5.alloc (.cells #[.string x1, .string x2] 42)) 33 #[.int .i64 e, .int .i64 a]
            rw [show (w5.alloc (.cells #[.string x1, .string x2] 42)).heap.size = w5.heap.size + 1 by simp] at q5
            have hz5 : w.heap.size < w5.heap.size := by have := b5.size; omega
            have hown5 := own_below HL.out.1 b5
            clear b5
            have k5 : ((e : Int) == 0) = false := by simp; omega
            have k6 : ((e : Int) != 0) = true := by simp; omega
            have HQ5 := Lib.hid (And.intro hB5 B5)
            clear he hB5 B5 hown5
            go_wp2_with fail
            generalize (w5.alloc (.cells #[.string x1, .string x2] 42)).alloc (.cells #[.int .i64 e, .int .i64 a] 33) = w6 at *
            obtain ⟨⟨y0, y1⟩, -⟩ := q5.c2
            refine wp_region_still_tail 3 (by kernel_rfl) (by kernel_rfl) ?_
            simp only [List.take_succ_cons, List.take_zero, List.drop_succ_cons, List.drop_zero]
            repeat still_step
            refine wpStill_nil ?_
            change wpList _ _ _ _ _ w6.drew
            have HQ8 := Lib.hid (And.intro HQ5.out.1.drew HQ5.out.2.drew)
            clear y0 y1 q5
            generalize w6.drew = w8 at *
            obtain ⟨⟨u0, u1⟩, ⟨g0, g1⟩⟩ := HQ8.out.1.c2
            go_wp2_with fail
            obtain ⟨w2, e2, r0, r1, b2⟩ := fault_set (.int .i64 e) (.int .i64 a) HQ8.out.1 HQ8.out.2 (Nat.le_refl _)
            rw [e2]
            clear e2 u0 u1 g0 g1
            refine bodyPost_ret (by simp [results, Tryd.results18, go_sem, r0, r1]; try rfl) rfl ?_
            exact takeTells_bad HE.out b2
          · have k2 : ((out.length : Int) == 32) = false := by simp; omega
            clear h32
            obtain ⟨e, he1⟩ : ∃ e, e = 1 := ⟨_, rfl⟩
            have he : ¬ e = 0 := by omega
            obtain ⟨a, ha⟩ : ∃ a, a = s.size := ⟨_, rfl⟩
            rw [← he1, ← ha] at HE HR2
            clear he1 ha
            go_wp2_with fail
            refine (hlb _ (Utf8Tabs_below HT.out HQ2.out.2)).mono ?_
            rintro r w5 ⟨rfl, b5⟩
            rw [HR2.out]
            simp only [lrV]
            have hB5 := ((HQ2.out.1.below b5 hz).alloc (.cells #[.string x1, .string x2] 42)).alloc (.cells #[.int .i64 e, .int .i64 a] 33)
            have B5 := ((HQ2.out.2.trans (b5.mono (by omega))).alloc (by have := b5.size; omega) (.cells #[.string x1, .string x2] 42)).alloc (by have := b5.size; simp; omega) (.cells #[.int .i64 e, .int .i64 a] 33)
            have q5 := Blk.new (w5.alloc (.cells #[.string x1, .string x2] 42)) 33 #[.int .i64 e, .int .i64 a]
            rw [show (w5.alloc (.cells #[.string x1, .string x2] 42)).heap.size = w5.heap.size + 1 by simp] at q5
            have hz5 : w.heap.size < w5.heap.size := by have := b5.size; omega
            have hown5 := own_below HL.out.1 b5
            clear b5
            have k5 : ((e : Int) == 0) = false := by simp; omega
            have k6 : ((e : Int) != 0) = true := by simp; omega
            have HQ5 := Lib.hid (And.intro hB5 B5)
            clear he hB5 B5 hown5
            go_wp2_with fail
            generalize (w5.alloc (.cells #[.string x1, .string x2] 42)).alloc (.cells #[.int .i64 e, .int .i64 a] 33) = w6 at *
            obtain ⟨⟨y0, y1⟩, -⟩ := q5.c2
            refine wp_region_still_tail 3 (by kernel_rfl) (by kernel_rfl) ?_
            simp only [List.take_succ_cons, List.take_zero, List.drop_succ_cons, List.drop_zero]
            repeat still_step
            refine wpStill_nil ?_
            change wpList _ _ _ _ _ w6.drew
            have HQ8 := Lib.hid (And.intro HQ5.out.1.drew HQ5.out.2.drew)
            clear y0 y1 q5
            generalize w6.drew = w8 at *
            obtain ⟨⟨u0, u1⟩, ⟨g0, g1⟩⟩ := HQ8.out.1.c2
            go_wp2_with fail
            obtain ⟨w2, e2, r0, r1, b2⟩ := fault_set (.int .i64 e) (.int .i64 a) HQ8.out.1 HQ8.out.2 (Nat.le_refl _)
            rw [e2]
            clear e2 u0 u1 g0 g1
            refine bodyPost_ret (by simp [results, Tryd.results18, go_sem, r0, r1]; try rfl) rfl ?_
            exact takeTells_bad HE.out b2
        have k1 : decide (i < s.size) = true := decide_eq_true (by omega)
        obtain ⟨f, rfl⟩ : ∃ f, fuel = f + 1 := ⟨fuel - 1, by omega⟩
        by_cases h32 : out.length = 32
        · have k2 : ((out.length : Int) == 32) = true := by rw [h32]; rfl
          have hE : takeR s (p : Int) = ([], 0, 3, i) := by rw [hrd.out, takeF, if_neg hi, if_pos h32]
          have HE := Lib.hid hE
          obtain ⟨⟨u0, u1⟩, ⟨g0, g1⟩⟩ := HQ2.out.1.c2
          clear hE hrd h32
          go_wp2_with fail
          obtain ⟨w2, e2, r0, r1, b2⟩ := fault_set (.int .i64 3) (.int .i64 i) HQ2.out.1 HQ2.out.2 (Nat.le_refl _)
          rw [e2]
          clear e2 u0 u1 g0 g1
          refine bodyPost_ret (by simp [results, Tryd.results18, go_sem, r0, r1]; try rfl) rfl ?_
          exact takeTells_bad HE.out b2
        have k2 : ((out.length : Int) == 32) = false := by simp; omega
        have hst := hrd.out.trans (takeF_label s f i out hi h32)
        have hrin := labelR_in s i
        obtain ⟨⟨⟨x1, x2⟩, end_, e, a⟩, hr⟩ : ∃ r, labelR s i = r := ⟨_, rfl⟩
        rw [hr] at hst hrin
        have HR2 := Lib.hid hr
        have HST := Lib.hid hst
        have HRI := Lib.hid hrin
        clear hr hst hrin hrd
        by_cases he : e = 0
        case neg =>
          have HE := Lib.hid (HST.out.trans (if_pos he))
          go_wp2_with fail
          refine (hlb _ (Utf8Tabs_below HT.out HQ2.out.2)).mono ?_
          rintro r w5 ⟨rfl, b5⟩
          rw [HR2.out]
          simp only [lrV]
          have hB5 := ((HQ2.out.1.below b5 hz).alloc (.cells #[.string x1, .string x2] 42)).alloc (.cells #[.int .i64 e, .int .i64 a] 33)
          have B5 := ((HQ2.out.2.trans (b5.mono (by omega))).alloc (by have := b5.size; omega) (.cells #[.string x1, .string x2] 42)).alloc (by have := b5.size; simp; omega) (.cells #[.int .i64 e, .int .i64 a] 33)
          have q5 := Blk.new (w5.alloc (.cells #[.string x1, .string x2] 42)) 33 #[.int .i64 e, .int .i64 a]
          rw [show (w5.alloc (.cells #[.string x1, .string x2] 42)).heap.size = w5.heap.size + 1 by simp] at q5
          have hz5 : w.heap.size < w5.heap.size := by have := b5.size; omega
          have hown5 := own_below HL.out.1 b5
          clear b5
          have k5 : ((e : Int) == 0) = false := by simp; omega
          have k6 : ((e : Int) != 0) = true := by simp; omega
          have HQ5 := Lib.hid (And.intro hB5 B5)
          clear he hB5 B5 hown5
          go_wp2_with fail
          generalize (w5.alloc (.cells #[.string x1, .string x2] 42)).alloc (.cells #[.int .i64 e, .int .i64 a] 33) = w6 at *
          obtain ⟨⟨y0, y1⟩, -⟩ := q5.c2
          refine wp_region_still_tail 3 (by kernel_rfl) (by kernel_rfl) ?_
          simp only [List.take_succ_cons, List.take_zero, List.drop_succ_cons, List.drop_zero]
          repeat still_step
          refine wpStill_nil ?_
          change wpList _ _ _ _ _ w6.drew
          have HQ8 := Lib.hid (And.intro HQ5.out.1.drew HQ5.out.2.drew)
          clear y0 y1 q5
          generalize w6.drew = w8 at *
          obtain ⟨⟨u0, u1⟩, ⟨g0, g1⟩⟩ := HQ8.out.1.c2
          go_wp2_with fail
          obtain ⟨w2, e2, r0, r1, b2⟩ := fault_set (.int .i64 e) (.int .i64 a) HQ8.out.1 HQ8.out.2 (Nat.le_refl _)
          rw [e2]
          clear e2 u0 u1 g0 g1
          refine bodyPost_ret (by simp [results, Tryd.results18, go_sem, r0, r1]; try rfl) rfl ?_
          exact takeTells_bad HE.out b2
        subst he
        obtain ⟨-, hri1, hri2, rfl⟩ := HRI.out rfl
        have HST2 := Lib.hid (HST.out.trans (if_neg (by simp)))
        clear HST HRI
        go_wp2_with fail
        refine (hlb _ (Utf8Tabs_below HT.out HQ2.out.2)).mono ?_
        rintro r w5 ⟨rfl, b5⟩
        rw [HR2.out]
        simp only [lrV]
        have hB5 := ((HQ2.out.1.below b5 hz).alloc (.cells #[.string x1, .string x2] 42)).alloc (.cells #[.int .i64 (0 : Nat), .int .i64 (0 : Nat)] 33)
        have B5 := ((HQ2.out.2.trans (b5.mono (by omega))).alloc (by have := b5.size; omega) (.cells #[.string x1, .string x2] 42)).alloc (by have := b5.size; simp; omega) (.cells #[.int .i64 (0 : Nat), .int .i64 (0 : Nat)] 33)
        have q5 := Blk.new (w5.alloc (.cells #[.string x1, .string x2] 42)) 33 #[.int .i64 (0 : Nat), .int .i64 (0 : Nat)]
        rw [show (w5.alloc (.cells #[.string x1, .string x2] 42)).heap.size = w5.heap.size + 1 by simp] at q5
        have hz5 : w.heap.size < w5.heap.size := by have := b5.size; omega
        have hown5 := own_below HL.out.1 b5
        clear b5
        have hown6 := ((hown5.alloc (.cells #[.string x1, .string x2] 42)).alloc (.cells #[.int .i64 (0 : Nat), .int .i64 (0 : Nat)] 33)).alloc (.cells #[.string x1, .string x2] 42)
        have htwo : ∀ j u, [Value.string x1, Value.string x2][j]? = some u → (((w5.alloc (.cells #[.string x1, .string x2] 42)).alloc (.cells #[.int .i64 (0 : Nat), .int .i64 (0 : Nat)] 33)).alloc (.cells #[.string x1, .string x2] 42)).cell? ((⟨w5.heap.size + 2, 0, none⟩ : Addr).add j) = some u := by
          have := two_new (w := (w5.alloc (.cells #[.string x1, .string x2] 42)).alloc (.cells #[.int .i64 (0 : Nat), .int .i64 (0 : Nat)] 33)) (u := .string x1) (v := .string x2) (t := 42)
          simpa using this
        have HB5 := Lib.hid (And.intro hB5 B5)
        clear hB5 B5 q5 hown5
        go_wp2_with (at_builtin; refine wpList_append_own _ rfl _ _ 22 rfl (w.heap.size + 1) 42 i0 (.agg #[.string ⟨#[]⟩, .string ⟨#[]⟩]) 2 32 Tryd.underlying22 hi0 hz00 hz01 hz02 rfl (by decide) _ _ _ rfl hown6 ⟨w5.heap.size + 2, 0, none⟩ 1 1 [.string x1, .string x2] rfl rfl htwo (fun u hu => by simp at hu; rcases hu with rfl | rfl <;> rfl) (by unfold maxLen; omega) (by omega) (by simp; omega) ?_; intro v' w7 hown7 hgrow7 _)
        have hown8 : w7.ownsRow (w.heap.size + 1) 42 2 v' (out ++ [(x1, x2)]).length (labCells (out ++ [(x1, x2)])) := by
          rw [labCells_snoc, List.length_append]
          exact hown7
        have hB7 := (HB5.out.1.alloc (.cells #[.string x1, .string x2] 42)).grown hgrow7 (fun e => by have := own_ge hown6 e.symm; omega)
        have B7 := (HB5.out.2.alloc (by simp; omega) (.cells #[.string x1, .string x2] 42)).grown hgrow7 (by simp; omega) (fun j e => by have := own_ge hown6 e; omega)
        have hz7 := hB7.lt
        clear hown7 hgrow7 hown6 htwo HB5 HQ2 HL
        obtain ⟨A7, c7, rfl, hlab7⟩ := isLab_row hown8
        have hl7 : (out ++ [(x1, x2)]).length = out.length + 1 := by simp
        obtain ⟨out7, ho7⟩ : ∃ o, out ++ [(x1, x2)] = o := ⟨_, rfl⟩
        simp only [ho7] at hown8 hlab7 hl7 HST2 ⊢
        have wpe1 : IntKind.i64.wrap ((end_ : Int) + 1) = ((end_ + 1 : Nat) : Int) := by rw [IntWalk.i64_in _ (by omega)]; omega
        have wpe2 : IntKind.i64.wrap ((end_ : Int) + 2) = ((end_ + 2 : Nat) : Int) := by rw [IntWalk.i64_in _ (by omega)]; omega
        have HQ7 := Lib.hid (And.intro hB7 B7)
        have HO7 := Lib.hid hown8
        clear ho7 hlab7 hB7 B7 hown8
        cases h125 : isB s end_ 125 with
        | true =>
          have hi4 : ∀ w, _ := fun w => pre_lit s end_ 125 ⟨#[125]⟩ w true (by decide) rfl h125
          have HE := Lib.hid (HST2.out.trans (if_pos h125))
          obtain ⟨⟨u0, u1⟩, ⟨g0, g1⟩⟩ := HQ7.out.1.c2
          clear h125 HST2
          refine (hi4 _).mono ?_
          rintro e w' ⟨rfl, rfl⟩
          go_wp2_with fail
          obtain ⟨w2, e2, r0, r1, htt⟩ := take_good (.int .i64 0) (.int .i64 0) _ _ HE.out HO7.out HQ7.out.1 HQ7.out.2 rfl rfl
          rw [e2]
          clear e2 u0 u1 g0 g1
          refine bodyPost_ret (by simp [results, Tryd.results18, go_sem, r0, r1]; try rfl) rfl ?_
          rw [hl7] at htt
          exact htt
        | false =>
          have hi4 : ∀ w, _ := fun w => pre_lit s end_ 125 ⟨#[125]⟩ w false (by decide) rfl h125
          have HST3 := HST2.out.trans (if_neg (by rw [h125]; simp))
          clear h125 HST2
          cases h44 : isB s end_ 44 with
          | false =>
            obtain ⟨⟨e, a⟩, hea⟩ : ∃ r, atN s end_ = r := ⟨_, rfl⟩
            have hi5 : ∀ w, _ := fun w => pre_lit s end_ 44 ⟨#[44]⟩ w false (by decide) rfl h44
            have ho : ∀ w, _ := fun w => at_lit s end_ e a w hea
            have HE := Lib.hid (HST3.trans ((if_pos h44).trans (by rw [hea])))
            clear HST3 h44 hea
            refine (hi4 _).mono ?_
            rintro e w' ⟨rfl, rfl⟩
            go_wp2_with fail
            refine (hi5 _).mono ?_
            rintro e w' ⟨rfl, rfl⟩
            go_wp2_with fail
            refine (ho _).mono ?_
            rintro r w5 ⟨rfl, b5⟩
            have hB5 := HQ7.out.1.below b5 HQ7.out.1.lt
            have B5 := HQ7.out.2.trans (b5.mono HQ7.out.2.size)
            obtain ⟨⟨u0, u1⟩, ⟨g0, g1⟩⟩ := hB5.c2
            have HQ5 := Lib.hid (And.intro hB5 B5)
            clear hB5 B5 b5
            go_wp2_with fail
            obtain ⟨w2, e2, r0, r1, b2⟩ := fault_set (.int .i64 e) (.int .i64 a) HQ5.out.1 HQ5.out.2 (Nat.le_refl _)
            rw [e2]
            clear e2 u0 u1 g0 g1
            refine bodyPost_ret (by simp [results, Tryd.results18, go_sem, r0, r1]; try rfl) rfl ?_
            exact takeTells_bad HE.out b2
          | true =>
            have hel : end_ < s.size := by
              rw [isB] at h44
              exact of_decide_eq_true (Bool.and_eq_true_iff.1 h44).1
            have hi5 : ∀ w, _ := fun w => pre_lit s end_ 44 ⟨#[44]⟩ w true (by decide) rfl h44
            have HST4 := HST3.trans (if_neg (by rw [h44]; simp))
            clear h44 HST3
            cases h32' : isB s (end_ + 1) 32 with
            | false =>
              obtain ⟨⟨e, a⟩, hea⟩ : ∃ r, atN s (end_ + 1) = r := ⟨_, rfl⟩
              have hi6 : ∀ w, _ := fun w => pre_lit s (end_ + 1) 32 ⟨#[32]⟩ w false (by decide) rfl h32'
              have ho : ∀ w, _ := fun w => at_lit s (end_ + 1) e a w hea
              have HE := Lib.hid (HST4.trans ((if_pos h32').trans (by rw [hea])))
              clear HST4 h32' hea
              refine (hi4 _).mono ?_
              rintro e w' ⟨rfl, rfl⟩
              go_wp2_with fail
              refine (hi5 _).mono ?_
              rintro e w' ⟨rfl, rfl⟩
              go_wp2_with fail
              refine (hi6 _).mono ?_
              rintro e w' ⟨rfl, rfl⟩
              go_wp2_with fail
              refine (ho _).mono ?_
              rintro r w5 ⟨rfl, b5⟩
              have hB5 := HQ7.out.1.below b5 HQ7.out.1.lt
              have B5 := HQ7.out.2.trans (b5.mono HQ7.out.2.size)
              obtain ⟨⟨u0, u1⟩, ⟨g0, g1⟩⟩ := hB5.c2
              have HQ5 := Lib.hid (And.intro hB5 B5)
              clear hB5 B5 b5
              go_wp2_with fail
              obtain ⟨w2, e2, r0, r1, b2⟩ := fault_set (.int .i64 e) (.int .i64 a) HQ5.out.1 HQ5.out.2 (Nat.le_refl _)
              rw [e2]
              clear e2 u0 u1 g0 g1
              refine bodyPost_ret (by simp [results, Tryd.results18, go_sem, r0, r1]; try rfl) rfl ?_
              exact takeTells_bad HE.out b2
            | true =>
              have hi6 : ∀ w, _ := fun w => pre_lit s (end_ + 1) 32 ⟨#[32]⟩ w true (by decide) rfl h32'
              have HE := Lib.hid (HST4.trans (if_neg (by rw [h32']; simp)))
              clear HST4 h32'
              refine (hi4 _).mono ?_
              rintro e w' ⟨rfl, rfl⟩
              go_wp2_with fail
              refine (hi5 _).mono ?_
              rintro e w' ⟨rfl, rfl⟩
              go_wp2_with fail
              refine (hi6 _).mono ?_
              rintro e w' ⟨rfl, rfl⟩
              go_wp2_with fail
              go_roundw
              case rel => exact ⟨end_ + 2, f, out7, by go_num, (by rw [← hl7]; exact HO7.out), HE, by omega, by omega, by omega, HQ7.out.1, HQ7.out.2, hz7⟩
              case measure => simp [intOf]; omega
end Go.Proofs.YtgdfklgbdfpinaaDoor
