/-
  The walk of the reference's Take. Conditions: the text's size.
-/
import Derived.Test.YtgdfklgbdfpinaaDoorLbTakeLaw
import Derived.Test.YtgdfklgbdfpinaaDoorLbOf
import Derived.StillTailTactics
namespace Go.Proofs.YtgdfklgbdfpinaaDoor
set_option linter.unusedVariables false
set_option linter.unusedSimpArgs false
open Go.RowKit Go.Maps Go.Sort Go.ChangeShapes Go.WideShapes

/-- what Take tells -/
def TakeTells (r : TR) (e : Ending) (w w' : World) : Prop :=
  ∃ A c, e = .returned (.tuple #[.slice A r.1.length c, .int .i64 r.2.1, fltV (r.2.2.1, r.2.2.2)]) ∧ IsLab w' w'.heap.size A r.1 ∧ (∀ x, A = some x → w.heap.size ≤ x.block) ∧ Below w.heap.size w w'
theorem takeTells_bad {r : TR} {w w' : World} {e a n : Nat} (hr : r = ([], n, e, a)) (hb : Below w.heap.size w w') : TakeTells r (.returned (.tuple #[.slice none 0 0, .int .i64 n, .agg #[.int .i64 e, .int .i64 a]])) w w' := by
  subst hr
  exact ⟨none, 0, rfl, .inl rfl, nofun, hb⟩
theorem is_lit (s : ByteArray) (i c : Nat) (w : World) (b : Bool) (hs : s.size ≤ maxLen) (h : isB s i c = b) : Calls Tryd.prog 33 #[.string s, .int .i64 i, .int .u8 c] w fun e w' => e = .returned (.bool b) ∧ w' = w := by
  rw [← h]; exact is_any s i c w hs

theorem other_lit (s : ByteArray) (i e a : Nat) (w : World) (h : atN s i = (e, a)) : Calls Tryd.prog 34 #[.string s, .int .i64 i] w fun r w' => r = .returned (.agg #[.int .i64 e, .int .i64 a]) ∧ Below w.heap.size w w' := by
  have h1 := other_any s i w
  rw [atN_atE, h] at h1
  exact h1
/-- a fresh fault that was filled -/
theorem fresh_fault (w : World) (e a : Int) : ∃ w2, w.alloc (.cells #[.int .i64 e, .int .i64 a] 33) = w2 ∧ w2.cell? ⟨w.heap.size, 0, none⟩ = some (.int .i64 e) ∧ w2.cell? ⟨w.heap.size, 1, none⟩ = some (.int .i64 a) ∧ Below w.heap.size w w2 := by
  have hB2 := Blk.new w 33 #[.int .i64 e, .int .i64 a]
  exact ⟨_, rfl, hB2.cell 0, hB2.cell 1, (Below.refl w.heap.size w).alloc (Nat.le_refl _) _⟩

/-- the fault is filled, the labels are told -/
theorem take_good {r : TR} {w wr : World} {A : Option Addr} {c : Nat} {out : List Lab} {n : Nat} (x y a b : Value) (hr : r = (out, n, 0, 0)) (hown : wr.ownsRow (w.heap.size + 1) 42 2 (.slice A out.length c) out.length (labCells out))
    (hB : Blk wr w.heap.size 33 #[a, b]) (hbw : Below w.heap.size w wr) (hx : x = .int .i64 0) (hy : y = .int .i64 0) :
    ∃ w2, (wr.setCell ⟨w.heap.size, 0, none⟩ x).setCell ⟨w.heap.size, 1, none⟩ y = w2 ∧ w2.cell? ⟨w.heap.size, 0, none⟩ = some (.int .i64 0) ∧ w2.cell? ⟨w.heap.size, 1, none⟩ = some (.int .i64 0) ∧
      TakeTells r (.returned (.tuple #[.slice A out.length c, .int .i64 n, .agg #[.int .i64 0, .int .i64 0]])) w w2 := by
  subst hx hy hr
  obtain ⟨w2, e2, r0, r1, b2⟩ := fault_set (.int .i64 0) (.int .i64 0) hB hbw (Nat.le_refl _)
  refine ⟨w2, e2, r0, r1, A, c, rfl, ?_, ?_, b2⟩
  case refine_2 =>
    intro x hx
    subst hx
    have := own_ge (j := x.block) hown rfl
    omega
  have h2 := ownsRow_setCell_below (ownsRow_setCell_below hown (a := ⟨w.heap.size, 0, none⟩) (by simp) (.int .i64 0)) (a := ⟨w.heap.size, 1, none⟩) (by simp) (.int .i64 0)
  rw [e2] at h2
  obtain ⟨A', c', e, hl⟩ := isLab_row h2
  simp at e
  obtain ⟨rfl, rfl⟩ := e
  exact hl

set_option maxRecDepth 100000 in
set_option maxHeartbeats 8000000 in
theorem rtake_any (s : ByteArray) (q : Int) (w : World) (hs : s.size ≤ 1000000) :
    Calls Tryd.prog 19 #[.string s, .int .i64 q] w fun e w' => TakeTells (takeR s q) e w w' := by
  have hmax : s.size ≤ maxLen := by unfold maxLen; omega
  have hB := Blk.new w 33 #[.int .i64 0, .int .i64 0]
  have hbw := (Below.refl w.heap.size w).alloc (Nat.le_refl _) (.cells #[.int .i64 0, .int .i64 0] 33)
  obtain ⟨⟨v0, v1⟩, ⟨f0, f1⟩⟩ := hB.c2
  have HQ := Lib.hid (And.intro hB hbw)
  clear hB hbw
  by_cases hq : q < 0
  · have q1 : decide (q < 0) = true := decide_eq_true hq
    have HR : Hid (takeR s q = ([], 0, 7, 0)) := Lib.hid (by rw [takeR, if_pos (.inl hq)])
    clear hq
    go_enter Tryd.func19, Tryd.ntmps19
    go_wp2_with fail
    obtain ⟨w2, e2, r0, r1, b2⟩ := fresh_fault w 7 0
    rw [e2]
    clear e2 v0 v1 f0 f1
    refine bodyPost_ret (by simp [results, Tryd.results19, go_sem, r0, r1]; try rfl) rfl ?_
    exact takeTells_bad HR.out b2
  have q1 : decide (q < 0) = false := decide_eq_false hq
  obtain ⟨p, rfl⟩ : ∃ p : Nat, q = p := ⟨q.toNat, by omega⟩
  by_cases hp : s.size < p
  · have q2 : decide (s.size < p) = true := decide_eq_true hp
    have HR : Hid (takeR s (p : Int) = ([], 0, 7, 0)) := Lib.hid (by rw [takeR, if_pos (.inr (by omega))])
    clear hp
    go_enter Tryd.func19, Tryd.ntmps19
    go_wp2_with fail
    obtain ⟨w2, e2, r0, r1, b2⟩ := fresh_fault w 7 0
    rw [e2]
    clear e2 v0 v1 f0 f1
    refine bodyPost_ret (by simp [results, Tryd.results19, go_sem, r0, r1]; try rfl) rfl ?_
    exact takeTells_bad HR.out b2
  have q2 : decide (s.size < p) = false := decide_eq_false hp
  have HP := Lib.hid (And.intro hq hp)
  have hR0 : takeR s (p : Int) = if isB s p 123 = false then ([], 0, atN s p) else if isB s (p + 1) 125 = true then ([], p + 2, 0, 0) else takeF s s.size (p + 1) [] := by
    rw [takeR, if_neg (by omega)]; rfl
  have wp1 : IntKind.i64.wrap ((p : Int) + 1) = ((p + 1 : Nat) : Int) := by rw [IntWalk.i64_in _ (by omega)]; omega
  have wp2 : IntKind.i64.wrap ((p : Int) + 2) = ((p + 2 : Nat) : Int) := by rw [IntWalk.i64_in _ (by omega)]; omega
  clear hq
  cases h1 : isB s p 123 with
  | false =>
    obtain ⟨⟨e, a⟩, hea⟩ : ∃ r, atN s p = r := ⟨_, rfl⟩
    have hi1 : ∀ w, _ := fun w => is_lit s p 123 w false hmax h1
    have ho : ∀ w, _ := fun w => other_lit s p e a w hea
    have HR : Hid (takeR s (p : Int) = ([], 0, e, a)) := Lib.hid (by rw [hR0, if_pos h1, hea])
    clear hR0 h1 hea
    go_enter Tryd.func19, Tryd.ntmps19
    go_wp2_with (go_at_call 33; refine (hi1 _).mono ?_; rintro e w' ⟨rfl, rfl⟩)
    refine (ho _).mono ?_
    rintro r w5 ⟨rfl, b5⟩
    have hB5 := HQ.out.1.below b5 (by simp)
    have B5 := HQ.out.2.trans (b5.mono (by simp))
    have F5 := hB5.c2
    obtain ⟨⟨u0, u1⟩, ⟨g0, g1⟩⟩ := F5
    have hz5 := hB5.lt
    have HQ5 := Lib.hid (And.intro hB5 B5)
    clear hB5 B5 b5 v0 v1 f0 f1
    go_wp2_with fail
    obtain ⟨w2, e2, r0, r1, b2⟩ := fault_set (.int .i64 e) (.int .i64 a) HQ5.out.1 HQ5.out.2 (Nat.le_refl _)
    rw [e2]
    clear e2 u0 u1 g0 g1
    refine bodyPost_ret (by simp [results, Tryd.results19, go_sem, r0, r1]; try rfl) rfl ?_
    exact takeTells_bad HR.out b2
  | true =>
    cases h2 : isB s (p + 1) 125 with
    | true =>
      have hi1 : ∀ w, _ := fun w => is_lit s p 123 w true hmax h1
      have hi2 : ∀ w, _ := fun w => is_lit s (p + 1) 125 w true hmax h2
      have HR : Hid (takeR s (p : Int) = ([], p + 2, 0, 0)) := Lib.hid (by rw [hR0, if_neg (by rw [h1]; simp), if_pos h2])
      clear hR0 h1 h2
      go_enter Tryd.func19, Tryd.ntmps19
      go_wp2_with fail
      refine (hi1 _).mono ?_
      rintro e w' ⟨rfl, rfl⟩
      go_wp2_with fail
      refine (hi2 _).mono ?_
      rintro e w' ⟨rfl, rfl⟩
      go_wp2_with fail
      obtain ⟨w2, e2, r0, r1, b2⟩ := fresh_fault w 0 0
      rw [e2]
      clear e2 v0 v1 f0 f1
      refine bodyPost_ret (by simp [results, Tryd.results19, go_sem, r0, r1]; try rfl) rfl ?_
      exact takeTells_bad HR.out b2
    | false =>
      have hi1 : ∀ w, _ := fun w => is_lit s p 123 w true hmax h1
      have hi2 : ∀ w, _ := fun w => is_lit s (p + 1) 125 w false hmax h2
      have HR : Hid (takeR s (p : Int) = takeF s s.size (p + 1) []) := Lib.hid (by rw [hR0, if_neg (by rw [h1]; simp), if_neg (by rw [h2]; simp)])
      clear hR0 h1 h2
      obtain ⟨i0, hi0, hz00, hz01, hz02⟩ := info_parts infoLab
      go_enter Tryd.func19, Tryd.ntmps19
      go_wp2_with fail
      refine (hi1 _).mono ?_
      rintro e w' ⟨rfl, rfl⟩
      go_wp2_with fail
      refine (hi2 _).mono ?_
      rintro e w' ⟨rfl, rfl⟩
      go_wp2_with fail
      have hB1 := HQ.out.1
      have B1 := HQ.out.2
      have hz1 : w.heap.size < (w.alloc (.cells #[.int .i64 0, .int .i64 0] 33)).heap.size := by simp
      clear v0 v1 f0 f1
      generalize w.alloc (.cells #[.int .i64 0, .int .i64 0] 33) = w1 at *
      go_loopw [7, 8] (fun v7 c8 wr => ∃ (i fuel : Nat) (out : List Lab), c8 = .int .i64 i ∧ wr.ownsRow (w.heap.size + 1) 42 2 v7 out.length (labCells out) ∧ Hid (takeR s (p : Int) = takeF s fuel i out) ∧ s.size ≤ i + fuel ∧ i ≤ s.size + 2 ∧ out.length ≤ 32 ∧ Blk wr w.heap.size 33 #[.int .i64 0, .int .i64 0] ∧ Below w.heap.size w wr ∧ w.heap.size < wr.heap.size) (fun _ c _ => s.size + 2 - (intOf c).toNat)
      case atStart => exact ⟨p + 1, s.size, [], by go_num, World.ownsRow_nil _ _ _ _, HR, by omega, by omega, by simp, hB1, B1, hz1⟩
      case round =>
        obtain ⟨i, fuel, out, rfl, hown, hrd, hfu, hil, hol, hB, hbw, hz⟩ := hrel
        by_cases hi : s.size ≤ i
        · have hE : takeR s (p : Int) = ([], 0, 1, s.size) := by
            rw [hrd.out]
            cases fuel with
            | zero => rfl
            | succ f => rw [takeF, if_pos hi]
          have HE := Lib.hid hE
          have HQ2 := Lib.hid (And.intro hB hbw)
          obtain ⟨⟨u0, u1⟩, ⟨g0, g1⟩⟩ := hB.c2
          have k1 : decide (i < s.size) = false := decide_eq_false (by omega)
          clear hE hB hbw hown hrd
          go_wp2_with fail
          obtain ⟨w2, e2, r0, r1, b2⟩ := fault_set (.int .i64 1) (.int .i64 s.size) HQ2.out.1 HQ2.out.2 (Nat.le_refl _)
          rw [e2]
          clear e2 u0 u1 g0 g1
          refine bodyPost_ret (by simp [results, Tryd.results19, go_sem, r0, r1]; try rfl) rfl ?_
          exact takeTells_bad HE.out b2
        · obtain ⟨f, rfl⟩ : ∃ f, fuel = f + 1 := ⟨fuel - 1, by omega⟩
          have k1 : decide (i < s.size) = true := decide_eq_true (by omega)
          obtain ⟨A, c, rfl, hlab⟩ := isLab_row hown
          by_cases h32 : out.length = 32
          · have k2 : ((out.length : Int) == 32) = true := by rw [h32]; rfl
            have hE : takeR s (p : Int) = ([], 0, 3, i) := by rw [hrd.out, takeF, if_neg hi, if_pos h32]
            have HE := Lib.hid hE
            have HQ2 := Lib.hid (And.intro hB hbw)
            obtain ⟨⟨u0, u1⟩, ⟨g0, g1⟩⟩ := hB.c2
            clear hE hB hbw hown hrd hlab h32
            go_wp2_with fail
            obtain ⟨w2, e2, r0, r1, b2⟩ := fault_set (.int .i64 3) (.int .i64 i) HQ2.out.1 HQ2.out.2 (Nat.le_refl _)
            rw [e2]
            clear e2 u0 u1 g0 g1
            refine bodyPost_ret (by simp [results, Tryd.results19, go_sem, r0, r1]; try rfl) rfl ?_
            exact takeTells_bad HE.out b2
          · have k2 : ((out.length : Int) == 32) = false := by simp; omega
            have hst : takeR s (p : Int) = takeF s (f + 1) i out := hrd.out
            rw [takeF, if_neg hi, if_neg h32] at hst
            have hsl := signs_le s i
            have hsc : ∀ w, _ := fun w => signs_any s i w hmax (by omega)
            obtain ⟨n, hn⟩ : ∃ n, signs s i = n := ⟨_, rfl⟩
            rw [hn] at hst hsl hsc
            have HN := Lib.hid hn
            have HL := Lib.hid (And.intro hown hlab)
            clear hn hown hlab hrd
            by_cases hn1 : n < 1
            · have k3 : decide ((n : Int) < 1) = true := decide_eq_true (by omega)
              have HE := Lib.hid (hst.trans (if_pos (by omega)))
              have HQ2 := Lib.hid (And.intro hB hbw)
              obtain ⟨⟨u0, u1⟩, ⟨g0, g1⟩⟩ := hB.c2
              clear hst hB hbw hn1
              go_wp2_with fail
              refine (hsc _).mono ?_
              rintro e w' ⟨rfl, rfl⟩
              go_wp2_with fail
              obtain ⟨w2, e2, r0, r1, b2⟩ := fault_set (.int .i64 4) (.int .i64 i) HQ2.out.1 HQ2.out.2 (Nat.le_refl _)
              rw [e2]
              clear e2 u0 u1 g0 g1
              refine bodyPost_ret (by simp [results, Tryd.results19, go_sem, r0, r1]; try rfl) rfl ?_
              exact takeTells_bad HE.out b2
            have k3 : decide ((n : Int) < 1) = false := decide_eq_false (by omega)
            by_cases hn2 : 32 < n
            · have k4 : decide (32 < (n : Int)) = true := decide_eq_true (by omega)
              have HE := Lib.hid (hst.trans (if_pos (by omega)))
              have HQ2 := Lib.hid (And.intro hB hbw)
              obtain ⟨⟨u0, u1⟩, ⟨g0, g1⟩⟩ := hB.c2
              clear hst hB hbw hn2
              go_wp2_with fail
              refine (hsc _).mono ?_
              rintro e w' ⟨rfl, rfl⟩
              go_wp2_with fail
              obtain ⟨w2, e2, r0, r1, b2⟩ := fault_set (.int .i64 4) (.int .i64 i) HQ2.out.1 HQ2.out.2 (Nat.le_refl _)
              rw [e2]
              clear e2 u0 u1 g0 g1
              refine bodyPost_ret (by simp [results, Tryd.results19, go_sem, r0, r1]; try rfl) rfl ?_
              exact takeTells_bad HE.out b2
            have k4 : decide (32 < (n : Int)) = false := decide_eq_false (by omega)
            rw [if_neg (by omega)] at hst
            have hin : i + n ≤ s.size := by omega
            have wpn : IntKind.i64.wrap ((i : Int) + (n : Int)) = ((i + n : Nat) : Int) := by rw [IntWalk.i64_in _ (by omega)]; omega
            have wpn1 : IntKind.i64.wrap (((i + n : Nat) : Int) + 1) = ((i + n + 1 : Nat) : Int) := by rw [IntWalk.i64_in _ (by omega)]; omega
            cases h61 : isB s (i + n) 61 with
            | false =>
              obtain ⟨⟨e, a⟩, hea⟩ : ∃ r, atN s (i + n) = r := ⟨_, rfl⟩
              have hi3 : ∀ w, _ := fun w => is_lit s (i + n) 61 w false hmax h61
              have ho : ∀ w, _ := fun w => other_lit s (i + n) e a w hea
              have HE := Lib.hid (hst.trans ((if_pos h61).trans (by rw [hea])))
              have HQ2 := Lib.hid (And.intro hB hbw)
              clear hst hB hbw h61 hea
              go_wp2_with fail
              refine (hsc _).mono ?_
              rintro e w' ⟨rfl, rfl⟩
              go_wp2_with fail
              refine (hi3 _).mono ?_
              rintro e w' ⟨rfl, rfl⟩
              go_wp2_with fail
              refine (ho _).mono ?_
              rintro r w5 ⟨rfl, b5⟩
              have hB5 := HQ2.out.1.below b5 hz
              have B5 := HQ2.out.2.trans (b5.mono (by omega))
              obtain ⟨⟨u0, u1⟩, ⟨g0, g1⟩⟩ := hB5.c2
              have HQ5 := Lib.hid (And.intro hB5 B5)
              clear hB5 B5 b5
              go_wp2_with fail
              obtain ⟨w2, e2, r0, r1, b2⟩ := fault_set (.int .i64 e) (.int .i64 a) HQ5.out.1 HQ5.out.2 (Nat.le_refl _)
              rw [e2]
              clear e2 u0 u1 g0 g1
              refine bodyPost_ret (by simp [results, Tryd.results19, go_sem, r0, r1]; try rfl) rfl ?_
              exact takeTells_bad HE.out b2
            | true =>
              have hi3 : ∀ w, _ := fun w => is_lit s (i + n) 61 w true hmax h61
              rw [if_neg (by rw [h61]; simp)] at hst
              clear h61
              have hrin := readAt_in s (i + n + 1)
              have hlt : labAt s i = (s.extract i (i + n), txt (readAt s ((i + n + 1 : Nat) : Int)).1) := by rw [labAt, HN.out]
              obtain ⟨⟨v, end_, e, a⟩, hr⟩ : ∃ r, readAt s ((i + n + 1 : Nat) : Int) = r := ⟨_, rfl⟩
              rw [hr] at hst hrin hlt
              have hrd : ∀ w, _ := fun w => refread_any s ((i + n + 1 : Nat) : Int) w hs
              have HR2 := Lib.hid hr
              have HLT := Lib.hid hlt
              have HQ2 := Lib.hid (And.intro hB hbw)
              have HST := Lib.hid hst
              have HRI := Lib.hid hrin
              clear hr hst hrin hB hbw hlt
              go_wp2_with fail
              refine (hsc _).mono ?_
              rintro e w' ⟨rfl, rfl⟩
              go_wp2_with fail
              refine (hi3 _).mono ?_
              rintro e w' ⟨rfl, rfl⟩
              go_wp2_with fail
              refine (hrd _).mono ?_
              rintro r w5 ⟨rfl, b5⟩
              rw [HR2.out]
              simp only [rdV]
              have hB5 := (HQ2.out.1.below b5 hz).alloc (.cells #[.int .i64 e, .int .i64 a] 33)
              have B5 := (HQ2.out.2.trans (b5.mono (by omega))).alloc (by have := b5.size; omega) (.cells #[.int .i64 e, .int .i64 a] 33)
              have q5 := Blk.new w5 33 #[.int .i64 e, .int .i64 a]
              have hz5 : w.heap.size < w5.heap.size := by have := b5.size; omega
              have hown5 := own_below HL.out.1 b5
              clear b5
              by_cases he : e = 0
              case neg =>
                have k5 : ((e : Int) == 0) = false := by simp; omega
                have k6 : ((e : Int) != 0) = true := by simp; omega
                have HE := Lib.hid (HST.out.trans (if_pos he))
                have HQ5 := Lib.hid (And.intro hB5 B5)
                clear he hB5 B5 hown5
                go_wp2_with fail
                generalize w5.alloc (.cells #[.int .i64 e, .int .i64 a] 33) = w6 at *
                obtain ⟨⟨y0, y1⟩, -⟩ := q5.c2
                refine wp_region_still_tail 3 (by kernel_rfl) (by kernel_rfl) ?_
                simp only [List.take_succ_cons, List.take_zero, List.drop_succ_cons, List.drop_zero]
                repeat still_step
                refine wpStill_nil ?_
                change wpList _ _ _ _ _ w6.drew
                have HQ8 := Lib.hid (And.intro HQ5.out.1.drew HQ5.out.2.drew)
                clear y0 y1 q5
                generalize w6.drew = w8 at *
                obtain ⟨⟨u0, u1⟩, ⟨g0, g1⟩⟩ := HQ8.out.1.c2
                go_wp2_with fail
                obtain ⟨w2, e2, r0, r1, b2⟩ := fault_set (.int .i64 e) (.int .i64 a) HQ8.out.1 HQ8.out.2 (Nat.le_refl _)
                rw [e2]
                clear e2 u0 u1 g0 g1
                refine bodyPost_ret (by simp [results, Tryd.results19, go_sem, r0, r1]; try rfl) rfl ?_
                exact takeTells_bad HE.out b2
              subst he
              obtain ⟨hri1, hri2, rfl⟩ := HRI.out rfl
              have HST2 := Lib.hid (HST.out.trans (if_neg (by simp)))
              have hown6 := (hown5.alloc (.cells #[.int .i64 (0 : Nat), .int .i64 (0 : Nat)] 33)).alloc (.cells #[.string (s.extract i (i + n)), .string (txt v)] 42)
              have htwo : ∀ j u, [Value.string (s.extract i (i + n)), Value.string (txt v)][j]? = some u → ((w5.alloc (.cells #[.int .i64 (0 : Nat), .int .i64 (0 : Nat)] 33)).alloc (.cells #[.string (s.extract i (i + n)), .string (txt v)] 42)).cell? ((⟨w5.heap.size + 1, 0, none⟩ : Addr).add j) = some u := by
                have := two_new (w := w5.alloc (.cells #[.int .i64 (0 : Nat), .int .i64 (0 : Nat)] 33)) (u := .string (s.extract i (i + n))) (v := .string (txt v)) (t := 42)
                simpa using this
              have HB5 := Lib.hid (And.intro hB5 B5)
              clear hB5 B5 q5 hown5 HST HRI
              go_wp2_with (at_builtin; refine wpList_append_own _ rfl _ _ 22 rfl (w.heap.size + 1) 42 i0 (.agg #[.string ⟨#[]⟩, .string ⟨#[]⟩]) 2 32 Tryd.underlying22 hi0 hz00 hz01 hz02 rfl (by decide) _ _ _ rfl hown6 ⟨w5.heap.size + 1, 0, none⟩ 1 1 [.string (s.extract i (i + n)), .string (txt v)] rfl rfl htwo (fun u hu => by simp at hu; rcases hu with rfl | rfl <;> rfl) (by unfold maxLen; omega) (by omega) (by simp; omega) ?_; intro v' w7 hown7 hgrow7 _)
              have hown8 : w7.ownsRow (w.heap.size + 1) 42 2 v' (out ++ [labAt s i]).length (labCells (out ++ [labAt s i])) := by
                rw [labCells_snoc, List.length_append, HLT.out]
                exact hown7
              have hB7 := (HB5.out.1.alloc (.cells #[.string (s.extract i (i + n)), .string (txt v)] 42)).grown hgrow7 (fun e => by have := own_ge hown6 e.symm; omega)
              have B7 := (HB5.out.2.alloc (by simp; omega) (.cells #[.string (s.extract i (i + n)), .string (txt v)] 42)).grown hgrow7 (by simp; omega) (fun j e => by have := own_ge hown6 e; omega)
              have hz7 := hB7.lt
              clear hown7 hgrow7 hown6 htwo HB5 HQ2 HL
              obtain ⟨A7, c7, rfl, hlab7⟩ := isLab_row hown8
              have hl7 : (out ++ [labAt s i]).length = out.length + 1 := by simp
              obtain ⟨out7, ho7⟩ : ∃ o, out ++ [labAt s i] = o := ⟨_, rfl⟩
              rw [ho7] at hown8 hlab7 hl7 HST2 ⊢
              have wpe1 : IntKind.i64.wrap ((end_ : Int) + 1) = ((end_ + 1 : Nat) : Int) := by rw [IntWalk.i64_in _ (by omega)]; omega
              have wpe2 : IntKind.i64.wrap ((end_ : Int) + 2) = ((end_ + 2 : Nat) : Int) := by rw [IntWalk.i64_in _ (by omega)]; omega
              have HQ7 := Lib.hid (And.intro hB7 (And.intro B7 hown8))
              clear ho7 HLT HN
              cases h125 : isB s end_ 125 with
              | true =>
                have hi4 : ∀ w, _ := fun w => is_lit s end_ 125 w true hmax h125
                have HE := Lib.hid (HST2.out.trans (if_pos h125))
                obtain ⟨⟨u0, u1⟩, ⟨g0, g1⟩⟩ := hB7.c2
                clear h125 HST2 hB7 B7 hown8 hlab7
                refine (hi4 _).mono ?_
                rintro e w' ⟨rfl, rfl⟩
                go_wp2_with fail
                obtain ⟨w2, e2, r0, r1, htt⟩ := take_good (.int .i64 0) (.int .i64 0) _ _ HE.out HQ7.out.2.2 HQ7.out.1 HQ7.out.2.1 rfl rfl
                rw [e2]
                clear e2 u0 u1 g0 g1
                refine bodyPost_ret (by simp [results, Tryd.results19, go_sem, r0, r1]; try rfl) rfl ?_
                rw [hl7] at htt
                exact htt
              | false =>
                have hi4 : ∀ w, _ := fun w => is_lit s end_ 125 w false hmax h125
                have HST3 := HST2.out.trans (if_neg (by rw [h125]; simp))
                clear h125 HST2
                cases h44 : isB s end_ 44 with
                | false =>
                  obtain ⟨⟨e, a⟩, hea⟩ : ∃ r, atN s end_ = r := ⟨_, rfl⟩
                  have hi5 : ∀ w, _ := fun w => is_lit s end_ 44 w false hmax h44
                  have ho : ∀ w, _ := fun w => other_lit s end_ e a w hea
                  have HE := Lib.hid (HST3.trans ((if_pos h44).trans (by rw [hea])))
                  clear HST3 hB7 B7 hown8 hlab7 h44 hea
                  refine (hi4 _).mono ?_
                  rintro e w' ⟨rfl, rfl⟩
                  go_wp2_with fail
                  refine (hi5 _).mono ?_
                  rintro e w' ⟨rfl, rfl⟩
                  go_wp2_with fail
                  refine (ho _).mono ?_
                  rintro r w5 ⟨rfl, b5⟩
                  have hB5 := HQ7.out.1.below b5 hz7
                  have B5 := HQ7.out.2.1.trans (b5.mono (by omega))
                  obtain ⟨⟨u0, u1⟩, ⟨g0, g1⟩⟩ := hB5.c2
                  have HQ5 := Lib.hid (And.intro hB5 B5)
                  clear hB5 B5 b5
                  go_wp2_with fail
                  obtain ⟨w2, e2, r0, r1, b2⟩ := fault_set (.int .i64 e) (.int .i64 a) HQ5.out.1 HQ5.out.2 (Nat.le_refl _)
                  rw [e2]
                  clear e2 u0 u1 g0 g1
                  refine bodyPost_ret (by simp [results, Tryd.results19, go_sem, r0, r1]; try rfl) rfl ?_
                  exact takeTells_bad HE.out b2
                | true =>
                  have hi5 : ∀ w, _ := fun w => is_lit s end_ 44 w true hmax h44
                  have HST4 := HST3.trans (if_neg (by rw [h44]; simp))
                  clear h44 HST3
                  cases h32' : isB s (end_ + 1) 32 with
                  | false =>
                    obtain ⟨⟨e, a⟩, hea⟩ : ∃ r, atN s (end_ + 1) = r := ⟨_, rfl⟩
                    have hi6 : ∀ w, _ := fun w => is_lit s (end_ + 1) 32 w false hmax h32'
                    have ho : ∀ w, _ := fun w => other_lit s (end_ + 1) e a w hea
                    have HE := Lib.hid (HST4.trans ((if_pos h32').trans (by rw [hea])))
                    clear HST4 hB7 B7 hown8 hlab7 h32' hea
                    refine (hi4 _).mono ?_
                    rintro e w' ⟨rfl, rfl⟩
                    go_wp2_with fail
                    refine (hi5 _).mono ?_
                    rintro e w' ⟨rfl, rfl⟩
                    go_wp2_with fail
                    refine (hi6 _).mono ?_
                    rintro e w' ⟨rfl, rfl⟩
                    go_wp2_with fail
                    refine (ho _).mono ?_
                    rintro r w5 ⟨rfl, b5⟩
                    have hB5 := HQ7.out.1.below b5 hz7
                    have B5 := HQ7.out.2.1.trans (b5.mono (by omega))
                    obtain ⟨⟨u0, u1⟩, ⟨g0, g1⟩⟩ := hB5.c2
                    have HQ5 := Lib.hid (And.intro hB5 B5)
                    clear hB5 B5 b5
                    go_wp2_with fail
                    obtain ⟨w2, e2, r0, r1, b2⟩ := fault_set (.int .i64 e) (.int .i64 a) HQ5.out.1 HQ5.out.2 (Nat.le_refl _)
                    rw [e2]
                    clear e2 u0 u1 g0 g1
                    refine bodyPost_ret (by simp [results, Tryd.results19, go_sem, r0, r1]; try rfl) rfl ?_
                    exact takeTells_bad HE.out b2
                  | true =>
                    have hi6 : ∀ w, _ := fun w => is_lit s (end_ + 1) 32 w true hmax h32'
                    have HE := Lib.hid (HST4.trans (if_neg (by rw [h32']; simp)))
                    clear HST4 h32'
                    refine (hi4 _).mono ?_
                    rintro e w' ⟨rfl, rfl⟩
                    go_wp2_with fail
                    refine (hi5 _).mono ?_
                    rintro e w' ⟨rfl, rfl⟩
                    go_wp2_with fail
                    refine (hi6 _).mono ?_
                    rintro e w' ⟨rfl, rfl⟩
                    go_wp2_with fail
                    go_roundw
                    case rel => exact ⟨end_ + 2, f, out7, by go_num, (by rw [← hl7]; exact HQ7.out.2.2), HE, by omega, by omega, by omega, HQ7.out.1, HQ7.out.2.1, hz7⟩
                    case measure => simp [intOf]; omega
end Go.Proofs.YtgdfklgbdfpinaaDoor
