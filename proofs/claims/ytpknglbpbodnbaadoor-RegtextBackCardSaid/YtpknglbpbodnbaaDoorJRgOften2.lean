/-
  The walk of the program's often. Conditions: a part may come so often; the table of marks lies as laid.
-/
import Derived.Test.YtpknglbpbodnbaaDoorJRgBuild
import Derived.Test.YtpknglbpbodnbaaDoorJRgOften
namespace Go.Proofs.YtpknglbpbodnbaaDoor
set_option linter.unusedVariables false
set_option linter.unusedSimpArgs false
open Go.RowKit Go.Sort Cs Rg Go.ChangeShapes Go.WideShapes

/-- the table of marks -/
def marksC : Array Value := #[.int .i64 0, .int .i64 (-1), .string ⟨#[42]⟩, .int .i64 1, .int .i64 (-1), .string ⟨#[43]⟩, .int .i64 0, .int .i64 1, .string ⟨#[63]⟩]
def MarksIn (w : World) : Prop := 0 < w.heap.size ∧ ∀ j v, marksC[j]? = some v → w.cell? ⟨0, j, none⟩ = some v
theorem MarksIn.below {w w' : World} (h : MarksIn w) (hb : Below w.heap.size w w') : MarksIn w' :=
  ⟨by have := hb.size; have := h.1; omega, fun j v hj => (hb.cell (p := ⟨0, j, none⟩) h.1).trans (h.2 j v hj)⟩
theorem dec_num {n : Int} (h0 : 0 ≤ n) (h1 : n ≤ 16) : (⟨(Lib.decDigits n.toNat).toArray⟩ : ByteArray) = bsT (numT n) := by
  obtain ⟨m, rfl⟩ := Int.eq_ofNat_of_zero_le h0
  rw [Int.toNat_natCast]
  have hm : m ≤ 16 := by omega
  unfold numT
  by_cases h : m < 10
  · rw [if_pos (by omega), Lib.decDigits, dif_pos h]
    have : (48 + (m : Int)).toNat = 48 + m := by omega
    rw [this]
    rfl
  · rw [if_neg (by omega), Lib.decDigits, dif_neg h, Lib.decDigits, dif_pos (by omega)]
    have e1 : (48 + (m : Int) / 10).toNat = 48 + m / 10 := by omega
    have e2 : (48 + (m : Int) % 10).toNat = 48 + m % 10 := by omega
    rw [e1, e2]
    rfl
theorem itoa_any (n : Int) (w : World) (h0 : 0 ≤ n) (h1 : n ≤ 16) :
    Calls Tryd.prog 44 #[.int .i64 n] w fun e w' => e = .returned (.string (bsT (numT n))) ∧ w' = w := by
  have h := strconv_Itoa_small n.toNat (by omega) w
  rw [dec_num h0 h1, Int.toNat_of_nonneg h0] at h
  exact h
set_option maxHeartbeats 8000000 in
set_option maxRecDepth 1000000 in
theorem often_any (x y : Int) (w : World) (ht : timesB x y = true) (hM : MarksIn w) :
    Calls Tryd.prog 24 #[.int .i64 x, .int .i64 y] w fun e w' => e = .returned (.string (bsT (oftenT x y))) ∧ Below w.heap.size w w' := by
  have hx : 0 ≤ x ∧ x ≤ 16 ∧ (y = -1 ∨ (1 ≤ y ∧ x ≤ y ∧ y ≤ 16)) := by
    simp only [timesB, Bool.and_eq_true, Bool.or_eq_true, decide_eq_true_eq] at ht
    omega
  obtain ⟨R, hR⟩ : ∃ R, bsT (oftenT x y) = R := ⟨_, rfl⟩
  have HR := Lib.hid hR
  rw [hR]
  clear hR ht
  have m0 : w.cell? ⟨0, 0, none⟩ = some (.int .i64 0) := hM.2 0 _ rfl
  have m1 : w.cell? ⟨0, 1, none⟩ = some (.int .i64 (-1)) := hM.2 1 _ rfl
  have m2 : w.cell? ⟨0, 2, none⟩ = some (.string ⟨#[42]⟩) := hM.2 2 _ rfl
  have m3 : w.cell? ⟨0, 3, none⟩ = some (.int .i64 1) := hM.2 3 _ rfl
  have m4 : w.cell? ⟨0, 4, none⟩ = some (.int .i64 (-1)) := hM.2 4 _ rfl
  have m5 : w.cell? ⟨0, 5, none⟩ = some (.string ⟨#[43]⟩) := hM.2 5 _ rfl
  have m6 : w.cell? ⟨0, 6, none⟩ = some (.int .i64 0) := hM.2 6 _ rfl
  have m7 : w.cell? ⟨0, 7, none⟩ = some (.int .i64 1) := hM.2 7 _ rfl
  have m8 : w.cell? ⟨0, 8, none⟩ = some (.string ⟨#[63]⟩) := hM.2 8 _ rfl
  clear hM
  go_enter Tryd.func24, Tryd.ntmps24
  go_wp2_with fail
  go_loopw [9] (fun c wr => ∃ i : Nat, i ≤ 3 ∧ c = .int .i64 (i : Int) ∧ Hid ((0 < i → ¬ (x = 0 ∧ y = -1)) ∧ (1 < i → ¬ (x = 1 ∧ y = -1)) ∧ (2 < i → ¬ (x = 0 ∧ y = 1))) ∧ Below w.heap.size w wr) (fun c _ => 3 - (intOf c).toNat)
  case atStart => exact ⟨0, by omega, rfl, Lib.hid (by omega), Below.refl _ _⟩
  case round =>
    obtain ⟨i, hi, rfl, X, hb⟩ := hrel
    clear m0 m1 m2 m3 m4 m5 m6 m7 m8
    have hi4 : i = 0 ∨ i = 1 ∨ i = 2 ∨ i = 3 := by omega
    rcases hi4 with rfl | rfl | rfl | rfl
    · skip
      have hidx : ∀ w, (Instr.index 77 (.agg #[.int .i64 0, .int .i64 (-1), .string ⟨#[42]⟩, .int .i64 1, .int .i64 (-1), .string ⟨#[43]⟩, .int .i64 0, .int .i64 1, .string ⟨#[63]⟩]) (.int .i64 (0 : Int))).run Tryd.prog w = .ok (.agg #[.int .i64 0, .int .i64 (-1), .string ⟨#[42]⟩]) w := fun w => by kernel_rfl
      by_cases c1 : x = 0
      · have q1 : ((0 : Int) == x) = true := by rw [c1]; rfl
        by_cases c2 : y = (-1)
        · have q2 : (((-1) : Int) == y) = true := by rw [c2]; rfl
          have HC := Lib.hid (And.intro c1 c2)
          clear c1 c2
          go_wp2_with fail
          go_ret
          exact ⟨ret_str (by rw [← HR.out, HC.out.1, HC.out.2]; rfl), hb.alloc hb.size _⟩
        · have q2 : (((-1) : Int) == y) = false := by rw [beq_eq_false_iff_ne]; exact fun e => c2 e.symm
          have HC := Lib.hid (And.intro c1 c2)
          clear c1 c2
          go_wp2_with fail
          go_roundw
          case rel => exact ⟨1, by omega, rfl, Lib.hid (by have := HC.out; have := X.out; omega), hb.alloc hb.size _⟩
          case measure => simp [intOf]
      · have q1 : ((0 : Int) == x) = false := by rw [beq_eq_false_iff_ne]; exact fun e => c1 e.symm
        have HC := Lib.hid c1
        clear c1
        go_wp2_with fail
        go_roundw
        case rel => exact ⟨1, by omega, rfl, Lib.hid (by have := HC.out; have := X.out; omega), hb.alloc hb.size _⟩
        case measure => simp [intOf]
    · skip
      have hidx : ∀ w, (Instr.index 77 (.agg #[.int .i64 0, .int .i64 (-1), .string ⟨#[42]⟩, .int .i64 1, .int .i64 (-1), .string ⟨#[43]⟩, .int .i64 0, .int .i64 1, .string ⟨#[63]⟩]) (.int .i64 (1 : Int))).run Tryd.prog w = .ok (.agg #[.int .i64 1, .int .i64 (-1), .string ⟨#[43]⟩]) w := fun w => by kernel_rfl
      by_cases c1 : x = 1
      · have q1 : ((1 : Int) == x) = true := by rw [c1]; rfl
        by_cases c2 : y = (-1)
        · have q2 : (((-1) : Int) == y) = true := by rw [c2]; rfl
          have HC := Lib.hid (And.intro c1 c2)
          clear c1 c2
          go_wp2_with fail
          go_ret
          exact ⟨ret_str (by rw [← HR.out, HC.out.1, HC.out.2]; rfl), hb.alloc hb.size _⟩
        · have q2 : (((-1) : Int) == y) = false := by rw [beq_eq_false_iff_ne]; exact fun e => c2 e.symm
          have HC := Lib.hid (And.intro c1 c2)
          clear c1 c2
          go_wp2_with fail
          go_roundw
          case rel => exact ⟨2, by omega, rfl, Lib.hid (by have := HC.out; have := X.out; omega), hb.alloc hb.size _⟩
          case measure => simp [intOf]
      · have q1 : ((1 : Int) == x) = false := by rw [beq_eq_false_iff_ne]; exact fun e => c1 e.symm
        have HC := Lib.hid c1
        clear c1
        go_wp2_with fail
        go_roundw
        case rel => exact ⟨2, by omega, rfl, Lib.hid (by have := HC.out; have := X.out; omega), hb.alloc hb.size _⟩
        case measure => simp [intOf]
    · skip
      have hidx : ∀ w, (Instr.index 77 (.agg #[.int .i64 0, .int .i64 (-1), .string ⟨#[42]⟩, .int .i64 1, .int .i64 (-1), .string ⟨#[43]⟩, .int .i64 0, .int .i64 1, .string ⟨#[63]⟩]) (.int .i64 (2 : Int))).run Tryd.prog w = .ok (.agg #[.int .i64 0, .int .i64 1, .string ⟨#[63]⟩]) w := fun w => by kernel_rfl
      by_cases c1 : x = 0
      · have q1 : ((0 : Int) == x) = true := by rw [c1]; rfl
        by_cases c2 : y = 1
        · have q2 : ((1 : Int) == y) = true := by rw [c2]; rfl
          have HC := Lib.hid (And.intro c1 c2)
          clear c1 c2
          go_wp2_with fail
          go_ret
          exact ⟨ret_str (by rw [← HR.out, HC.out.1, HC.out.2]; rfl), hb.alloc hb.size _⟩
        · have q2 : ((1 : Int) == y) = false := by rw [beq_eq_false_iff_ne]; exact fun e => c2 e.symm
          have HC := Lib.hid (And.intro c1 c2)
          clear c1 c2
          go_wp2_with fail
          go_roundw
          case rel => exact ⟨3, by omega, rfl, Lib.hid (by have := HC.out; have := X.out; omega), hb.alloc hb.size _⟩
          case measure => simp [intOf]
      · have q1 : ((0 : Int) == x) = false := by rw [beq_eq_false_iff_ne]; exact fun e => c1 e.symm
        have HC := Lib.hid c1
        clear c1
        go_wp2_with fail
        go_roundw
        case rel => exact ⟨3, by omega, rfl, Lib.hid (by have := HC.out; have := X.out; omega), hb.alloc hb.size _⟩
        case measure => simp [intOf]
    · have hX := X.out
      have hF : oftenT x y = if y = x then 123 :: (numT x ++ [125]) else if y = -1 then 123 :: (numT x ++ [44, 125]) else 123 :: (numT x ++ 44 :: (numT y ++ [125])) := by
        unfold oftenT
        rw [if_neg (hX.1 (by omega)), if_neg (hX.2.1 (by omega)), if_neg (hX.2.2 (by omega))]
      have HF := Lib.hid hF
      clear hX hF X hi
      go_wp2_with fail
      refine (itoa_any x _ (by omega) (by omega)).mono ?_
      rintro e w1 ⟨rfl, rfl⟩
      obtain ⟨ts, hts⟩ : ∃ ts, bsT (numT x) = ts := ⟨_, rfl⟩
      rw [hts]
      have zts : ts.size ≤ 2 := by rw [← hts, bsT_size]; exact numT_small (by omega) (by omega)
      have T1 := Lib.hid hts
      clear hts
      by_cases c4 : y = x
      · have k1 : (y == x) = true := by rw [c4]; simp
        have HC := Lib.hid c4
        clear c4
        go_wp2_with fail
        go_ret
        exact ⟨ret_str (by rw [← HR.out, HF.out, if_pos HC.out, ← T1.out, show (⟨#[123]⟩ : ByteArray) = bsT [123] from rfl, show (⟨#[125]⟩ : ByteArray) = bsT [125] from rfl, bsT_app, bsT_app]; simp), hb⟩
      have k1 : (y == x) = false := by rw [beq_eq_false_iff_ne]; exact c4
      by_cases c5 : y = -1
      · have k2 : (y == -1) = true := by rw [c5]; rfl
        have HC := Lib.hid (And.intro c4 c5)
        clear c4 c5
        go_wp2_with fail
        go_ret
        exact ⟨ret_str (by rw [← HR.out, HF.out, if_neg HC.out.1, if_pos HC.out.2, ← T1.out, show (⟨#[123]⟩ : ByteArray) = bsT [123] from rfl, show (⟨#[44, 125]⟩ : ByteArray) = bsT [44, 125] from rfl, bsT_app, bsT_app]; simp), hb⟩
      have k2 : (y == -1) = false := by rw [beq_eq_false_iff_ne]; exact c5
      have HC := Lib.hid (And.intro c4 c5)
      have hy : 1 ≤ y ∧ y ≤ 16 := by omega
      clear c4 c5
      go_wp2_with fail
      refine (itoa_any y _ (by omega) (by omega)).mono ?_
      rintro e w1 ⟨rfl, rfl⟩
      obtain ⟨us, hus⟩ : ∃ ts, bsT (numT y) = ts := ⟨_, rfl⟩
      rw [hus]
      have zus : us.size ≤ 2 := by rw [← hus, bsT_size]; exact numT_small (by omega) (by omega)
      have T2 := Lib.hid hus
      clear hus
      go_wp2_with fail
      go_ret
      exact ⟨ret_str (by rw [← HR.out, HF.out, if_neg HC.out.1, if_neg HC.out.2, ← T1.out, ← T2.out, show (⟨#[123]⟩ : ByteArray) = bsT [123] from rfl, show (⟨#[44]⟩ : ByteArray) = bsT [44] from rfl, show (⟨#[125]⟩ : ByteArray) = bsT [125] from rfl, bsT_app, bsT_app, bsT_app, bsT_app]; simp), hb⟩
end Go.Proofs.YtpknglbpbodnbaaDoor
