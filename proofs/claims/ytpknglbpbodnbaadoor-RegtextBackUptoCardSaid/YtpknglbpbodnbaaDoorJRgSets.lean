/-
  The walks of the reference's With, Between, Or, First, Digits, Words, and of the program's digits, words. Conditions: bytes; the words fit.
-/
import Derived.Test.YtpknglbpbodnbaaDoorJRgRefSign
import Derived.Test.YtpknglbpbodnbaaDoorJRgMem
namespace Go.Proofs.YtpknglbpbodnbaaDoor
set_option linter.unusedVariables false
set_option linter.unusedSimpArgs false
open Go.RowKit Go.Sort Cs Rg Go.ChangeShapes Go.WideShapes

theorem or_two (x r : Nat) (hx : x < 2 ^ 64) (hr : r < 64) (h : x.testBit r = false) : x + 2 ^ r = x ||| 2 ^ r := by
  have hp : 2 ^ r < 2 ^ 64 := Nat.pow_lt_pow_right (by omega) hr
  have h0 : BitVec.ofNat 64 x &&& BitVec.ofNat 64 (2 ^ r) = BitVec.ofNat 64 0 := by
    apply BitVec.eq_of_getLsbD_eq
    intro i hi
    rw [BitVec.getLsbD_and, BitVec.getLsbD_ofNat, BitVec.getLsbD_ofNat, Nat.testBit_two_pow]
    by_cases e : r = i
    · subst e; simp [h]
    · simp [e]
  have h1 := BitVec.add_eq_or_of_and_eq_zero _ _ h0
  have h2 := congrArg BitVec.toNat h1
  rw [BitVec.toNat_add, BitVec.toNat_or, BitVec.toNat_ofNat, BitVec.toNat_ofNat, Nat.mod_eq_of_lt hx, Nat.mod_eq_of_lt hp] at h2
  have h3 : x + 2 ^ r < 2 ^ 64 := by
    have h4 : x + 2 ^ r < 2 ^ 64 ∨ 2 ^ 64 ≤ x + 2 ^ r := by omega
    rcases h4 with h4 | h4
    · exact h4
    · exfalso
      have h5 : x / 2 ^ r % 2 = 0 := by
        have := Nat.testBit_eq_decide_div_mod_eq (x := x) (i := r)
        rw [h] at this
        have := of_decide_eq_false this.symm
        omega
      obtain ⟨m, hm⟩ : ∃ m, 64 - r = m + 1 := ⟨64 - r - 1, by omega⟩
      have e64 : 2 ^ 64 = 2 ^ r * (2 * 2 ^ m) := by
        rw [show (64 : Nat) = r + (m + 1) from by omega, Nat.pow_add, Nat.pow_succ, Nat.mul_comm (2 ^ m) 2]
      have hpos : 0 < 2 ^ r := Nat.pow_pos (by omega)
      have h6 : x / 2 ^ r < 2 * 2 ^ m := Nat.div_lt_of_lt_mul (by rw [← e64]; exact hx)
      have h7 : x / 2 ^ r + 1 < 2 * 2 ^ m := by omega
      have h8 : x < 2 ^ r * (x / 2 ^ r + 1) := by
        have := Nat.div_add_mod x (2 ^ r)
        have := Nat.mod_lt x hpos
        rw [Nat.mul_add]
        omega
      have h9 : 2 ^ r * (x / 2 ^ r + 1) + 2 ^ r ≤ 2 ^ r * (2 * 2 ^ m) := by
        have := Nat.mul_le_mul_left (2 ^ r) h7
        rw [Nat.mul_succ] at this
        exact this
      omega
  rw [Nat.mod_eq_of_lt h3] at h2
  exact h2
theorem addS_had (s : Nat → Int) (b : Nat) (hs : SetIn s) (hb : b < 256) (h : hasS s b = true) : setV (addS s b) = setV s := by
  have e := fun i hi => Cs.ext (addS s b) s (addIn hs b) hs (fun c hc => by
    rw [has_add _ _ _ hs]
    by_cases e : c = b
    · subst e; simp [h]
    · simp [e]) i hi
  unfold setV
  rw [e 0 (by omega), e 1 (by omega), e 2 (by omega), e 3 (by omega)]
theorem pow_u64 (k : Nat) (h : k < 64) : IntKind.u64.wrap ((2 : Int) ^ k * 1) = (2 : Int) ^ k := by
  have h1 : (2 : Int) ^ k = ((2 ^ k : Nat) : Int) := by push_cast; rfl
  have h2 := pow64 k h
  rw [h1, Int.mul_one]
  generalize 2 ^ k = p at *
  exact IntWalk.u64_in _ (by omega)
theorem wrapU {n : Nat} (h : n < 18446744073709551616) : IntKind.u64.wrap (n : Int) = (n : Int) := IntWalk.u64_in _ (by omega)
set_option maxHeartbeats 8000000 in
set_option maxRecDepth 1000000 in
theorem refwith_any (s : Nat → Int) (b : Nat) (w : World) (hb : b < 256) (hs : SetIn s) :
    Calls Tryd.prog 50 #[setV s, .int .i64 (b : Int)] w fun e w' => e = .returned (setV (addS s b)) ∧ Below w.heap.size w w' := by
  have hix := fun w => refhas_any s b w (by omega) (by omega) hs
  rw [Int.toNat_natCast] at hix
  obtain ⟨f, hf⟩ : ∃ f, addS s b = f := ⟨_, rfl⟩
  have HR := Lib.hid hf
  have hfin := addIn hs b
  rw [hf] at hfin
  rw [hf]
  have k1 : decide ((b : Int) < 0) = false := decide_eq_false (by omega)
  have k2 : decide ((255 : Int) < (b : Int)) = false := decide_eq_false (by omega)
  cases hc : hasS s b with
  | true =>
    rw [hc] at hix
    have HIX := Lib.hid hix
    have HA := Lib.hid (addS_had s b hs hb hc)
    clear hix hc hf
    unfold setV at HIX HA ⊢
    go_enter Tryd.func50, Tryd.ntmps50
    go_wp2_with fail
    have f1 := (Four.new w s 24).old (.cells #[.int .u64 0, .int .u64 0, .int .u64 0, .int .u64 0] 24) (by simp)
    have f3 := Four.zero (w.alloc (.cells #[.int .u64 (s 0), .int .u64 (s 1), .int .u64 (s 2), .int .u64 (s 3)] 24)) 24
    have b1 : Below w.heap.size w ((w.alloc (.cells #[.int .u64 (s 0), .int .u64 (s 1), .int .u64 (s 2), .int .u64 (s 3)] 24)).alloc (.cells #[.int .u64 0, .int .u64 0, .int .u64 0, .int .u64 0] 24)) :=
      ((Below.refl _ _).alloc (Nat.le_refl _) _).alloc (by simp) _
    have hz : w.heap.size + 1 < ((w.alloc (.cells #[.int .u64 (s 0), .int .u64 (s 1), .int .u64 (s 2), .int .u64 (s 3)] 24)).alloc (.cells #[.int .u64 0, .int .u64 0, .int .u64 0, .int .u64 0] 24)).heap.size := by simp
    simp only [World.size_alloc] at f3
    have F := Lib.hid (And.intro f1 (And.intro f3 (And.intro b1 hz)))
    clear f1 f3 b1 hz
    generalize (w.alloc (.cells #[.int .u64 (s 0), .int .u64 (s 1), .int .u64 (s 2), .int .u64 (s 3)] 24)).alloc (.cells #[.int .u64 0, .int .u64 0, .int .u64 0, .int .u64 0] 24) = w0 at *
    refine (HIX.out _).mono ?_
    rintro e w1 ⟨rfl, bx⟩
    have g1 := F.out.1.below bx (by have := F.out.2.2.2; omega)
    have g2 := F.out.2.1.below bx F.out.2.2.2
    have c0 := g1.cell 0 (by omega)
    have c1 := g1.cell 1 (by omega)
    have c2 := g1.cell 2 (by omega)
    have c3 := g1.cell 3 (by omega)
    have z := g2.free
    have r0 := g2.cell 0 (by omega)
    have r1 := g2.cell 1 (by omega)
    have r2 := g2.cell 2 (by omega)
    have r3 := g2.cell 3 (by omega)
    have HB := Lib.hid (F.out.2.2.1.trans (bx.mono F.out.2.2.1.size))
    clear bx F g1
    go_wp2_with fail
    refine bodyPost_ret (v := setV s) (by simp [results, Tryd.results50, go_sem, setV, r0, r1, r2, r3]) rfl ⟨?_, below_set4 HB.out _ _ _ _ (by omega)⟩
    unfold setV
    rw [← HA.out, HR.out]
  | false =>
    rw [hc] at hix
    have HIX := Lib.hid hix
    have HC := Lib.hid hc
    clear hix hc hf
    unfold setV at HIX ⊢
    obtain ⟨q, hq⟩ : ∃ q : Nat, b / 64 = q := ⟨_, rfl⟩
    obtain ⟨r, hr⟩ : ∃ r : Nat, b % 64 = r := ⟨_, rfl⟩
    have hq4 : q < 4 := by omega
    have hr4 : r < 64 := by omega
    have eq1 : (b : Int) / 64 = (q : Int) := by omega
    have er1 : (b : Int).tmod 64 = (r : Int) := by rw [Int.tmod_eq_emod_of_nonneg (by omega)]; omega
    have HQ := Lib.hid (And.intro hq hr)
    clear hq hr
    go_enter Tryd.func50, Tryd.ntmps50
    go_wp2_with fail
    have f1 := (Four.new w s 24).old (.cells #[.int .u64 0, .int .u64 0, .int .u64 0, .int .u64 0] 24) (by simp)
    have f3 := Four.zero (w.alloc (.cells #[.int .u64 (s 0), .int .u64 (s 1), .int .u64 (s 2), .int .u64 (s 3)] 24)) 24
    have b1 : Below w.heap.size w ((w.alloc (.cells #[.int .u64 (s 0), .int .u64 (s 1), .int .u64 (s 2), .int .u64 (s 3)] 24)).alloc (.cells #[.int .u64 0, .int .u64 0, .int .u64 0, .int .u64 0] 24)) :=
      ((Below.refl _ _).alloc (Nat.le_refl _) _).alloc (by simp) _
    have hz : w.heap.size + 1 < ((w.alloc (.cells #[.int .u64 (s 0), .int .u64 (s 1), .int .u64 (s 2), .int .u64 (s 3)] 24)).alloc (.cells #[.int .u64 0, .int .u64 0, .int .u64 0, .int .u64 0] 24)).heap.size := by simp
    simp only [World.size_alloc] at f3
    have F := Lib.hid (And.intro f1 (And.intro f3 (And.intro b1 hz)))
    clear f1 f3 b1 hz
    generalize (w.alloc (.cells #[.int .u64 (s 0), .int .u64 (s 1), .int .u64 (s 2), .int .u64 (s 3)] 24)).alloc (.cells #[.int .u64 0, .int .u64 0, .int .u64 0, .int .u64 0] 24) = w0 at *
    refine (HIX.out _).mono ?_
    rintro e w1 ⟨rfl, bx⟩
    have g1 := F.out.1.below bx (by have := F.out.2.2.2; omega)
    have g2 := F.out.2.1.below bx F.out.2.2.2
    have HB := Lib.hid (F.out.2.2.1.trans (bx.mono F.out.2.2.1.size))
    have G1 := Lib.hid g1
    have G2 := Lib.hid g2
    clear bx F g1 g2
    go_wp2_with fail
    go_loopw [5, 6] (fun x c wr => ∃ k : Nat, k ≤ r ∧ x = .int .u64 ((2 ^ k : Nat) : Int) ∧ c = .int .i64 (k : Int) ∧ w1 = wr) (fun _ c _ => 64 - (intOf c).toNat)
    case atStart => refine ⟨0, by omega, ?_⟩; simp
    case round =>
      obtain ⟨k, hk, rfl, rfl, rfl⟩ := hrel
      have hp2 : 2 ^ k < 18446744073709551616 := pow64 k (by omega)
      obtain ⟨p, hp⟩ : ∃ p, 2 ^ k = p := ⟨_, rfl⟩
      rw [hp] at hp2 ⊢
      have HP := Lib.hid hp
      clear hp
      by_cases hkr : k < r
      · have k3 : decide ((k : Int) < (r : Int)) = true := decide_eq_true (by omega)
        have k4 : decide (k < r) = true := decide_eq_true (by omega)
        have hp3 : 2 ^ (k + 1) < 18446744073709551616 := pow64 (k + 1) (by omega)
        rw [Nat.pow_succ, HP.out] at hp3
        have hpw : IntKind.u64.wrap ((p : Int) * 2) = ((p * 2 : Nat) : Int) := by
          rw [show (p : Int) * 2 = ((p * 2 : Nat) : Int) by omega]
          exact wrapU hp3
        go_wp2_with fail
        go_roundw
        case rel => exact ⟨k + 1, by omega, by rw [Nat.pow_succ, HP.out]; try rfl, by go_num, by first | trivial | rfl⟩
        case measure => simp [intOf]; omega
      · have k3 : decide ((k : Int) < (r : Int)) = false := decide_eq_false (by omega)
        have k4 : decide (k < r) = false := decide_eq_false (by omega)
        obtain rfl : k = r := by omega
        have c1 := G1.out.cell q hq4
        have z1 := G1.out.free q
        have hs1 := hs q
        have HS := Lib.hid hs
        obtain ⟨a, ha⟩ : ∃ a, s q = a := ⟨_, rfl⟩
        rw [ha] at c1 hs1
        have hq5 : (q : Int) < 4 := by omega
        have wq : IntKind.i64.wrap (q : Int) = q := IntWalk.i64_in _ (by omega)
        have hsum : IntKind.u64.wrap (a + (p : Int)) = f q := by
          rw [← HR.out]
          unfold addS
          rw [HQ.out.1, HQ.out.2, if_pos rfl, HP.out, ha]
          have hbit : a.toNat.testBit k = false := by
            have := has_bit s b hs
            rw [HC.out, HQ.out.1, HQ.out.2, ha] at this
            exact this.symm
          have h2 := or_two a.toNat k (by omega) hr4 hbit
          have h3 := @Nat.or_lt_two_pow a.toNat (2 ^ k) 64 (by omega) (pow64 k hr4)
          rw [HP.out] at h2 h3
          rw [← h2] at h3 ⊢
          rw [show a + (p : Int) = ((a.toNat + p : Nat) : Int) by omega]
          exact wrapU (by omega)
        obtain ⟨v, hv⟩ : ∃ v, f q = v := ⟨_, rfl⟩
        rw [hv] at hsum
        have HV := Lib.hid hv
        have HSA := Lib.hid ha
        have hstep : ∀ i, i < 4 → (if i = q then v else s i) = f i := fun i hi => by
          by_cases e : i = q
          · subst e; rw [if_pos rfl, hv]
          · rw [if_neg e, ← HR.out]
            unfold addS
            rw [HQ.out.1, if_neg e]
        have g1 := (G1.out.set v hq4).to hstep
        have g2 := G2.out.far (g' := w.heap.size) (i := q) (.int .u64 v) (by omega)
        have hB2 : Below w.heap.size w (w1.setCell ⟨w.heap.size, q, none⟩ (.int .u64 v)) := Below.setCell HB.out (Nat.le_refl _) _
        have d0 := g1.cell 0 (by omega)
        have d1 := g1.cell 1 (by omega)
        have d2 := g1.cell 2 (by omega)
        have d3 := g1.cell 3 (by omega)
        have r0 := g2.cell 0 (by omega)
        have r1 := g2.cell 1 (by omega)
        have r2 := g2.cell 2 (by omega)
        have r3 := g2.cell 3 (by omega)
        have z := g2.free
        have HB2 := Lib.hid hB2
        clear ha hv hs hstep g1 g2 hB2
        go_wp2_with fail
        refine bodyPost_ret (v := setV f) (by simp [results, Tryd.results50, go_sem, setV, r0, r1, r2, r3]) rfl ⟨rfl, below_set4 HB2.out _ _ _ _ (by omega)⟩
set_option maxHeartbeats 8000000 in
set_option maxRecDepth 1000000 in
theorem refbetween_any (lo hi : Nat) (w : World) (h0 : lo < 256) (h1 : hi < 256) :
    Calls Tryd.prog 49 #[.int .i64 (lo : Int), .int .i64 (hi : Int)] w fun e w' => e = .returned (setV (ofS lo hi)) ∧ Below w.heap.size w w' := by
  go_enter Tryd.func49, Tryd.ntmps49
  go_wp2_with fail
  have f1 := (Four.zero w 24).old (.cells #[.int .u64 0, .int .u64 0, .int .u64 0, .int .u64 0] 24) (by simp)
  have f3 := Four.zero (w.alloc (.cells #[.int .u64 0, .int .u64 0, .int .u64 0, .int .u64 0] 24)) 24
  have b1 : Below w.heap.size w ((w.alloc (.cells #[.int .u64 0, .int .u64 0, .int .u64 0, .int .u64 0] 24)).alloc (.cells #[.int .u64 0, .int .u64 0, .int .u64 0, .int .u64 0] 24)) :=
    ((Below.refl _ _).alloc (Nat.le_refl _) _).alloc (by simp) _
  have hz : w.heap.size + 1 < ((w.alloc (.cells #[.int .u64 0, .int .u64 0, .int .u64 0, .int .u64 0] 24)).alloc (.cells #[.int .u64 0, .int .u64 0, .int .u64 0, .int .u64 0] 24)).heap.size := by simp
  simp only [World.size_alloc] at f3
  have F := Lib.hid (And.intro f1 (And.intro f3 (And.intro b1 hz)))
  clear f1 f3 b1 hz
  generalize (w.alloc (.cells #[.int .u64 0, .int .u64 0, .int .u64 0, .int .u64 0] 24)).alloc (.cells #[.int .u64 0, .int .u64 0, .int .u64 0, .int .u64 0] 24) = w0 at *
  go_loopw [6] (fun c wr => ∃ n b : Nat, b = lo + n ∧ n ≤ hi + 1 - lo ∧ b ≤ 256 ∧ c = .int .i64 (b : Int) ∧ Hid (Four wr (w.heap.size + 1) (spanS lo n)) ∧ Hid (Four wr w.heap.size noneS) ∧ Hid (Below w.heap.size w wr ∧ w.heap.size + 1 < wr.heap.size)) (fun c _ => 256 - (intOf c).toNat)
  case atStart => exact ⟨0, lo, rfl, by omega, by omega, rfl, Lib.hid F.out.2.1, Lib.hid F.out.1, Lib.hid (And.intro F.out.2.2.1 F.out.2.2.2)⟩
  case round =>
    clear F
    obtain ⟨n, b, hbn, hn, hb, rfl, G1, G3, HB⟩ := hrel
    have HBN := Lib.hid hbn
    clear hbn
    by_cases hlt : b ≤ hi
    · have k1 : decide ((b : Int) ≤ (hi : Int)) = true := decide_eq_true (by omega)
      have k2 : decide (b ≤ hi) = true := decide_eq_true hlt
      have hfin := spanIn lo n
      have hst : spanS lo (n + 1) = addS (spanS lo n) b := by rw [HBN.out]; rfl
      obtain ⟨f', hf'⟩ : ∃ f', spanS lo (n + 1) = f' := ⟨_, rfl⟩
      rw [hf'] at hst
      have HN := Lib.hid hf'
      have g1 := G1.out
      obtain ⟨f, hf⟩ : ∃ f, spanS lo n = f := ⟨_, rfl⟩
      rw [hf] at g1 hfin hst
      have HF := Lib.hid hf
      have hw := fun w => refwith_any f b w (by omega) hfin
      rw [← hst] at hw
      have HW := Lib.hid hw
      have c0 := g1.cell 0 (by omega)
      have c1 := g1.cell 1 (by omega)
      have c2 := g1.cell 2 (by omega)
      have c3 := g1.cell 3 (by omega)
      clear hf hw hf' hst g1
      go_wp2_with fail
      refine (HW.out _).mono ?_
      rintro e w1 ⟨rfl, bx⟩
      have hsz := bx.size
      have g1 := G1.out.below bx HB.out.2
      have g3 := G3.out.below bx (by have := HB.out.2; omega)
      have HB1 := Lib.hid (And.intro (HB.out.1.trans (bx.mono HB.out.1.size)) (Nat.lt_of_lt_of_le HB.out.2 hsz))
      have r0 := g1.cell 0 (by omega)
      have r1 := g1.cell 1 (by omega)
      have r2 := g1.cell 2 (by omega)
      have r3 := g1.cell 3 (by omega)
      have z := g1.free
      have G := Lib.hid (And.intro g1 g3)
      clear bx hsz g1 g3 c0 c1 c2 c3
      go_wp2_with fail
      have e1 := G.out.1.set4 f'
      have e3 := G.out.2.far4 (g' := w.heap.size + 1) (.int .u64 (f' 0)) (.int .u64 (f' 1)) (.int .u64 (f' 2)) (.int .u64 (f' 3)) (by omega)
      have e4 := below_set4 (g := w.heap.size + 1) HB1.out.1 (.int .u64 (f' 0)) (.int .u64 (f' 1)) (.int .u64 (f' 2)) (.int .u64 (f' 3)) (by omega)
      go_roundw
      case rel => exact ⟨n + 1, b + 1, by rw [HBN.out]; omega, by have := HBN.out; omega, by omega, by go_num, Lib.hid (by rw [HN.out]; exact e1), Lib.hid e3, Lib.hid (And.intro e4 (by simp only [World.size_setCell]; exact HB1.out.2))⟩
      case measure => simp [intOf]; omega
    · have k1 : decide ((b : Int) ≤ (hi : Int)) = false := decide_eq_false (by omega)
      have k2 : decide (b ≤ hi) = false := decide_eq_false hlt
      have e : n = hi + 1 - lo := by have := HBN.out; omega
      have g := G1.out
      rw [e, show spanS lo (hi + 1 - lo) = ofS lo hi from rfl] at g
      clear e
      have c0 := g.cell 0 (by omega)
      have c1 := g.cell 1 (by omega)
      have c2 := g.cell 2 (by omega)
      have c3 := g.cell 3 (by omega)
      have r0 := G3.out.cell 0 (by omega)
      have r1 := G3.out.cell 1 (by omega)
      have r2 := G3.out.cell 2 (by omega)
      have r3 := G3.out.cell 3 (by omega)
      have z := G3.out.free
      clear g
      obtain ⟨f, hf⟩ : ∃ f, ofS lo hi = f := ⟨_, rfl⟩
      rw [hf] at c0 c1 c2 c3
      have HF := Lib.hid hf
      clear hf
      go_wp2_with fail
      refine bodyPost_ret (v := setV f) (by simp [results, Tryd.results49, go_sem, setV, r0, r1, r2, r3]) rfl ⟨by rw [HF.out], below_set4 HB.out.1 _ _ _ _ (by omega)⟩
def orTo (s t : Nat → Int) : Nat → Nat → Int
  | 0 => s
  | n + 1 => if hasS t n = true then addS (orTo s t n) n else orTo s t n
theorem orToIn {s t : Nat → Int} (hs : SetIn s) (n : Nat) : SetIn (orTo s t n) := by
  induction n with
  | zero => exact hs
  | succ n ih => unfold orTo; split <;> first | exact addIn ih n | exact ih
theorem has_orTo {s t : Nat → Int} (hs : SetIn s) (n b : Nat) : hasS (orTo s t n) b = (hasS s b || (decide (b < n) && hasS t b)) := by
  induction n with
  | zero => simp [orTo]
  | succ n ih =>
    unfold orTo
    split
    · rename_i h
      rw [has_add _ _ _ (orToIn hs n), ih]
      by_cases e : b = n
      · subst e; simp [h]
      · have : decide (b < n + 1) = decide (b < n) := by rw [decide_eq_decide]; omega
        rw [this]; simp [e]
    · rename_i h
      rw [ih]
      by_cases e : b = n
      · subst e; simp at h; simp [h]
      · have : decide (b < n + 1) = decide (b < n) := by rw [decide_eq_decide]; omega
        rw [this]
theorem orTo_all {s t : Nat → Int} (hs : SetIn s) (ht : SetIn t) (i : Nat) (hi : i < 4) : orTo s t 256 i = orS s t i :=
  Cs.ext _ _ (orToIn hs 256) (orIn hs ht) (fun b hb => by rw [has_orTo hs, has_or _ _ _ hs ht, decide_eq_true hb]; simp) i hi
set_option maxHeartbeats 8000000 in
set_option maxRecDepth 1000000 in
theorem refor_any (s t : Nat → Int) (w : World) (hs : SetIn s) (ht : SetIn t) :
    Calls Tryd.prog 51 #[setV s, setV t] w fun e w' => e = .returned (setV (orS s t)) ∧ Below w.heap.size w w' := by
  unfold setV
  go_enter Tryd.func51, Tryd.ntmps51
  go_wp2_with fail
  have f1 := ((Four.new w s 24).old (.cells #[.int .u64 (t 0), .int .u64 (t 1), .int .u64 (t 2), .int .u64 (t 3)] 24) (by simp)).old (.cells #[.int .u64 0, .int .u64 0, .int .u64 0, .int .u64 0] 24) (by simp; omega)
  have f2 := (Four.new (w.alloc (.cells #[.int .u64 (s 0), .int .u64 (s 1), .int .u64 (s 2), .int .u64 (s 3)] 24)) t 24).old (.cells #[.int .u64 0, .int .u64 0, .int .u64 0, .int .u64 0] 24) (by simp)
  have f3 := Four.zero ((w.alloc (.cells #[.int .u64 (s 0), .int .u64 (s 1), .int .u64 (s 2), .int .u64 (s 3)] 24)).alloc (.cells #[.int .u64 (t 0), .int .u64 (t 1), .int .u64 (t 2), .int .u64 (t 3)] 24)) 24
  have b1 : Below w.heap.size w (((w.alloc (.cells #[.int .u64 (s 0), .int .u64 (s 1), .int .u64 (s 2), .int .u64 (s 3)] 24)).alloc (.cells #[.int .u64 (t 0), .int .u64 (t 1), .int .u64 (t 2), .int .u64 (t 3)] 24)).alloc (.cells #[.int .u64 0, .int .u64 0, .int .u64 0, .int .u64 0] 24)) :=
    (((Below.refl _ _).alloc (Nat.le_refl _) _).alloc (by simp) _).alloc (by simp; omega) _
  have hz : w.heap.size + 2 < (((w.alloc (.cells #[.int .u64 (s 0), .int .u64 (s 1), .int .u64 (s 2), .int .u64 (s 3)] 24)).alloc (.cells #[.int .u64 (t 0), .int .u64 (t 1), .int .u64 (t 2), .int .u64 (t 3)] 24)).alloc (.cells #[.int .u64 0, .int .u64 0, .int .u64 0, .int .u64 0] 24)).heap.size := by simp
  simp only [World.size_alloc] at f2 f3
  have F := Lib.hid (And.intro f1 (And.intro f2 (And.intro f3 (And.intro b1 hz))))
  generalize ((w.alloc (.cells #[.int .u64 (s 0), .int .u64 (s 1), .int .u64 (s 2), .int .u64 (s 3)] 24)).alloc (.cells #[.int .u64 (t 0), .int .u64 (t 1), .int .u64 (t 2), .int .u64 (t 3)] 24)).alloc (.cells #[.int .u64 0, .int .u64 0, .int .u64 0, .int .u64 0] 24) = w0 at *
  clear f1 f2 f3 b1 hz
  go_loopw [5] (fun c wr => ∃ k : Nat, k ≤ 256 ∧ c = .int .i64 (k : Int) ∧ Hid (Four wr w.heap.size (orTo s t k)) ∧ Hid (Four wr (w.heap.size + 1) t) ∧ Hid (Four wr (w.heap.size + 1 + 1) noneS) ∧ Hid (Below w.heap.size w wr ∧ w.heap.size + 2 < wr.heap.size)) (fun c _ => 256 - (intOf c).toNat)
  case atStart => exact ⟨0, by omega, rfl, Lib.hid F.out.1, Lib.hid F.out.2.1, Lib.hid F.out.2.2.1, Lib.hid F.out.2.2.2⟩
  case round =>
    clear F
    obtain ⟨k, hk, rfl, G1, G2, G3, HB⟩ := hrel
    by_cases hlt : k < 256
    · have k1 : decide ((k : Int) < 256) = true := decide_eq_true (by omega)
      have k2 : decide (k < 256) = true := decide_eq_true hlt
      have hix := fun w => refhas_any t (k : Int) w (by omega) (by omega) ht
      rw [Int.toNat_natCast] at hix
      have hfin := orToIn (t := t) hs k
      have hst : orTo s t (k + 1) = if hasS t k = true then addS (orTo s t k) k else orTo s t k := rfl
      have g1 := G1.out
      obtain ⟨f, hf⟩ : ∃ f, orTo s t k = f := ⟨_, rfl⟩
      rw [hf] at g1 hfin hst
      have HF := Lib.hid hf
      have a0 := G2.out.cell 0 (by omega)
      have a1 := G2.out.cell 1 (by omega)
      have a2 := G2.out.cell 2 (by omega)
      have a3 := G2.out.cell 3 (by omega)
      clear hf g1
      cases hc : hasS t k with
      | true =>
        rw [hc] at hix
        rw [if_pos hc] at hst
        obtain ⟨f', hf'⟩ : ∃ f', addS f k = f' := ⟨_, rfl⟩
        rw [hf'] at hst
        have hw := fun w => refwith_any f k w hlt hfin
        rw [hf'] at hw
        have HW := Lib.hid hw
        have HIX := Lib.hid hix
        have HST := Lib.hid hst
        clear hw hix hst hf' hc
        go_wp2_with fail
        refine (HIX.out _).mono ?_
        rintro e w1 ⟨rfl, bx⟩
        have hsz := bx.size
        have g1 := G1.out.below bx (by have := HB.out.2; omega)
        rw [HF.out] at g1
        have g2 := G2.out.below bx (by have := HB.out.2; omega)
        have g3 := G3.out.below bx (by have := HB.out.2; omega)
        have HB1 := Lib.hid (And.intro (HB.out.1.trans (bx.mono HB.out.1.size)) (Nat.lt_of_lt_of_le HB.out.2 hsz))
        have c0 := g1.cell 0 (by omega)
        have c1 := g1.cell 1 (by omega)
        have c2 := g1.cell 2 (by omega)
        have c3 := g1.cell 3 (by omega)
        have GG := Lib.hid (And.intro g1 (And.intro g2 g3))
        clear bx hsz g1 g2 g3 a0 a1 a2 a3
        go_wp2_with fail
        refine (HW.out _).mono ?_
        rintro e w2 ⟨rfl, bx⟩
        have hsz := bx.size
        have g1 := GG.out.1.below bx (by have := HB1.out.2; omega)
        have g2 := GG.out.2.1.below bx (by have := HB1.out.2; omega)
        have g3 := GG.out.2.2.below bx (by have := HB1.out.2; omega)
        have HB2 := Lib.hid (And.intro (HB1.out.1.trans (bx.mono HB1.out.1.size)) (Nat.lt_of_lt_of_le HB1.out.2 hsz))
        have r0 := g1.cell 0 (by omega)
        have r1 := g1.cell 1 (by omega)
        have r2 := g1.cell 2 (by omega)
        have r3 := g1.cell 3 (by omega)
        have z := g1.free
        have G := Lib.hid (And.intro g1 (And.intro g2 g3))
        clear bx hsz g1 g2 g3 c0 c1 c2 c3
        go_wp2_with fail
        have e1 := G.out.1.set4 f'
        have e2 := G.out.2.1.far4 (g' := w.heap.size) (.int .u64 (f' 0)) (.int .u64 (f' 1)) (.int .u64 (f' 2)) (.int .u64 (f' 3)) (by omega)
        have e3 := G.out.2.2.far4 (g' := w.heap.size) (.int .u64 (f' 0)) (.int .u64 (f' 1)) (.int .u64 (f' 2)) (.int .u64 (f' 3)) (by omega)
        have e4 := below_set4 (g := w.heap.size) HB2.out.1 (.int .u64 (f' 0)) (.int .u64 (f' 1)) (.int .u64 (f' 2)) (.int .u64 (f' 3)) (by omega)
        go_roundw
        case rel => exact ⟨k + 1, by omega, by go_num, Lib.hid (by rw [HST.out]; exact e1), Lib.hid e2, Lib.hid e3, Lib.hid (And.intro e4 (by simp only [World.size_setCell]; exact HB2.out.2))⟩
        case measure => simp [intOf]; omega
      | false =>
        rw [hc] at hix
        rw [if_neg (by rw [hc]; simp)] at hst
        have HIX := Lib.hid hix
        have HST := Lib.hid hst
        clear hix hst hc
        go_wp2_with fail
        refine (HIX.out _).mono ?_
        rintro e w1 ⟨rfl, bx⟩
        have hsz := bx.size
        have g1 := G1.out.below bx (by have := HB.out.2; omega)
        rw [HF.out] at g1
        have g2 := G2.out.below bx (by have := HB.out.2; omega)
        have g3 := G3.out.below bx (by have := HB.out.2; omega)
        have HB1 := Lib.hid (And.intro (HB.out.1.trans (bx.mono HB.out.1.size)) (Nat.lt_of_lt_of_le HB.out.2 hsz))
        have GG := Lib.hid (And.intro g1 (And.intro g2 g3))
        clear bx hsz g1 g2 g3 a0 a1 a2 a3
        go_wp2_with fail
        go_roundw
        case rel => exact ⟨k + 1, by omega, by go_num, Lib.hid (by rw [HST.out]; exact GG.out.1), Lib.hid GG.out.2.1, Lib.hid GG.out.2.2, HB1⟩
        case measure => simp [intOf]; omega
    · have k1 : decide ((k : Int) < 256) = false := decide_eq_false (by omega)
      have k2 : decide (k < 256) = false := decide_eq_false hlt
      obtain rfl : k = 256 := by omega
      have g := G1.out.to (f' := orS s t) (orTo_all hs ht)
      have c0 := g.cell 0 (by omega)
      have c1 := g.cell 1 (by omega)
      have c2 := g.cell 2 (by omega)
      have c3 := g.cell 3 (by omega)
      have r0 := G3.out.cell 0 (by omega)
      have r1 := G3.out.cell 1 (by omega)
      have r2 := G3.out.cell 2 (by omega)
      have r3 := G3.out.cell 3 (by omega)
      have z := G3.out.free
      clear g
      obtain ⟨f, hf⟩ : ∃ f, orS s t = f := ⟨_, rfl⟩
      rw [hf] at c0 c1 c2 c3
      have HF := Lib.hid hf
      clear hf
      go_wp2_with fail
      refine bodyPost_ret (v := setV f) (by simp [results, Tryd.results51, go_sem, setV, r0, r1, r2, r3]) rfl ⟨by rw [← HF.out], below_set4 HB.out.1 _ _ _ _ (by omega)⟩
set_option maxHeartbeats 8000000 in
set_option maxRecDepth 1000000 in
theorem reffirst_any (s : Nat → Int) (k : Nat) (w : World) (hs : SetIn s) (hk : k < 256) (hhit : hasS s k = true) (h : ∀ b, b < k → hasS s b = false) :
    Calls Tryd.prog 34 #[setV s] w fun e w' => e = .returned (.int .i64 (k : Int)) ∧ Below w.heap.size w w' := by
  have HH := Lib.hid (And.intro hhit h)
  clear hhit h
  unfold setV
  go_enter Tryd.func34, Tryd.ntmps34
  go_wp2_with fail
  have f1 := Four.new w s 24
  have b1 : Below w.heap.size w (w.alloc (.cells #[.int .u64 (s 0), .int .u64 (s 1), .int .u64 (s 2), .int .u64 (s 3)] 24)) := (Below.refl _ _).alloc (Nat.le_refl _) _
  have hz : w.heap.size < (w.alloc (.cells #[.int .u64 (s 0), .int .u64 (s 1), .int .u64 (s 2), .int .u64 (s 3)] 24)).heap.size := by simp
  have F := Lib.hid (And.intro f1 (And.intro b1 hz))
  clear f1 b1 hz
  generalize w.alloc (.cells #[.int .u64 (s 0), .int .u64 (s 1), .int .u64 (s 2), .int .u64 (s 3)] 24) = w0 at *
  go_loopw [3] (fun c wr => ∃ i : Nat, i ≤ k ∧ c = .int .i64 (i : Int) ∧ Hid (Four wr w.heap.size s) ∧ Hid (Below w.heap.size w wr ∧ w.heap.size < wr.heap.size)) (fun c _ => 256 - (intOf c).toNat)
  case atStart => exact ⟨0, by omega, rfl, Lib.hid F.out.1, Lib.hid F.out.2⟩
  case round =>
    clear F
    obtain ⟨i, hi, rfl, G1, HB⟩ := hrel
    have k1 : decide ((i : Int) < 256) = true := decide_eq_true (by omega)
    have k2 : decide (i < 256) = true := decide_eq_true (by omega)
    have hix := fun w => refhas_any s (i : Int) w (by omega) (by omega) hs
    rw [Int.toNat_natCast] at hix
    have a0 := G1.out.cell 0 (by omega)
    have a1 := G1.out.cell 1 (by omega)
    have a2 := G1.out.cell 2 (by omega)
    have a3 := G1.out.cell 3 (by omega)
    by_cases hik : i = k
    · subst hik
      rw [HH.out.1] at hix
      have HIX := Lib.hid hix
      clear hix
      go_wp2_with fail
      refine (HIX.out _).mono ?_
      rintro e w1 ⟨rfl, bx⟩
      have HB1 := Lib.hid (HB.out.1.trans (bx.mono HB.out.1.size))
      clear bx
      go_wp2_with fail
      go_ret
      exact ⟨rfl, HB1.out⟩
    · rw [HH.out.2 i (by omega)] at hix
      have HIX := Lib.hid hix
      clear hix
      go_wp2_with fail
      refine (HIX.out _).mono ?_
      rintro e w1 ⟨rfl, bx⟩
      have g1 := Lib.hid (G1.out.below bx HB.out.2)
      have HB1 := Lib.hid (And.intro (HB.out.1.trans (bx.mono HB.out.1.size)) (Nat.lt_of_lt_of_le HB.out.2 bx.size))
      clear bx a0 a1 a2 a3
      go_wp2_with fail
      go_roundw
      case rel => exact ⟨i + 1, by omega, by go_num, g1, HB1⟩
      case measure => simp [intOf]; omega
set_option maxHeartbeats 8000000 in
set_option maxRecDepth 1000000 in
theorem refdigits_any (w : World) :
    Calls Tryd.prog 35 #[] w fun e w' => e = .returned (setV (ofS 48 57)) ∧ Below w.heap.size w w' := by
  have h1 := fun w => refbetween_any 48 57 w (by omega) (by omega)
  obtain ⟨f, hf⟩ : ∃ f, ofS 48 57 = f := ⟨_, rfl⟩
  rw [hf] at h1 ⊢
  have H1 := Lib.hid h1
  clear h1 hf
  go_enter Tryd.func35, Tryd.ntmps35
  go_wp2_with fail
  have f1 := Four.zero w 24
  have b1 : Below w.heap.size w (w.alloc (.cells #[.int .u64 0, .int .u64 0, .int .u64 0, .int .u64 0] 24)) := (Below.refl _ _).alloc (Nat.le_refl _) _
  have hz : w.heap.size < (w.alloc (.cells #[.int .u64 0, .int .u64 0, .int .u64 0, .int .u64 0] 24)).heap.size := by simp
  have F := Lib.hid (And.intro f1 (And.intro b1 hz))
  clear f1 b1 hz
  generalize w.alloc (.cells #[.int .u64 0, .int .u64 0, .int .u64 0, .int .u64 0] 24) = w0 at *
  refine (H1.out _).mono ?_
  rintro e w1 ⟨rfl, bx⟩
  have F2 := Lib.hid (And.intro (F.out.1.below bx F.out.2.2) (And.intro (F.out.2.1.trans (bx.mono F.out.2.1.size)) (Nat.lt_of_lt_of_le F.out.2.2 bx.size)))
  clear bx F
  have r0 := F2.out.1.cell 0 (by omega)
  have r1 := F2.out.1.cell 1 (by omega)
  have r2 := F2.out.1.cell 2 (by omega)
  have r3 := F2.out.1.cell 3 (by omega)
  have z := F2.out.1.free
  go_wp2_with fail
  refine bodyPost_ret (v := setV (f)) (by simp [results, Tryd.results35, go_sem, setV, r0, r1, r2, r3]) rfl ⟨rfl, below_set4 F2.out.2.1 _ _ _ _ (by omega)⟩
set_option maxHeartbeats 8000000 in
set_option maxRecDepth 1000000 in
theorem digits_any (w : World) :
    Calls Tryd.prog 83 #[] w fun e w' => e = .returned (setV (ofS 48 57)) ∧ Below w.heap.size w w' := by
  have h1 := fun w => of_any 48 57 w (by omega) (by omega)
  obtain ⟨f, hf⟩ : ∃ f, ofS 48 57 = f := ⟨_, rfl⟩
  rw [hf] at h1 ⊢
  have H1 := Lib.hid h1
  clear h1 hf
  go_enter Tryd.func83, Tryd.ntmps83
  go_wp2_with fail
  have f1 := Four.zero w 24
  have b1 : Below w.heap.size w (w.alloc (.cells #[.int .u64 0, .int .u64 0, .int .u64 0, .int .u64 0] 24)) := (Below.refl _ _).alloc (Nat.le_refl _) _
  have hz : w.heap.size < (w.alloc (.cells #[.int .u64 0, .int .u64 0, .int .u64 0, .int .u64 0] 24)).heap.size := by simp
  have F := Lib.hid (And.intro f1 (And.intro b1 hz))
  clear f1 b1 hz
  generalize w.alloc (.cells #[.int .u64 0, .int .u64 0, .int .u64 0, .int .u64 0] 24) = w0 at *
  refine (H1.out _).mono ?_
  rintro e w1 ⟨rfl, bx⟩
  have F2 := Lib.hid (And.intro (F.out.1.below bx F.out.2.2) (And.intro (F.out.2.1.trans (bx.mono F.out.2.1.size)) (Nat.lt_of_lt_of_le F.out.2.2 bx.size)))
  clear bx F
  have r0 := F2.out.1.cell 0 (by omega)
  have r1 := F2.out.1.cell 1 (by omega)
  have r2 := F2.out.1.cell 2 (by omega)
  have r3 := F2.out.1.cell 3 (by omega)
  have z := F2.out.1.free
  go_wp2_with fail
  refine bodyPost_ret (v := setV (f)) (by simp [results, Tryd.results83, go_sem, setV, r0, r1, r2, r3]) rfl ⟨rfl, below_set4 F2.out.2.1 _ _ _ _ (by omega)⟩
set_option maxHeartbeats 8000000 in
set_option maxRecDepth 1000000 in
theorem words_any (w : World) :
    Calls Tryd.prog 84 #[] w fun e w' => e = .returned (setV wordF) ∧ Below w.heap.size w w' := by
  have h1 := digits_any
  have h2 := fun w => of_any 65 90 w (by omega) (by omega)
  have h4 := fun w => of_any 97 122 w (by omega) (by omega)
  have h5 := fun w => of_any 95 95 w (by omega) (by omega)
  have h3 := fun w => or_any (ofS 48 57) (ofS 65 90) w (ofIn _ _) (ofIn _ _)
  have h6 := fun w => or_any (ofS 97 122) (ofS 95 95) w (ofIn _ _) (ofIn _ _)
  have h7 := fun w => or_any (orS (ofS 48 57) (ofS 65 90)) (orS (ofS 97 122) (ofS 95 95)) w (orIn (ofIn _ _) (ofIn _ _)) (orIn (ofIn _ _) (ofIn _ _))
  rw [show orS (orS (ofS 48 57) (ofS 65 90)) (orS (ofS 97 122) (ofS 95 95)) = wordF from rfl] at h7
  obtain ⟨f1, hf1⟩ : ∃ f, ofS 48 57 = f := ⟨_, rfl⟩
  obtain ⟨f2, hf2⟩ : ∃ f, ofS 65 90 = f := ⟨_, rfl⟩
  obtain ⟨f4, hf4⟩ : ∃ f, ofS 97 122 = f := ⟨_, rfl⟩
  obtain ⟨f5, hf5⟩ : ∃ f, ofS 95 95 = f := ⟨_, rfl⟩
  rw [hf1] at h1 h3 h7
  rw [hf2] at h2 h3 h7
  rw [hf4] at h4 h6 h7
  rw [hf5] at h5 h6 h7
  obtain ⟨f3, hf3⟩ : ∃ f, orS f1 f2 = f := ⟨_, rfl⟩
  obtain ⟨f6, hf6⟩ : ∃ f, orS f4 f5 = f := ⟨_, rfl⟩
  rw [hf3] at h3 h7
  rw [hf6] at h6 h7
  obtain ⟨f7, hf7⟩ : ∃ f, wordF = f := ⟨_, rfl⟩
  rw [hf7] at h7 ⊢
  have H := Lib.hid (And.intro h1 (And.intro h2 (And.intro h3 (And.intro h4 (And.intro h5 (And.intro h6 h7))))))
  clear h1 h2 h3 h4 h5 h6 h7 hf1 hf2 hf3 hf4 hf5 hf6 hf7
  go_enter Tryd.func84, Tryd.ntmps84
  go_wp2_with fail
  have f1 := Four.zero w 24
  have b1 : Below w.heap.size w (w.alloc (.cells #[.int .u64 0, .int .u64 0, .int .u64 0, .int .u64 0] 24)) := (Below.refl _ _).alloc (Nat.le_refl _) _
  have hz : w.heap.size < (w.alloc (.cells #[.int .u64 0, .int .u64 0, .int .u64 0, .int .u64 0] 24)).heap.size := by simp
  have F := Lib.hid (And.intro f1 (And.intro b1 hz))
  clear f1 b1 hz
  generalize w.alloc (.cells #[.int .u64 0, .int .u64 0, .int .u64 0, .int .u64 0] 24) = w0 at *
  refine (H.out.1 _).mono ?_
  rintro e w1 ⟨rfl, bx⟩
  have F1 := Lib.hid (And.intro (F.out.1.below bx F.out.2.2) (And.intro (F.out.2.1.trans (bx.mono F.out.2.1.size)) (Nat.lt_of_lt_of_le F.out.2.2 bx.size)))
  clear bx F
  go_wp2_with fail
  refine (H.out.2.1 _).mono ?_
  rintro e w2 ⟨rfl, bx⟩
  have F2 := Lib.hid (And.intro (F1.out.1.below bx F1.out.2.2) (And.intro (F1.out.2.1.trans (bx.mono F1.out.2.1.size)) (Nat.lt_of_lt_of_le F1.out.2.2 bx.size)))
  clear bx F1
  go_wp2_with fail
  refine (H.out.2.2.1 _).mono ?_
  rintro e w3 ⟨rfl, bx⟩
  have F3 := Lib.hid (And.intro (F2.out.1.below bx F2.out.2.2) (And.intro (F2.out.2.1.trans (bx.mono F2.out.2.1.size)) (Nat.lt_of_lt_of_le F2.out.2.2 bx.size)))
  clear bx F2
  go_wp2_with fail
  refine (H.out.2.2.2.1 _).mono ?_
  rintro e w4 ⟨rfl, bx⟩
  have F4 := Lib.hid (And.intro (F3.out.1.below bx F3.out.2.2) (And.intro (F3.out.2.1.trans (bx.mono F3.out.2.1.size)) (Nat.lt_of_lt_of_le F3.out.2.2 bx.size)))
  clear bx F3
  go_wp2_with fail
  refine (H.out.2.2.2.2.1 _).mono ?_
  rintro e w5 ⟨rfl, bx⟩
  have F5 := Lib.hid (And.intro (F4.out.1.below bx F4.out.2.2) (And.intro (F4.out.2.1.trans (bx.mono F4.out.2.1.size)) (Nat.lt_of_lt_of_le F4.out.2.2 bx.size)))
  clear bx F4
  go_wp2_with fail
  refine (H.out.2.2.2.2.2.1 _).mono ?_
  rintro e w6 ⟨rfl, bx⟩
  have F6 := Lib.hid (And.intro (F5.out.1.below bx F5.out.2.2) (And.intro (F5.out.2.1.trans (bx.mono F5.out.2.1.size)) (Nat.lt_of_lt_of_le F5.out.2.2 bx.size)))
  clear bx F5
  go_wp2_with fail
  refine (H.out.2.2.2.2.2.2 _).mono ?_
  rintro e w7 ⟨rfl, bx⟩
  have F7 := Lib.hid (And.intro (F6.out.1.below bx F6.out.2.2) (And.intro (F6.out.2.1.trans (bx.mono F6.out.2.1.size)) (Nat.lt_of_lt_of_le F6.out.2.2 bx.size)))
  clear bx F6
  have r0 := F7.out.1.cell 0 (by omega)
  have r1 := F7.out.1.cell 1 (by omega)
  have r2 := F7.out.1.cell 2 (by omega)
  have r3 := F7.out.1.cell 3 (by omega)
  have z := F7.out.1.free
  go_wp2_with fail
  refine bodyPost_ret (v := setV (f7)) (by simp [results, Tryd.results84, go_sem, setV, r0, r1, r2, r3]) rfl ⟨rfl, below_set4 F7.out.2.1 _ _ _ _ (by omega)⟩
/-- the reference's word set is the program's -/
theorem word_same : setV (addS (orS (orS (ofS 48 57) (ofS 65 90)) (ofS 97 122)) 95) = setV wordF := by
  have hs := orIn (orIn (ofIn 48 57) (ofIn 65 90)) (ofIn 97 122)
  have e := fun i hi => Cs.ext (addS (orS (orS (ofS 48 57) (ofS 65 90)) (ofS 97 122)) 95) wordF (addIn hs 95) wordF_in (fun c hc => by
    unfold wordF
    rw [has_add _ _ _ hs, has_or _ _ _ (orIn (ofIn _ _) (ofIn _ _)) (ofIn _ _), has_or _ _ _ (ofIn _ _) (ofIn _ _), has_or _ _ _ (orIn (ofIn _ _) (ofIn _ _)) (orIn (ofIn _ _) (ofIn _ _)), has_or _ _ _ (ofIn _ _) (ofIn _ _), has_or _ _ _ (ofIn _ _) (ofIn _ _), has_of, has_of, has_of, has_of]
    by_cases h : c = 95
    · subst h; rfl
    · have : decide (95 ≤ c ∧ c ≤ 95) = false := decide_eq_false (by omega)
      rw [this, decide_eq_false h]; simp) i hi
  unfold setV
  rw [e 0 (by omega), e 1 (by omega), e 2 (by omega), e 3 (by omega)]
set_option maxHeartbeats 8000000 in
set_option maxRecDepth 1000000 in
theorem refwords_any (w : World) :
    Calls Tryd.prog 36 #[] w fun e w' => e = .returned (setV wordF) ∧ Below w.heap.size w w' := by
  have h1 := fun w => refbetween_any 48 57 w (by omega) (by omega)
  have h2 := fun w => refbetween_any 65 90 w (by omega) (by omega)
  have h4 := fun w => refbetween_any 97 122 w (by omega) (by omega)
  have h3 := fun w => refor_any (ofS 48 57) (ofS 65 90) w (ofIn _ _) (ofIn _ _)
  have h6 := fun w => refor_any (orS (ofS 48 57) (ofS 65 90)) (ofS 97 122) w (orIn (ofIn _ _) (ofIn _ _)) (ofIn _ _)
  have h7 := fun w => refwith_any (orS (orS (ofS 48 57) (ofS 65 90)) (ofS 97 122)) 95 w (by omega) (orIn (orIn (ofIn _ _) (ofIn _ _)) (ofIn _ _))
  rw [word_same] at h7
  obtain ⟨f1, hf1⟩ : ∃ f, ofS 48 57 = f := ⟨_, rfl⟩
  obtain ⟨f2, hf2⟩ : ∃ f, ofS 65 90 = f := ⟨_, rfl⟩
  obtain ⟨f4, hf4⟩ : ∃ f, ofS 97 122 = f := ⟨_, rfl⟩
  rw [hf1] at h1 h3 h6 h7
  rw [hf2] at h2 h3 h6 h7
  rw [hf4] at h4 h6 h7
  obtain ⟨f3, hf3⟩ : ∃ f, orS f1 f2 = f := ⟨_, rfl⟩
  rw [hf3] at h3 h6 h7
  obtain ⟨f6, hf6⟩ : ∃ f, orS f3 f4 = f := ⟨_, rfl⟩
  rw [hf6] at h6 h7
  obtain ⟨f7, hf7⟩ : ∃ f, wordF = f := ⟨_, rfl⟩
  rw [hf7] at h7 ⊢
  have H := Lib.hid (And.intro h1 (And.intro h2 (And.intro h3 (And.intro h4 (And.intro h6 h7)))))
  clear h1 h2 h3 h4 h6 h7 hf1 hf2 hf3 hf4 hf6 hf7
  go_enter Tryd.func36, Tryd.ntmps36
  go_wp2_with fail
  have f1 := Four.zero w 24
  have b1 : Below w.heap.size w (w.alloc (.cells #[.int .u64 0, .int .u64 0, .int .u64 0, .int .u64 0] 24)) := (Below.refl _ _).alloc (Nat.le_refl _) _
  have hz : w.heap.size < (w.alloc (.cells #[.int .u64 0, .int .u64 0, .int .u64 0, .int .u64 0] 24)).heap.size := by simp
  have F := Lib.hid (And.intro f1 (And.intro b1 hz))
  clear f1 b1 hz
  generalize w.alloc (.cells #[.int .u64 0, .int .u64 0, .int .u64 0, .int .u64 0] 24) = w0 at *
  refine (H.out.1 _).mono ?_
  rintro e w1 ⟨rfl, bx⟩
  have F1 := Lib.hid (And.intro (F.out.1.below bx F.out.2.2) (And.intro (F.out.2.1.trans (bx.mono F.out.2.1.size)) (Nat.lt_of_lt_of_le F.out.2.2 bx.size)))
  clear bx F
  go_wp2_with fail
  refine (H.out.2.1 _).mono ?_
  rintro e w2 ⟨rfl, bx⟩
  have F2 := Lib.hid (And.intro (F1.out.1.below bx F1.out.2.2) (And.intro (F1.out.2.1.trans (bx.mono F1.out.2.1.size)) (Nat.lt_of_lt_of_le F1.out.2.2 bx.size)))
  clear bx F1
  go_wp2_with fail
  refine (H.out.2.2.1 _).mono ?_
  rintro e w3 ⟨rfl, bx⟩
  have F3 := Lib.hid (And.intro (F2.out.1.below bx F2.out.2.2) (And.intro (F2.out.2.1.trans (bx.mono F2.out.2.1.size)) (Nat.lt_of_lt_of_le F2.out.2.2 bx.size)))
  clear bx F2
  go_wp2_with fail
  refine (H.out.2.2.2.1 _).mono ?_
  rintro e w4 ⟨rfl, bx⟩
  have F4 := Lib.hid (And.intro (F3.out.1.below bx F3.out.2.2) (And.intro (F3.out.2.1.trans (bx.mono F3.out.2.1.size)) (Nat.lt_of_lt_of_le F3.out.2.2 bx.size)))
  clear bx F3
  go_wp2_with fail
  refine (H.out.2.2.2.2.1 _).mono ?_
  rintro e w5 ⟨rfl, bx⟩
  have F5 := Lib.hid (And.intro (F4.out.1.below bx F4.out.2.2) (And.intro (F4.out.2.1.trans (bx.mono F4.out.2.1.size)) (Nat.lt_of_lt_of_le F4.out.2.2 bx.size)))
  clear bx F4
  go_wp2_with fail
  refine (H.out.2.2.2.2.2 _).mono ?_
  rintro e w6 ⟨rfl, bx⟩
  have F6 := Lib.hid (And.intro (F5.out.1.below bx F5.out.2.2) (And.intro (F5.out.2.1.trans (bx.mono F5.out.2.1.size)) (Nat.lt_of_lt_of_le F5.out.2.2 bx.size)))
  clear bx F5
  have r0 := F6.out.1.cell 0 (by omega)
  have r1 := F6.out.1.cell 1 (by omega)
  have r2 := F6.out.1.cell 2 (by omega)
  have r3 := F6.out.1.cell 3 (by omega)
  have z := F6.out.1.free
  go_wp2_with fail
  refine bodyPost_ret (v := setV (f7)) (by simp [results, Tryd.results36, go_sem, setV, r0, r1, r2, r3]) rfl ⟨rfl, below_set4 F6.out.2.1 _ _ _ _ (by omega)⟩
end Go.Proofs.YtpknglbpbodnbaaDoor
