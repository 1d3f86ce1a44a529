/-
  ProdMany: the walk of the law. Conditions: the table of powers lies as laid.
-/
import Derived.Test.YtpcoijjcjamgiaaDoorJMany
import Derived.Test.YtpcoijjcjamgiaaDoorJWord
import Derived.Test.YtpcoijjcjamgiaaDoorJAuOpenT
namespace Go.Proofs.YtpcoijjcjamgiaaDoor
set_option linter.unusedVariables false
set_option linter.unusedSimpArgs false
open Go.RowKit Go.Maps Go.Sort Go.ChangeShapes Go.WideShapes

theorem many_pairs {m : Nat} (h0 : 1 ≤ m) (h1 : m ≤ 80) : pairsC (roundD 64) (roundD m) = min ((Nat.lcm 64 m : Nat) : Int) 4097 := by
  unfold pairsC
  rw [rightD_iff.2 (roundD_right (by omega) (by omega)), rightD_iff.2 (roundD_right h0 (by omega)), pairs_round h0 h1]
  rfl
theorem many_err {m : Nat} (h0 : 1 ≤ m) (h1 : m ≤ 80) : bothE (roundD 64) (roundD m) = if Nat.lcm 64 m ≤ 4096 then 0 else 16 := by
  unfold bothE
  rw [rightD_iff.2 (roundD_right (by omega) (by omega)), rightD_iff.2 (roundD_right h0 (by omega)), pairs_round h0 h1]
  rfl
theorem many_none {m : Nat} (h0 : 1 ≤ m) (h1 : m ≤ 80) (hl : ¬ Nat.lcm 64 m ≤ 4096) : (bothD andB (roundD 64) (roundD m)).next.length = 0 := by
  unfold bothD
  rw [rightD_iff.2 (roundD_right (by omega) (by omega)), rightD_iff.2 (roundD_right h0 (by omega)), pairs_round h0 h1]
  simp only [Bool.and_self, if_true, if_neg hl]
  rfl
set_option maxHeartbeats 8000000 in
set_option maxRecDepth 1000000 in
theorem law_many (x : Nat) (hx : x < 256) (w : World) (hT : Pow10 w) :
    Calls Tryd.prog 4 #[.int .u8 x] w fun e w' => e = .returned (.bool true) ∧ Below w.heap.size w w' := by
  obtain ⟨m, hm⟩ : ∃ m, x % 80 + 1 = m := ⟨_, rfl⟩
  have h0 : 1 ≤ m := by omega
  have h1 : m ≤ 80 := by omega
  have hmx : (x : Int) % 80 + 1 = (m : Int) := by omega
  have hmt : Int.tmod (x : Int) 80 = (x : Int) % 80 := Int.tmod_eq_emod_of_nonneg (by omega)
  have hw8 : IntKind.u8.wrap ((x : Int) % 80) = (x : Int) % 80 := by simp [IntKind.wrap, IntKind.signed, IntKind.bits]; omega
  have HM := Lib.hid (And.intro hm hT)
  clear hm hT
  go_enter Tryd.func4, Tryd.ntmps4
  go_wp2_with fail
  refine (round_any 64 (by omega) (by omega) _).mono ?_
  rintro e w1 ⟨rv1, rfl, hd1, b1⟩
  obtain ⟨S1, f1, k1, n1, F1, K1, M1, cf1, ck1, cn1, -, -, -, hM1, rfl⟩ := hd1.form
  have HD1 := Lib.hid (And.intro hd1 b1)
  clear hd1 b1 hM1
  go_wp2_with fail
  refine (round_any m h0 h1 _).mono ?_
  rintro e w2 ⟨rv2, rfl, hd2, b2⟩
  obtain ⟨S2, f2, k2, n2, F2, K2, M2, cf2, ck2, cn2, -, -, -, hM2, rfl⟩ := hd2.form
  have b12 := HD1.out.2.trans (b2.mono HD1.out.2.size)
  have hA := (HD1.out.1.below b2)
  have E1 : Boxs w w2 [] := ⟨b12, HM.out.2.below b12 (Nat.le_refl _), fun x hx => by cases hx⟩
  have hz0 : ∀ o, (w2.alloc o).heap.size = w2.heap.size + 1 := fun o => by simp
  have E2 := (E1.push hA).push (hd2.below ((Below.refl w2.heap.size w2).alloc (Nat.le_refl _) _))
  rw [hz0] at E2
  have G := Lib.hid E2
  obtain ⟨p1, hp1⟩ : ∃ p, w2.heap.size = p := ⟨_, rfl⟩
  clear hd2 b2 hM2 b12 hA E1 E2 HD1 hz0
  go_wp2_with fail
  generalize (w2.alloc (.cells #[.int .i64 S1, .slice f1 F1 cf1, .slice k1 K1 ck1, .slice n1 M1 cn1] 26)).alloc (.cells #[.int .i64 S2, .slice f2 F2 cf2, .slice k2 K2 ck2, .slice n2 M2 cn2] 26) = W at *
  try rw [hp1] at G
  try rw [hp1]
  clear hp1
  go_loopw [6] (fun c6 wr => wr = W ∧ ∃ t : Nat, c6 = .int .i64 ((m * t : Nat) : Int) ∧ 1 ≤ t ∧ t ≤ 64 ∧ Hid (∀ s, 1 ≤ s → s < t → m * s % 64 ≠ 0)) (fun c _ => 5121 - (intOf c).toNat)
  case atStart => exact ⟨rfl, 1, by rw [Nat.mul_one], by omega, by omega, Lib.hid fun s h1 h2 => by omega⟩
  case round =>
    obtain ⟨rfl, t, rfl, ht1, ht2, hno⟩ := hrel
    obtain ⟨N, hN⟩ : ∃ N, m * t = N := ⟨_, rfl⟩
    have hN2 : N ≤ 5120 := by rw [← hN]; exact Nat.le_trans (Nat.mul_le_mul h1 ht2) (by omega)
    have hN1 : 1 ≤ N := by rw [← hN]; exact Nat.mul_pos h0 ht1
    rw [hN]
    have hmod : Int.tmod (N : Int) 64 = ((N % 64 : Nat) : Int) := by rw [Int.tmod_eq_emod_of_nonneg (by omega)]; push_cast; rfl
    have HN := Lib.hid hN
    clear hN
    by_cases hc : N % 64 = 0
    · have hc2 : (((N % 64 : Nat) : Int) != 0) = false := by simp; omega
      have hL := lcm_found h0 ht1 (by rw [HN.out]; exact hc) hno.out
      rw [HN.out] at hL
      have HL := Lib.hid hL
      clear hL hc
      obtain ⟨⟨y0, y1, y2, y3⟩, -⟩ := (G.out.get (List.Mem.tail _ (List.Mem.head _))).1.c4
      obtain ⟨⟨x0, x1, x2, x3⟩, -⟩ := (G.out.get (List.Mem.head _)).1.c4
      go_wp2_with fail
      refine (and_any _ _ (roundD 64) (roundD m) wr (G.out.get (List.Mem.tail _ (List.Mem.head _))).2 (G.out.get (List.Mem.head _)).2 (roundD_in (by omega) (by omega)) (roundD_in h0 (by omega)) G.out.T).mono ?_
      rintro e w3 ⟨rv, rfl, ho, bx⟩
      have hd := ho.at_
      obtain ⟨S3, f3, k3, n3, F3, K3, M3, cf3, ck3, cn3, -, -, -, hM3, rfl⟩ := hd.form
      have h3 := (G.out.below bx).push hd
      obtain ⟨p3, hp3⟩ : ∃ p, w3.heap.size = p := ⟨_, rfl⟩
      clear ho hd y0 y1 y2 y3 x0 x1 x2 x3
      by_cases hl : N ≤ 4096
      · have hlc : Nat.lcm 64 m ≤ 4096 := by rw [← HL.out]; exact hl
        have he := many_err h0 h1
        rw [if_pos hlc] at he
        rw [he]
        obtain rfl : M3 = N := by rw [← hM3, states_round h0 h1 hlc, HL.out]
        have hq := many_pairs h0 h1
        rw [← HL.out, Int.min_eq_left (by omega)] at hq
        have HQ := Lib.hid hq
        clear hlc he hM3 hq G bx
        have G := Lib.hid h3
        clear h3
        obtain ⟨⟨y0, y1, y2, y3⟩, -⟩ := (G.out.get (List.Mem.tail _ (List.Mem.tail _ (List.Mem.head _)))).1.c4
        obtain ⟨⟨x0, x1, x2, x3⟩, -⟩ := (G.out.get (List.Mem.tail _ (List.Mem.head _))).1.c4
        go_wp2_with fail
        generalize w3.alloc (.cells #[.int .i64 S3, .slice f3 F3 cf3, .slice k3 K3 ck3, .slice n3 M3 cn3] 26) = W3 at *
        try rw [hp3] at G
        try rw [hp3]
        clear hp3
        refine (pairs_walk _ _ (roundD 64) (roundD m) W3 (G.out.get (List.Mem.tail _ (List.Mem.tail _ (List.Mem.head _)))).2 (G.out.get (List.Mem.tail _ (List.Mem.head _))).2 (roundD_in (by omega) (by omega)) (roundD_in h0 (by omega))).mono ?_
        rintro e w4 ⟨rfl, bx⟩
        rw [HQ.out]
        have G' := Lib.hid (G.out.below bx)
        clear G bx y0 y1 y2 y3 x0 x1 x2 x3
        have G := G'
        clear G'
        obtain ⟨⟨-, -, -, z3⟩, -⟩ := (G.out.get (List.Mem.head _)).1.c4
        go_wp2_with fail
        refine (prworks_any w4 G.out.T).mono ?_
        rintro e w5 ⟨rfl, bx⟩
        go_wp2_with fail
        go_ret
        exact ⟨rfl, G.out.bl.trans (bx.mono G.out.bl.size)⟩
      · have hlc : ¬ Nat.lcm 64 m ≤ 4096 := by rw [← HL.out]; exact hl
        have he := many_err h0 h1
        rw [if_neg hlc] at he
        rw [he]
        obtain rfl : M3 = 0 := by rw [← hM3, many_none h0 h1 hlc]
        have hq := many_pairs h0 h1
        rw [← HL.out, Int.min_eq_right (by omega)] at hq
        have HQ := Lib.hid hq
        clear hlc he hM3 hq G bx
        have G := Lib.hid h3
        clear h3
        obtain ⟨⟨y0, y1, y2, y3⟩, -⟩ := (G.out.get (List.Mem.tail _ (List.Mem.tail _ (List.Mem.head _)))).1.c4
        obtain ⟨⟨x0, x1, x2, x3⟩, -⟩ := (G.out.get (List.Mem.tail _ (List.Mem.head _))).1.c4
        go_wp2_with fail
        generalize w3.alloc (.cells #[.int .i64 S3, .slice f3 F3 cf3, .slice k3 K3 ck3, .slice n3 0 cn3] 26) = W3 at *
        try rw [hp3] at G
        try rw [hp3]
        clear hp3
        refine (pairs_walk _ _ (roundD 64) (roundD m) W3 (G.out.get (List.Mem.tail _ (List.Mem.tail _ (List.Mem.head _)))).2 (G.out.get (List.Mem.tail _ (List.Mem.head _))).2 (roundD_in (by omega) (by omega)) (roundD_in h0 (by omega))).mono ?_
        rintro e w4 ⟨rfl, bx⟩
        rw [HQ.out]
        have G' := Lib.hid (G.out.below bx)
        clear G bx y0 y1 y2 y3 x0 x1 x2 x3
        have G := G'
        clear G'
        obtain ⟨⟨-, -, -, z3⟩, -⟩ := (G.out.get (List.Mem.head _)).1.c4
        go_wp2_with fail
        refine (prworks_any w4 G.out.T).mono ?_
        rintro e w5 ⟨rfl, bx⟩
        go_wp2_with fail
        go_ret
        exact ⟨rfl, G.out.bl.trans (bx.mono G.out.bl.size)⟩
    · have hc2 : (((N % 64 : Nat) : Int) != 0) = true := by simp; omega
      have hne : t ≠ 64 := fun e => by
        have := HN.out
        rw [e] at this
        omega
      have hwN : IntKind.i64.wrap ((N : Int) + (m : Int)) = (N : Int) + (m : Int) := IntWalk.i64_in _ (by omega)
      have HC := Lib.hid hc
      clear hc
      go_wp2_with fail
      go_roundw
      case rel =>
        refine ⟨by first | rfl | trivial, t + 1, by rw [Nat.mul_succ, HN.out]; go_num, by omega, by omega, Lib.hid fun s hs1 hs2 => ?_⟩
        by_cases e : s = t
        · rw [e, HN.out]; exact HC.out
        · exact hno.out s hs1 (by omega)
      case measure => simp [intOf]; omega

namespace prodManyW
theorem walk (n : Int) (W : World) (hw : (Lit.int .u8 n).wf = true) (hL : laidMet Tryd.prog Rows.prodManyRow.laid W) :
    Calls Tryd.prog 4 #[.int .u8 n] W fun e w' => e = .returned (.bool true) ∧ Below W.heap.size W w' := by
  have h : 0 ≤ n ∧ n ≤ 255 := by simpa [Lit.wf, IntKind.min, IntKind.max, IntKind.signed, IntKind.bits] using hw
  obtain ⟨x, rfl⟩ := Int.eq_ofNat_of_zero_le h.1
  exact law_many x (by omega) W (pow_in hL (by simp [Rows.prodManyRow]))
end prodManyW
end Go.Proofs.YtpcoijjcjamgiaaDoor
