/-
  The walk of DiskTorn. Conditions: the inputs are Go's.
-/
import Derived.Test.YtmjhomhganaceaaDkWorks
import Derived.Lib.QuietBelow
import Derived.BigQuiet
namespace Go.Proofs.Ytmjhomhganaceaa
set_option linter.unusedVariables false
set_option linter.unusedSimpArgs false
open Go.RowKit Go.Maps Go.Sort

theorem same_below {f : FuncId} {args : Array Value} {w : World} {v : Value} (h : Calls Try.prog f args w fun e w' => e = .returned v ∧ w' = w) : Calls Try.prog f args w fun e w' => e = .returned v ∧ Below w.heap.size w w' :=
  h.mono fun e w' h => ⟨h.1, by rw [h.2]; exact Below.refl _ _⟩

theorem cfT (i : Nat) (keep : Int) (hi : i ≠ 2) : crashAt [(2, keep)] (i : Int) = none := by
  simp [crashAt]; omega
theorem cfT2 (keep : Int) : crashAt [(2, keep)] ((2 : Nat) : Int) = some (clampK keep) := by simp [crashAt]

def T1 (b : ByteArray) : List UInt8 := tear (noB 3) 0 (b.data.toList.take 128)
def T2 (a b : ByteArray) : List UInt8 := tear (T1 b) 128 (a.data.toList.take 128)
def T3 (a b : ByteArray) (k : Nat) : List UInt8 := tear (T2 a b) 128 (b.data.toList.take k)
theorem t1F (a b : ByteArray) (keep : Int) (ha : a.size = 128) (hb : b.size = 128) : writeF 3 (noB 3) false (crashAt [(2, keep)]) 0 0 b = T1 b := by
  have hB : writeB 3 false 0 b = true := by simp [writeB, readyE, hb]
  rw [writeF, hB, if_pos rfl, cfT 0 keep (by omega), T1]
  congr 1
theorem t2F (a b : ByteArray) (keep : Int) (ha : a.size = 128) (hb : b.size = 128) : writeF 3 (T1 b) false (crashAt [(2, keep)]) 1 1 a = T2 a b := by
  have hB : writeB 3 false 1 a = true := by simp [writeB, readyE, ha]
  rw [writeF, hB, if_pos rfl, cfT 1 keep (by omega), T2]
  congr 1
theorem t3F (a b : ByteArray) (keep : Int) (ha : a.size = 128) (hb : b.size = 128) : writeF 3 (T2 a b) false (crashAt [(2, keep)]) 2 1 b = T3 a b (clampK keep) := by
  have hB : writeB 3 false 1 b = true := by simp [writeB, readyE, hb]
  rw [writeF, hB, if_pos rfl, cfT2 keep, T3]
  congr 1
theorem T1_len (a b : ByteArray) (ha : a.size = 128) (hb : b.size = 128) : (T1 b).length = 3 * 128 := by
  have h2 : (b.data.toList.take 128).length ≤ 128 := by rw [List.length_take]; omega
  rw [T1, tear_len _ _ _ (by rw [noB_len]; omega), noB_len]
theorem T2_len (a b : ByteArray) (ha : a.size = 128) (hb : b.size = 128) : (T2 a b).length = 3 * 128 := by
  have h2 : (a.data.toList.take 128).length ≤ 128 := by rw [List.length_take]; omega
  have h1 := T1_len a b ha hb
  rw [T2, tear_len _ _ _ (by omega), h1]
theorem whole (s : ByteArray) (hs : s.size = 128) : s.extract 0 128 = s := by rw [← hs, ByteArray.extract_zero_size]
theorem ext_end (s : ByteArray) (hs : s.size = 128) : s.extract 128 128 = txt [] := by
  rw [extract_txt]
  congr 1
theorem T_blk (a b : ByteArray) (ha : a.size = 128) (hb : b.size = 128) (k i : Nat) (hi : i < 3) (hk : k ≤ 128) : blk (T3 a b k) i = if i = 1 then b.extract 0 k ++ a.extract k 128 else if i = 0 then b else txt (zeros 128) := by
  have l1 := T1_len a b ha hb
  have l2 := T2_len a b ha hb
  have e3 := blk_tear (T2 a b) 3 1 i k b l2 (by omega) hi hb hk
  have e2 := blk_tear (T1 b) 3 1 i 128 a l1 (by omega) hi ha (by omega)
  have e2' := blk_tear (T1 b) 3 1 1 128 a l1 (by omega) (by omega) ha (by omega)
  have e1 := blk_tear (noB 3) 3 0 i 128 b (noB_len 3) (by omega) hi hb (by omega)
  have w1 := whole a ha
  have w2 := whole b hb
  have x1 := ext_end (blk (T1 b) 1) (blk_size _ 3 1 l1 (by omega))
  have nil : ∀ s : ByteArray, s ++ txt [] = s := fun s => by rw [← txt_data s, txt_append, List.append_nil]
  rw [if_pos rfl, w1, x1, nil] at e2'
  have f3 : T3 a b k = tear (T2 a b) (1 * 128) (b.data.toList.take k) := rfl
  have f2 : T2 a b = tear (T1 b) (1 * 128) (a.data.toList.take 128) := rfl
  have f1 : T1 b = tear (noB 3) (0 * 128) (b.data.toList.take 128) := by rw [Nat.zero_mul]; rfl
  rw [← f3] at e3
  rw [← f2] at e2 e2'
  rw [← f1] at e1
  rw [e3]
  by_cases h1 : i = 1
  · subst h1
    rw [if_pos rfl, if_pos rfl, e2']
  · rw [if_neg h1, if_neg h1, e2, if_neg h1, e1]
    by_cases h0 : i = 0
    · subst h0
      have x0 := ext_end (blk (noB 3) 0) (blk_size _ 3 0 (noB_len 3) (by omega))
      rw [if_pos rfl, if_pos rfl, w2, x0, nil]
    · rw [if_neg h0, if_neg h0, noB_blk 3 i hi]
      rfl

theorem blockS_nil : blockS ⟨#[]⟩ = txt (zeros 128) := by
  rw [blockS, if_neg (by decide)]
  have e : (⟨#[]⟩ : ByteArray) = txt [] := rfl
  rw [e, txt_append]
  rfl
theorem block_nil (Z : ByteArray) (hZ : txt (zeros 128) = Z) (w : World) : Calls Try.prog 6 #[.string ⟨#[]⟩] w fun e w' => e = .returned (.string Z) ∧ Below w.heap.size w w' := by
  have := block_any ⟨#[]⟩ w (Nat.zero_le _)
  rw [blockS_nil, hZ] at this
  exact this
theorem writeE_T (n : Nat) (cf : Int → Option Nat) (wr i : Nat) (s : ByteArray) (hi : i < n) (hs : s.size = 128) : writeE n false cf wr i s = (if (cf wr).isSome then 20 else 0) ∧ writeN n false wr i s = wr + 1 ∧ writeD n false cf wr i s = (cf wr).isSome := by
  have e : readyE n false (i : Int) = 0 := by simp [readyE]; omega
  have hB : writeB n false (i : Int) s = true := by simp [writeB, e, hs]
  exact ⟨writeE_ok n cf wr i s hi hs, by rw [writeN, hB]; rfl, by rw [writeD, hB]; rfl⟩

set_option maxHeartbeats 4000000 in
set_option maxRecDepth 100000 in
theorem torn_any (a b : ByteArray) (keep : Int) (w : World) (hk : (Lit.int .i64 keep).wf = true) (ha : a.size ≤ maxLen) (hb : b.size ≤ maxLen) :
    Calls Try.prog 3 #[.string a, .string b, .int .i64 keep] w fun e w' => e = .returned (.bool true) ∧ Below w.heap.size w w' := by
  by_cases h1 : 128 < a.size
  · have h1' : decide (128 < (a.size : Int)) = true := decide_eq_true (by omega)
    go_enter Try.func3, Try.ntmps3
    go_wp2_with fail
    refine (works_any w).mono ?_
    rintro e w1 ⟨rfl, b1⟩
    go_wp2_with fail
    go_ret
    exact ⟨rfl, b1⟩
  have h1' : decide (128 < (a.size : Int)) = false := decide_eq_false (by omega)
  by_cases h2 : 128 < b.size
  · have h2' : decide (128 < (b.size : Int)) = true := decide_eq_true (by omega)
    go_enter Try.func3, Try.ntmps3
    go_wp2_with fail
    refine (works_any w).mono ?_
    rintro e w1 ⟨rfl, b1⟩
    go_wp2_with fail
    go_ret
    exact ⟨rfl, b1⟩
  have h2' : decide (128 < (b.size : Int)) = false := decide_eq_false (by omega)
  have sa := blockS_size a (by omega)
  have sb := blockS_size b (by omega)
  have ca := fun w => block_any a w ha
  have cb := fun w => block_any b w hb
  have CA := Lib.hid ca
  have CB := Lib.hid cb
  clear ca cb
  go_enter Try.func3, Try.ntmps3
  go_wp2_with fail
  refine (CA.out w).mono ?_
  rintro e w1 ⟨rfl, b1⟩
  go_wp2_with fail
  refine (CB.out w1).mono ?_
  rintro e w2 ⟨rfl, b2⟩
  have B2 : Below w.heap.size w w2 := b1.trans (b2.mono b1.size)
  clear CA CB b1 b2 h1 h2 h1' h2' ha hb
  generalize blockS a = p at *
  generalize blockS b = q at *
  obtain ⟨k, hkk⟩ : ∃ k, clampK keep = k := ⟨_, rfl⟩
  have hk128 : k ≤ 128 := by rw [← hkk]; exact clampK_le _
  have hki : (k : Int) ≤ 128 := by omega
  have hkm : max 0 (min 128 keep) = (k : Int) := by rw [← hkk, clampK_max]
  have t1 := t1F p q keep sa sb
  have t2 := t2F p q keep sa sb
  have t3 := t3F p q keep sa sb
  rw [hkk] at t3
  have hr : ∀ i : Nat, i < 3 → readS 3 (T3 p q k) false i = blk (T3 p q k) i := fun i hi => by
    have e : readyE 3 false (i : Int) = 0 := by simp [readyE]; omega
    rw [readS, e, if_pos rfl]
    congr 1
  have r0 := (hr 0 (by omega)).trans (T_blk p q sa sb k 0 (by omega) hk128)
  have r1 := (hr 1 (by omega)).trans (T_blk p q sa sb k 1 (by omega) hk128)
  have r2 := (hr 2 (by omega)).trans (T_blk p q sa sb k 2 (by omega) hk128)
  rw [if_neg (by omega), if_pos rfl] at r0
  rw [if_pos rfl] at r1
  rw [if_neg (by omega), if_neg (by omega)] at r2
  have i0 : readyE 3 false ((0 : Nat) : Int) = 0 := by simp [readyE]
  have i1 : readyE 3 false ((1 : Nat) : Int) = 0 := by simp [readyE]
  have i2 : readyE 3 false ((2 : Nat) : Int) = 0 := by simp [readyE]
  have TT := Lib.hid (And.intro t1 (And.intro t2 t3))
  have RR := Lib.hid (And.intro r0 (And.intro r1 r2))
  have II := Lib.hid (And.intro i0 (And.intro i1 i2))
  have SA := Lib.hid sa
  have SB := Lib.hid sb
  clear t1 t2 t3 hr r0 r1 r2 i0 i1 i2 hkk
  go_wp2_with (go_at_call 7; refine (new_any 3 (some ⟨w2.heap.size, 0, none⟩) 1 [(2, keep)] _ (by omega) (by omega) (by simp) (isCr_new w2 2 keep rfl hk)).mono ?_; rintro e w3 ⟨d, g, m, rfl, hd, hg, hm, hdisk, hb⟩)
  simp at hd hg hm
  have P3 := Lib.hid (And.intro hdisk (B2.trans ((((Below.refl w2.heap.size w2).alloc (Nat.le_refl _) (.cells #[.int .i64 2, .int .i64 keep] 29)).trans (hb.mono (by simp))).mono B2.size)))
  have hBN := B2.size
  clear hdisk hb
  have hne2 : ∀ k ∈ [d, g], w.heap.size ≤ k := by simp; omega
  go_wp2_with fail
  refine (write_any d g m 3 (noB 3) (crashAt [(2, keep)]) 0 false 0 q w3 P3.out.1 (by omega) (by omega) (fun t k h => crashAt_le h) (by rw [SB.out]; unfold maxLen; omega)).mono ?_
  rintro e w4 ⟨rfl, h4, o4⟩
  obtain ⟨x1, x2, x3⟩ := writeE_T 3 (crashAt [(2, keep)]) 0 0 q (by omega) SB.out
  rw [cfT 0 keep (by omega)] at x1 x3
  simp only [Int.natCast_zero] at x1 x2 x3
  rw [TT.out.1, x2, x3] at h4
  rw [x1]
  have P4 := Lib.hid (And.intro h4 (P3.out.2.trans (o4.below P3.out.2.size hne2)))
  clear h4 o4 x1 x2 x3 P3
  go_wp2_with fail
  refine (write_any d g m 3 (T1 q) (crashAt [(2, keep)]) 1 false 1 p w4 P4.out.1 (by omega) (by omega) (fun t k h => crashAt_le h) (by rw [SA.out]; unfold maxLen; omega)).mono ?_
  rintro e w5 ⟨rfl, h5, o5⟩
  obtain ⟨x1, x2, x3⟩ := writeE_T 3 (crashAt [(2, keep)]) 1 1 p (by omega) SA.out
  rw [cfT 1 keep (by omega)] at x1 x3
  rw [TT.out.2.1, show writeN 3 false 1 1 p = 2 from x2, show writeD 3 false (crashAt [(2, keep)]) 1 1 p = false from x3] at h5
  rw [show writeE 3 false (crashAt [(2, keep)]) 1 1 p = 0 from x1]
  have P5 := Lib.hid (And.intro h5 (P4.out.2.trans (o5.below P4.out.2.size hne2)))
  clear h5 o5 x1 x2 x3 P4
  go_wp2_with fail
  refine (write_any d g m 3 (T2 p q) (crashAt [(2, keep)]) 2 false 1 q w5 P5.out.1 (by omega) (by omega) (fun t k h => crashAt_le h) (by rw [SB.out]; unfold maxLen; omega)).mono ?_
  rintro e w6 ⟨rfl, h6, o6⟩
  obtain ⟨x1, x2, x3⟩ := writeE_T 3 (crashAt [(2, keep)]) 2 1 q (by omega) SB.out
  rw [cfT2 keep] at x1 x3
  rw [TT.out.2.2, show writeN 3 false 2 1 q = 3 from x2, show writeD 3 false (crashAt [(2, keep)]) 2 1 q = true from x3] at h6
  rw [show writeE 3 false (crashAt [(2, keep)]) 2 1 q = 20 from x1]
  have P6 := Lib.hid (And.intro h6 (P5.out.2.trans (o6.below P5.out.2.size hne2)))
  clear h6 o6 x1 x2 x3 P5
  go_wp2_with fail
  refine (power_disk d g m 3 (T3 p q k) (crashAt [(2, keep)]) 3 true w6 P6.out.1).mono ?_
  rintro e w7 ⟨rfl, h7, o7⟩
  have P7 := Lib.hid (And.intro h7 (P6.out.2.trans (o7.below P6.out.2.size hne2)))
  clear h7 o7 P6
  go_wp2_with fail
  refine (read_disk d g m 3 (T3 p q k) (crashAt [(2, keep)]) 3 false 0 w7 P7.out.1 (by omega)).mono ?_
  rintro e w8 ⟨rfl, h8, o8⟩
  rw [show readyE 3 false 0 = 0 from II.out.1, show readS 3 (T3 p q k) false 0 = q from RR.out.1]
  have P8 := Lib.hid (And.intro h8 (P7.out.2.trans (o8.below P7.out.2.size hne2)))
  clear h8 o8 P7
  go_wp2_with fail
  refine (read_disk d g m 3 (T3 p q k) (crashAt [(2, keep)]) 3 false 1 w8 P8.out.1 (by omega)).mono ?_
  rintro e w9 ⟨rfl, h9, o9⟩
  rw [show readyE 3 false 1 = 0 from II.out.2.1, show readS 3 (T3 p q k) false 1 = q.extract 0 k ++ p.extract k 128 from RR.out.2.1]
  have P9 := Lib.hid (And.intro h9 (P8.out.2.trans (o9.below P8.out.2.size hne2)))
  clear h9 o9 P8
  go_wp2_with fail
  refine (read_disk d g m 3 (T3 p q k) (crashAt [(2, keep)]) 3 false 2 w9 P9.out.1 (by omega)).mono ?_
  rintro e w10 ⟨rfl, h10, o10⟩
  rw [show readyE 3 false 2 = 0 from II.out.2.2, show readS 3 (T3 p q k) false 2 = txt (zeros 128) from RR.out.2.2]
  have P10 := (P9.out.2.trans (o10.below P9.out.2.size hne2))
  obtain ⟨Z, hZ⟩ : ∃ Z, txt (zeros 128) = Z := ⟨_, rfl⟩
  rw [hZ]
  have HZ := Lib.hid hZ
  clear h10 o10 P9 hZ RR II TT
  go_wp2_with fail
  refine (power_nil _).mono ?_
  rintro e w11 ⟨rfl, rfl⟩
  go_wp2_with fail
  refine (read_nil 0 _).mono ?_
  rintro e w12 ⟨rfl, rfl⟩
  go_wp2_with fail
  have hz := Blk.new w10 36 #[.slice none 0 0, .map none, .int .i64 0, .bool false]
  have bz : Below w.heap.size w (w10.alloc (.cells #[.slice none 0 0, .map none, .int .i64 0, .bool false] 36)) := P10.alloc P10.size _
  obtain ⟨z, hzz⟩ : ∃ z, w10.heap.size = z := ⟨_, rfl⟩
  rw [hzz] at hz
  rw [hzz]
  generalize w10.alloc (.cells #[.slice none 0 0, .map none, .int .i64 0, .bool false] 36) = w13 at *
  clear hzz P10
  have hzl := hz.lt
  have HZB := Lib.hid (fun (d : Nat) (os : Array Obj) => (hz.below (below_regrown w13 d os) hzl : Blk (Sort.grow (redrawn w13 d) os) z 36 _))
  have hps := SA.out
  have hqs := SB.out
  have hcc : (q.extract 0 k).size + (p.extract k 128).size ≤ 9223372036854775807 := by rw [ByteArray.size_extract, ByteArray.size_extract]; omega
  clear hz
  refine wp_region_quiet_below (by kernel_rfl) (by kernel_rfl) ?_
  repeat (go_big_quiet_step (fail))
  go_big_quiet_step ((go_at_call 6; exact Calls.regrown_of (block_nil Z HZ.out _)))
  repeat (go_big_quiet_step (fail))
  go_big_quiet_step ((go_at_call 8; exact Calls.regrown_of (same_below (write_nil 0 p _))))
  repeat (go_big_quiet_step (fail))
  go_big_quiet_step ((go_at_call 8; exact Calls.regrown_of (same_below (write_zero z 0 p _ (HZB.out _ _)))))
  repeat (go_big_quiet_step (fail))
  go_big_quiet_step ((go_at_call 11; exact Calls.regrown_of (same_below (copy_nil _))))
  repeat (go_big_quiet_step (fail))
  go_big_quiet_step ((go_at_call 12; exact Calls.regrown_of (same_below (blocks_zero z _ (HZB.out _ _)))))
  repeat (go_big_quiet_step (fail))
  go_big_quiet_step ((go_at_call 5; exact Calls.regrown_of (works_any _)))
  repeat (go_big_quiet_step (fail))
  refine wpQuiet_nil ?_
  intro _ hw'
  obtain ⟨⟨dq, osq⟩, hw''⟩ := hw'
  subst hw''
  have bb : Below w13.heap.size w13 (Sort.grow (redrawn w13 dq) osq) := below_regrown w13 dq osq
  have hB4 : Below w.heap.size w (Sort.grow (redrawn w13 dq) osq) := bz.trans (bb.mono bz.size)
  generalize Sort.grow (redrawn w13 dq) osq = w14 at *
  go_wp2_with fail
  go_ret
  exact ⟨rfl, hB4⟩
theorem diskTornW.walk (a b : ByteArray) (keep : Int) (W : World) (ha : a.size ≤ maxLen) (hb : b.size ≤ maxLen) (hk : (Lit.int .i64 keep).wf = true) :
    Calls Try.prog 3 #[.string a, .string b, .int .i64 keep] W fun e w' => e = .returned (.bool true) ∧ Below W.heap.size W w' := torn_any a b keep W hk ha hb
end Go.Proofs.Ytmjhomhganaceaa
