/-
  What stands in quotes at a place: the plain reading, and the walk of the reference's Read. Conditions: the text is short.
-/
import Derived.Test.YtgdfklgbdfpinaaDoorQuRefEsc
import Derived.Lib.AppendStr
import Derived.Handy
namespace Go.Proofs.YtgdfklgbdfpinaaDoor
set_option linter.unusedVariables false
open Go.RowKit Go.Sort

/-- text, end, errno, place -/
abbrev RD := List UInt8 × Nat × Nat × Nat
def readF (s : ByteArray) : Nat → Nat → List UInt8 → RD
  | 0, _, _ => ([], 0, 1, s.size)
  | f + 1, i, acc =>
    if ¬ i < s.size then ([], 0, 1, s.size)
    else if byt s i = 34 then (acc, i + 1, 0, 0)
    else if byt s i = 92 then
      if (escR s i).1 = 1 then ([], 0, 1, s.size)
      else if (escR s i).1 = 2 then ([], 0, 2, i)
      else readF s f (i + (escR s i).2.2) (acc ++ [UInt8.ofNat (escR s i).2.1])
    else if safeB s i = true then readF s f (i + unit s i) (acc ++ (s.data.toList.drop i).take (unit s i))
    else ([], 0, 2, i)
def readAt (s : ByteArray) (q : Int) : RD :=
  if q < 0 ∨ (s.size : Int) < q then ([], 0, 7, 0)
  else if q = s.size then ([], 0, 1, s.size)
  else if byt s q.toNat ≠ 34 then ([], 0, 2, q.toNat)
  else readF s s.size (q.toNat + 1) []
def rdV (r : RD) : Value := .tuple #[.string (txt r.1), .int .i64 r.2.1, .agg #[.int .i64 r.2.2.1, .int .i64 r.2.2.2]]
theorem readF_end {s : ByteArray} {f i : Nat} {acc : List UInt8} (h : ¬ i < s.size) : readF s f i acc = ([], 0, 1, s.size) := by
  cases f with
  | zero => rfl
  | succ f => rw [readF, if_pos h]
theorem readF_quote {s : ByteArray} {f i : Nat} {acc : List UInt8} (h : i < s.size) (hb : byt s i = 34) : readF s (f + 1) i acc = (acc, i + 1, 0, 0) := by
  rw [readF, if_neg (by omega), if_pos hb]
theorem readF_cut {s : ByteArray} {f i : Nat} {acc : List UInt8} (h : i < s.size) (hb : byt s i = 92) (he : (escR s i).1 = 1) : readF s (f + 1) i acc = ([], 0, 1, s.size) := by
  rw [readF, if_neg (by omega), if_neg (by omega), if_pos hb, if_pos he]
theorem readF_form {s : ByteArray} {f i : Nat} {acc : List UInt8} (h : i < s.size) (hb : byt s i = 92) (he : (escR s i).1 = 2) : readF s (f + 1) i acc = ([], 0, 2, i) := by
  rw [readF, if_neg (by omega), if_neg (by omega), if_pos hb, if_neg (by omega), if_pos he]
theorem readF_esc {s : ByteArray} {f i : Nat} {acc : List UInt8} (h : i < s.size) (hb : byt s i = 92) (he : (escR s i).1 = 0) :
    readF s (f + 1) i acc = readF s f (i + (escR s i).2.2) (acc ++ [UInt8.ofNat (escR s i).2.1]) := by
  rw [readF, if_neg (by omega), if_neg (by omega), if_pos hb, if_neg (by omega), if_neg (by omega)]
theorem readF_safe {s : ByteArray} {f i : Nat} {acc : List UInt8} (h : i < s.size) (h1 : byt s i ≠ 34) (h2 : byt s i ≠ 92) (hs : safeB s i = true) :
    readF s (f + 1) i acc = readF s f (i + unit s i) (acc ++ (s.data.toList.drop i).take (unit s i)) := by
  rw [readF, if_neg (by omega), if_neg h1, if_neg h2, if_pos hs]
theorem readF_bad {s : ByteArray} {f i : Nat} {acc : List UInt8} (h : i < s.size) (h1 : byt s i ≠ 34) (h2 : byt s i ≠ 92) (hs : ¬ safeB s i = true) :
    readF s (f + 1) i acc = ([], 0, 2, i) := by
  rw [readF, if_neg (by omega), if_neg h1, if_neg h2, if_neg hs]
theorem escN_in (n b1 b2 b3 : Nat) (h1 : b1 < 256) : (escN n b1 b2 b3).1 = 1 ∨ (escN n b1 b2 b3).1 = 2 ∨ ((escN n b1 b2 b3).1 = 0 ∧ (escN n b1 b2 b3).2.1 < 256 ∧ 2 ≤ (escN n b1 b2 b3).2.2 ∧ (escN n b1 b2 b3).2.2 ≤ 4 ∧ (escN n b1 b2 b3).2.2 ≤ n) := by
  unfold escN
  split
  · exact .inl rfl
  · split
    · exact .inr (.inr ⟨rfl, h1, by simp only; omega, by simp only; omega, by simp only; omega⟩)
    · split
      · exact .inr (.inl rfl)
      · split
        · exact .inl rfl
        · split
          · exact .inr (.inl rfl)
          · rename_i a ha
            split
            · exact .inl rfl
            · split
              · exact .inr (.inl rfl)
              · rename_i b hb
                have := unhex_lt ha
                have := unhex_lt hb
                exact .inr (.inr ⟨rfl, by simp only; omega, by simp only; omega, by simp only; omega, by simp only; omega⟩)
theorem escR_in (s : ByteArray) (i : Nat) : (escR s i).1 = 1 ∨ (escR s i).1 = 2 ∨ ((escR s i).1 = 0 ∧ (escR s i).2.1 < 256 ∧ 2 ≤ (escR s i).2.2 ∧ (escR s i).2.2 ≤ 4 ∧ (escR s i).2.2 ≤ s.size - i) :=
  escN_in _ _ _ _ (byt_lt _ _)

theorem ret_rd {r : RD} {a : ByteArray} {b : Int} {c d : Int} {l : List UInt8} {b' c' d' : Nat} (h : r = (l, b', c', d')) (ha : txt l = a) (hb : (b' : Int) = b) (hc : (c' : Int) = c) (hd : (d' : Int) = d) :
    Ending.returned (.tuple #[.string a, .int .i64 b, .agg #[.int .i64 c, .int .i64 d]]) = .returned (rdV r) := by
  rw [h, ← ha, ← hb, ← hc, ← hd]
  rfl

theorem fault_set {w wr : World} {B g : Nat} {t : TypeId} {a b : Value} (x y : Value) (hB : Blk wr g t #[a, b]) (hbw : Below B w wr) (hg : B ≤ g) :
    ∃ w2, (wr.setCell ⟨g, 0, none⟩ x).setCell ⟨g, 1, none⟩ y = w2 ∧ w2.cell? ⟨g, 0, none⟩ = some x ∧ w2.cell? ⟨g, 1, none⟩ = some y ∧ Below B w w2 := by
  have h2 := (hB.set_ 0 x).set_ 1 y
  refine ⟨_, rfl, ?_, ?_, (hbw.setCell (p := ⟨g, 0, none⟩) hg x).setCell (p := ⟨g, 1, none⟩) hg y⟩
  · rw [h2.cell 0]; rfl
  · rw [h2.cell 1]; rfl

set_option maxHeartbeats 4000000 in
set_option maxRecDepth 1000000 in
theorem refread_any (s : ByteArray) (q : Int) (w : World) (hs : s.size ≤ 1000000) :
    Calls Tryd.prog 36 #[.string s, .int .i64 q] w fun e w' => e = .returned (rdV (readAt s q)) ∧ Below w.heap.size w w' := by
  have hmax : s.size ≤ maxLen := by unfold maxLen; omega
  go_enter Tryd.func36, Tryd.ntmps36
  by_cases h0 : q < 0
  · have HR : Hid (readAt s q = ([], 0, 7, 0)) := Lib.hid (by unfold readAt; rw [if_pos (.inl h0)])
    go_wp2_with fail
    go_returns
    exact ⟨ret_rd HR.out rfl rfl rfl rfl, (Below.refl _ _).alloc (Nat.le_refl _) _⟩
  by_cases h1 : (s.size : Int) < q
  · have HR : Hid (readAt s q = ([], 0, 7, 0)) := Lib.hid (by unfold readAt; rw [if_pos (.inr h1)])
    go_wp2_with fail
    go_returns
    exact ⟨ret_rd HR.out rfl rfl rfl rfl, (Below.refl _ _).alloc (Nat.le_refl _) _⟩
  obtain ⟨p, rfl⟩ : ∃ p : Nat, q = p := ⟨q.toNat, by omega⟩
  have hn : ¬ ((p : Int) < 0 ∨ (s.size : Int) < p) := by omega
  by_cases h2 : p = s.size
  · have HR : Hid (readAt s (p : Int) = ([], 0, 1, p)) := Lib.hid (by unfold readAt; rw [if_neg hn, if_pos (by omega), h2])
    have h2' : ((p : Int) == (s.size : Int)) = true := by simp [h2]
    clear h2 hn
    go_wp2_with fail
    go_returns
    exact ⟨ret_rd HR.out rfl rfl rfl rfl, (Below.refl _ _).alloc (Nat.le_refl _) _⟩
  have h2' : ((p : Int) == (s.size : Int)) = false := by simp; omega
  have hp : p < s.size := by omega
  have hbt := byt_at s p hp
  obtain ⟨d, hd⟩ : ∃ d, s[p]'hp = d := ⟨_, rfl⟩
  rw [hd] at hbt
  by_cases h3 : byt s p = 34
  case neg =>
    have HR : Hid (readAt s (p : Int) = ([], 0, 2, p)) := Lib.hid (by unfold readAt; rw [if_neg hn, if_neg (by omega), Int.toNat_natCast, if_pos h3])
    have h3' : ¬ (d.toNat : Int) = 34 := by omega
    clear h2 hn h3 hbt
    go_wp2_with fail
    go_returns
    exact ⟨ret_rd HR.out rfl rfl rfl rfl, (Below.refl _ _).alloc (Nat.le_refl _) _⟩
  have HR : Hid (readAt s (p : Int) = readF s s.size (p + 1) []) := Lib.hid (by unfold readAt; rw [if_neg hn, if_neg (by omega), Int.toNat_natCast, if_neg (by omega)])
  have h3' : (d.toNat : Int) = 34 := by omega
  clear h2 hn h3 hbt
  go_wp2_with fail
  have hB0 : Blk (w.alloc (.cells #[.int .i64 0, .int .i64 0] 33)) w.heap.size 33 #[.int .i64 0, .int .i64 0] := Blk.new w 33 _
  have hbw0 : Below w.heap.size w (w.alloc (.cells #[.int .i64 0, .int .i64 0] 33)) := (Below.refl _ _).alloc (Nat.le_refl _) _
  generalize w.alloc (.cells #[.int .i64 0, .int .i64 0] 33) = w1 at *
  go_loopw [7, 8] (fun o c wr => ∃ (i fuel : Nat) (acc : List UInt8), c = .int .i64 i ∧ o = .string (txt acc) ∧ Hid (readAt s (p : Int) = readF s fuel i acc) ∧ s.size ≤ i + fuel ∧ i ≤ s.size ∧ acc.length ≤ i ∧ Blk wr w.heap.size 33 #[.int .i64 0, .int .i64 0] ∧ Below w.heap.size w wr) (fun _ c _ => s.size - (intOf c).toNat)
  case atStart => exact ⟨p + 1, s.size, [], by go_num, rfl, HR, by omega, by omega, by simp, hB0, hbw0⟩
  case round =>
    obtain ⟨i, fuel, acc, rfl, rfl, hrd, hfu, hpl, hal, hB, hbw⟩ := hrel
    have hta : (txt acc).size ≤ 1000000 := by rw [txt_size]; omega
    by_cases hi : i < s.size
    · obtain ⟨f, rfl⟩ : ∃ f, fuel = f + 1 := ⟨fuel - 1, by omega⟩
      have c0 := hB.cell 0
      have c1 := hB.cell 1
      have z := hB.frozen
      have hF := hB.lt
      have hbt := byt_at s i hi
      obtain ⟨d, hd⟩ : ∃ d, s[i]'hi = d := ⟨_, rfl⟩
      rw [hd] at hbt
      by_cases h34 : byt s i = 34
      · have HE := Lib.hid (hrd.out.trans (readF_quote hi h34))
        have hb' : ((d.toNat : Int) == 34) = true := by rw [hbt, h34]; rfl
        clear hbt h34
        go_wp2_with fail
        obtain ⟨w2, e2, r0, r1, b2⟩ := fault_set (.int .i64 0) (.int .i64 0) hB hbw (Nat.le_refl _)
        rw [e2]
        clear e2 c0 c1 z hB
        (try simp only [Exit.inBlock, Exit.then])
        refine bodyPost_ret (by simp [results, Tryd.results36, go_sem, r0, r1]; try rfl) rfl ?_
        exact ⟨ret_rd HE.out rfl (by go_num) rfl rfl, b2⟩
      have hb34 : ((d.toNat : Int) == 34) = false := beq_eq_false_iff_ne.2 (by omega)
      by_cases h92 : byt s i = 92
      · have hb92 : ((d.toNat : Int) == 92) = true := by rw [hbt, h92]; rfl
        have he := escR_in s i
        have H92 := Lib.hid h92
        have H34 := Lib.hid h34
        clear hbt h34 h92
        rcases he with he | he | he
        · have HE := Lib.hid (hrd.out.trans (readF_cut hi H92.out he))
          have hT : escT (escR s i) = ⟨#[]⟩ := by unfold escT; rw [if_neg (by omega)]
          have hI : escI (escR s i) = -1 := by unfold escI; rw [if_pos he]
          go_wp2_with (go_at_call 50; refine (refescape_any s i _ hi hmax).mono ?_)
          rintro e w4 ⟨rfl, b4⟩
          rw [hT, hI]
          have hB4 := hB.below b4 hF
          have hbw4 := hbw.trans (b4.mono hbw.size)
          clear hB hbw b4 c0 c1 z
          have c0 := hB4.cell 0
          have c1 := hB4.cell 1
          have z := hB4.frozen
          go_wp2_with fail
          obtain ⟨w2, e2, r0, r1, b2⟩ := fault_set (.int .i64 1) (.int .i64 s.size) hB4 hbw4 (Nat.le_refl _)
          rw [e2]
          clear e2 c0 c1 z hB4
          (try simp only [Exit.inBlock, Exit.then])
          refine bodyPost_ret (by simp [results, Tryd.results36, go_sem, r0, r1]; try rfl) rfl ?_
          exact ⟨ret_rd HE.out rfl rfl rfl rfl, b2⟩
        · have HE := Lib.hid (hrd.out.trans (readF_form hi H92.out he))
          have hT : escT (escR s i) = ⟨#[]⟩ := by unfold escT; rw [if_neg (by omega)]
          have hI : escI (escR s i) = 0 := by unfold escI; rw [if_neg (by omega), if_pos he]
          go_wp2_with (go_at_call 50; refine (refescape_any s i _ hi hmax).mono ?_)
          rintro e w4 ⟨rfl, b4⟩
          rw [hT, hI]
          have hB4 := hB.below b4 hF
          have hbw4 := hbw.trans (b4.mono hbw.size)
          clear hB hbw b4 c0 c1 z
          have c0 := hB4.cell 0
          have c1 := hB4.cell 1
          have z := hB4.frozen
          go_wp2_with fail
          obtain ⟨w2, e2, r0, r1, b2⟩ := fault_set (.int .i64 2) (.int .i64 i) hB4 hbw4 (Nat.le_refl _)
          rw [e2]
          clear e2 c0 c1 z hB4
          (try simp only [Exit.inBlock, Exit.then])
          refine bodyPost_ret (by simp [results, Tryd.results36, go_sem, r0, r1]; try rfl) rfl ?_
          exact ⟨ret_rd HE.out rfl rfl rfl rfl, b2⟩
        · obtain ⟨he0, hb, hk2, hk4, hkn⟩ := he
          have HE := Lib.hid (hrd.out.trans (readF_esc hi H92.out he0))
          have hT : escT (escR s i) = txt [UInt8.ofNat (escR s i).2.1] := by unfold escT; rw [if_pos he0]
          have hI : escI (escR s i) = ((escR s i).2.2 : Int) := by unfold escI; rw [if_neg (by omega), if_neg (by omega)]
          obtain ⟨b, hbb⟩ : ∃ b, UInt8.ofNat (escR s i).2.1 = b := ⟨_, rfl⟩
          obtain ⟨k, hkk⟩ : ∃ k, (escR s i).2.2 = k := ⟨_, rfl⟩
          rw [hkk] at hk2 hk4 hkn hI HE
          rw [hbb] at hT HE
          have hx1 : (txt [b]).size = 1 := rfl
          have hk0 : ((k : Int) == 0) = false := by simp; omega
          go_wp2_with (go_at_call 50; refine (refescape_any s i _ hi hmax).mono ?_)
          rintro e w4 ⟨rfl, b4⟩
          rw [hT, hI]
          have hB4 := hB.below b4 hF
          have hbw4 := hbw.trans (b4.mono hbw.size)
          clear hB hbw b4 c0 c1 z hT hI hkk hbb
          go_wp2_with fail
          go_roundw
          case rel => exact ⟨i + k, f, acc ++ [b], by go_num, by rw [txt_append], HE, by omega, by omega, by rw [List.length_append]; simp; omega, hB4, hbw4⟩
          case measure => simp [intOf]; omega
      have hb92 : ((d.toNat : Int) == 92) = false := beq_eq_false_iff_ne.2 (by omega)
      by_cases hsf : safeB s i = true
      · have HE := Lib.hid (hrd.out.trans (readF_safe hi h34 h92 hsf))
        have hun : rune s i = unit s i := by
          unfold unit
          rw [if_neg]
          unfold safeB at hsf
          have := of_decide_eq_true hsf
          omega
        have HUN := Lib.hid hun
        have hu1 := unit_pos s i
        have hu2 := unit_le s i hi
        have HSF := Lib.hid hsf
        have hxs : (s.extract i (i + unit s i)).size ≤ 1000000 := by rw [ByteArray.size_extract]; omega
        have hk0 : (((unit s i : Nat) : Int) == 0) = false := by simp; omega
        clear hbt h34 h92 hsf hun
        go_wp2_with (first | (go_at_call 51; refine (refsafe_lit s i true _ hi hmax HSF.out).mono ?_; rintro e w' ⟨rfl, rfl⟩) | (go_at_call 52; refine (refrune_any s i _ hi hmax).mono ?_; rintro e w' ⟨rfl, rfl⟩; rw [HUN.out]))
        go_roundw
        case rel => exact ⟨i + unit s i, f, acc ++ (s.data.toList.drop i).take (unit s i), by go_num, by rw [extract_txt, txt_append, Nat.add_sub_cancel_left], HE, by omega, by omega, by rw [List.length_append, List.length_take]; omega, hB, hbw⟩
        case measure => simp [intOf]; omega
      · have HE := Lib.hid (hrd.out.trans (readF_bad hi h34 h92 hsf))
        have HSF := Lib.hid (Bool.not_eq_true _ ▸ hsf)
        clear hbt h34 h92 hsf
        go_wp2_with (go_at_call 51; refine (refsafe_lit s i false _ hi hmax HSF.out).mono ?_; rintro e w' ⟨rfl, rfl⟩)
        obtain ⟨w2, e2, r0, r1, b2⟩ := fault_set (.int .i64 2) (.int .i64 i) hB hbw (Nat.le_refl _)
        rw [e2]
        clear e2 c0 c1 z hB
        (try simp only [Exit.inBlock, Exit.then])
        refine bodyPost_ret (by simp [results, Tryd.results36, go_sem, r0, r1]; try rfl) rfl ?_
        exact ⟨ret_rd HE.out rfl rfl rfl rfl, b2⟩
    · have HE := Lib.hid (hrd.out.trans (readF_end hi))
      have c0 := hB.cell 0
      have c1 := hB.cell 1
      have z := hB.frozen
      go_wp2_with fail
      obtain ⟨w2, e2, r0, r1, b2⟩ := fault_set (.int .i64 1) (.int .i64 s.size) hB hbw (Nat.le_refl _)
      rw [e2]
      clear e2 c0 c1 z hB
      (try simp only [Exit.inBlock, Exit.then])
      refine bodyPost_ret (by simp [results, Tryd.results36, go_sem, r0, r1]; try rfl) rfl ?_
      exact ⟨ret_rd HE.out rfl rfl rfl rfl, b2⟩
end Go.Proofs.YtgdfklgbdfpinaaDoor
