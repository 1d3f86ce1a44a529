/-
  Prefixes of the rest of a text; the walk of labels.label. Conditions: the text's size; the tables of unicode/utf8.
-/
import Derived.Test.YtgdfklgbdfpinaaDoorLbTakeLaw
import Derived.Test.YtgdfklgbdfpinaaDoorLbOf
import Derived.StillTailTactics
namespace Go.Proofs.YtgdfklgbdfpinaaDoor
set_option linter.unusedVariables false
set_option linter.unusedSimpArgs false
open Go.RowKit Go.Maps Go.Sort Go.ChangeShapes Go.WideShapes

theorem list_byt (s : ByteArray) (p : Nat) (h : p < s.data.toList.length) : (s.data.toList[p]'h).toNat = byt s p := by
  rw [byt_getD, List.getD_eq_getElem?_getD, List.getElem?_eq_getElem h]; rfl
theorem same_byte (x : UInt8) (c : Nat) (hc : c < 256) : (UInt8.ofNat c == x) = decide (x.toNat = c) := by
  by_cases h : x.toNat = c
  · subst h; simp
  · rw [decide_eq_false h]
    refine beq_eq_false_iff_ne.2 fun e => h ?_
    rw [← e]
    simp; omega
theorem pre1 (s : ByteArray) (p c : Nat) (hc : c < 256) : Lib.hasPrefix (s.extract p s.size).data.toList [UInt8.ofNat c] = isB s p c := by
  rw [tail_list, isB]
  by_cases h : p < s.size
  · have hl : p < s.data.toList.length := by rw [← size_list]; exact h
    rw [List.drop_eq_getElem_cons hl, Lib.hasPrefix, List.isPrefixOf, List.isPrefixOf, decide_eq_true h, same_byte _ c hc, list_byt s p hl]
    simp
  · rw [List.drop_eq_nil_of_le (by rw [← size_list]; omega), decide_eq_false h]
    rfl
theorem pre2 (s : ByteArray) (p c d : Nat) (hc : c < 256) (hd : d < 256) : Lib.hasPrefix (s.extract p s.size).data.toList [UInt8.ofNat c, UInt8.ofNat d] = (isB s p c && isB s (p + 1) d) := by
  have h2 := pre1 s (p + 1) d hd
  rw [tail_list] at h2
  rw [tail_list, isB]
  by_cases h : p < s.size
  · have hl : p < s.data.toList.length := by rw [← size_list]; exact h
    rw [List.drop_eq_getElem_cons hl, Lib.hasPrefix, List.isPrefixOf, decide_eq_true h, same_byte _ c hc, list_byt s p hl, ← h2]
    simp [Lib.hasPrefix]
  · rw [List.drop_eq_nil_of_le (by rw [← size_list]; omega), decide_eq_false h]
    rfl
theorem pre_lit (s : ByteArray) (p c : Nat) (l : ByteArray) (w : World) (b : Bool) (hc : c < 256) (hl : l.data.toList = [UInt8.ofNat c]) (h : isB s p c = b) :
    Calls Tryd.prog 31 #[.string (s.extract p s.size), .string l] w fun e w' => e = .returned (.bool b) ∧ w' = w := by
  have := strings_HasPrefix (s.extract p s.size) l w
  rw [hl, pre1 s p c hc, h] at this
  exact this
theorem pre_lit2 (s : ByteArray) (p c d : Nat) (l : ByteArray) (w : World) (b : Bool) (hc : c < 256) (hd : d < 256) (hl : l.data.toList = [UInt8.ofNat c, UInt8.ofNat d]) (h1 : isB s p c = true) (h : isB s (p + 1) d = b) :
    Calls Tryd.prog 31 #[.string (s.extract p s.size), .string l] w fun e w' => e = .returned (.bool b) ∧ w' = w := by
  have := strings_HasPrefix (s.extract p s.size) l w
  rw [hl, pre2 s p c d hc hd, h1, h] at this
  exact this
theorem at_lit (s : ByteArray) (i e a : Nat) (w : World) (h : atN s i = (e, a)) : Calls Tryd.prog 30 #[.string s, .int .i64 i] w fun r w' => r = .returned (.agg #[.int .i64 e, .int .i64 a]) ∧ Below w.heap.size w w' := by
  have h1 := at_any s i w
  rw [atN_atE, h] at h1
  exact h1

/-- what label tells -/
abbrev LR := Lab × Nat × Nat × Nat
def labelR (s : ByteArray) (i : Nat) : LR :=
  if s.size ≤ i then ((.empty, .empty), 0, atN s i)
  else if ¬ (1 ≤ signs s i ∧ signs s i ≤ 32) then ((.empty, .empty), 0, 4, i)
  else if isB s (i + signs s i) 61 = false then ((.empty, .empty), 0, atN s (i + signs s i))
  else (labAt s i, (readAt s ((i + signs s i + 1 : Nat) : Int)).2)
def lrV (r : LR) : Value := .tuple #[.agg #[.string r.1.1, .string r.1.2], .int .i64 r.2.1, .agg #[.int .i64 r.2.2.1, .int .i64 r.2.2.2]]

/-- both results are filled -/
theorem both_set {w wr : World} {B g h : Nat} {t u : TypeId} {a b c d : Value} (x y z v : Value) (hB : Blk wr g t #[a, b]) (hC : Blk wr h u #[c, d]) (hbw : Below B w wr) (hg : B ≤ g) (hh : B ≤ h) (hgh : g ≠ h) :
    ∃ w2, ((((wr.setCell ⟨g, 0, none⟩ x).setCell ⟨g, 1, none⟩ y).setCell ⟨h, 0, none⟩ z).setCell ⟨h, 1, none⟩ v) = w2 ∧ w2.cell? ⟨g, 0, none⟩ = some x ∧ w2.cell? ⟨g, 1, none⟩ = some y ∧ w2.cell? ⟨h, 0, none⟩ = some z ∧ w2.cell? ⟨h, 1, none⟩ = some v ∧ Below B w w2 := by
  have h1 := blk_set2 hB x y
  have c1 := hC.only (only_set2 wr g x y) (by simp; omega)
  have h2 := h1.only (only_set2 _ h z v) (by simp; omega)
  have c2 := blk_set2 c1 z v
  exact ⟨_, rfl, h2.cell 0, h2.cell 1, c2.cell 0, c2.cell 1, (((hbw.setCell (p := ⟨g, 0, none⟩) hg x).setCell (p := ⟨g, 1, none⟩) hg y).setCell (p := ⟨h, 0, none⟩) hh z).setCell (p := ⟨h, 1, none⟩) hh v⟩

set_option maxRecDepth 100000 in
set_option maxHeartbeats 4000000 in
theorem label_at (s : ByteArray) (i : Nat) (w : World) (hs : s.size ≤ 1000000) (hi0 : i ≤ s.size + 2) (hT : Lib.Utf8Tabs 0 1 w) :
    Calls Tryd.prog 32 #[.string s, .int .i64 i] w fun e w' => e = .returned (lrV (labelR s i)) ∧ Below w.heap.size w w' := by
  have hmax : s.size ≤ maxLen := by unfold maxLen; omega
  have HT := Lib.hid hT
  clear hT
  have hB := (Blk.new w 42 #[.string ⟨#[]⟩, .string ⟨#[]⟩]).alloc (.cells #[.int .i64 0, .int .i64 0] 33)
  have hC := Blk.new (w.alloc (.cells #[.string ⟨#[]⟩, .string ⟨#[]⟩] 42)) 33 #[.int .i64 0, .int .i64 0]
  have hbw := ((Below.refl w.heap.size w).alloc (Nat.le_refl _) (.cells #[.string ⟨#[]⟩, .string ⟨#[]⟩] 42)).alloc (by simp) (.cells #[.int .i64 0, .int .i64 0] 33)
  have hz1 : (w.alloc (.cells #[.string ⟨#[]⟩, .string ⟨#[]⟩] 42)).heap.size = w.heap.size + 1 := by simp
  rw [hz1] at hC
  obtain ⟨⟨v0, v1⟩, ⟨f0, f1⟩⟩ := hB.c2
  obtain ⟨⟨v2, v3⟩, ⟨f2, f3⟩⟩ := hC.c2
  have HQ := Lib.hid (And.intro hB (And.intro hC hbw))
  clear hB hC hbw hz1
  by_cases hi : s.size ≤ i
  · have k1 : decide (s.size ≤ i) = true := decide_eq_true hi
    obtain ⟨⟨e, a⟩, hea⟩ : ∃ r, atN s i = r := ⟨_, rfl⟩
    have ho : ∀ w, _ := fun w => at_lit s i e a w hea
    have HE : Hid (labelR s i = ((.empty, .empty), 0, e, a)) := Lib.hid (by rw [labelR, if_pos hi, hea])
    clear hi hea
    go_enter Tryd.func32, Tryd.ntmps32
    go_wp2_with fail
    generalize ((w.alloc (.cells #[.string ⟨#[]⟩, .string ⟨#[]⟩] 42)).alloc (.cells #[.int .i64 0, .int .i64 0] 33)) = w0 at *
    clear v0 v1 v2 v3 f0 f1 f2 f3
    refine (ho _).mono ?_
    rintro r w5 ⟨rfl, b5⟩
    have hB5 := HQ.out.1.below b5 HQ.out.1.lt
    have hC5 := HQ.out.2.1.below b5 HQ.out.2.1.lt
    have B5 := HQ.out.2.2.trans (b5.mono HQ.out.2.2.size)
    obtain ⟨⟨u0, u1⟩, ⟨g0, g1⟩⟩ := hB5.c2
    obtain ⟨⟨u2, u3⟩, ⟨g2, g3⟩⟩ := hC5.c2
    have HQ5 := Lib.hid (And.intro hB5 (And.intro hC5 B5))
    clear hB5 hC5 B5 b5
    go_wp2_with fail
    obtain ⟨w2, e2, r0, r1, r2, r3, b2⟩ := both_set (.string ⟨#[]⟩) (.string ⟨#[]⟩) (.int .i64 e) (.int .i64 a) HQ5.out.1 HQ5.out.2.1 HQ5.out.2.2 (Nat.le_refl _) (Nat.le_succ _) (by omega)
    rw [e2]
    clear e2 u0 u1 g0 g1 u2 u3 g2 g3
    refine bodyPost_ret (by simp [results, Tryd.results32, go_sem, r0, r1, r2, r3]; try rfl) rfl ?_
    exact ⟨by rw [HE.out]; rfl, b2⟩
  have k1 : decide (s.size ≤ i) = false := decide_eq_false hi
  have hil : i ≤ s.size := by omega
  have hsl := signs_le s i
  have hcut : ∀ w, _ := fun w => cut_any s i w hmax hil
  have hlb := labelB_cut s i hil
  have hxs : (s.extract i (i + signs s i)).size ≤ maxLen := by rw [ByteArray.size_extract]; omega
  have hR0 : labelR s i = if ¬ (1 ≤ signs s i ∧ signs s i ≤ 32) then ((.empty, .empty), 0, 4, i) else if isB s (i + signs s i) 61 = false then ((.empty, .empty), 0, atN s (i + signs s i)) else (labAt s i, (readAt s ((i + signs s i + 1 : Nat) : Int)).2) := by rw [labelR, if_neg hi]
  rw [labAt] at hR0
  obtain ⟨n, hn⟩ : ∃ n, signs s i = n := ⟨_, rfl⟩
  rw [hn] at hsl hlb hxs hR0
  simp only [hn] at hcut
  obtain ⟨x, hx⟩ : ∃ x, s.extract i (i + n) = x := ⟨_, rfl⟩
  rw [hx] at hlb hxs hR0
  simp only [hx] at hcut
  have HX := Lib.hid (And.intro hn hx)
  clear hn hx
  by_cases hn32 : ¬ (1 ≤ n ∧ n ≤ 32)
  · have hlab : ∀ w, _ := fun w => label_lit x w false hxs (by rw [hlb]; simp; omega)
    have HE := Lib.hid (hR0.trans (if_pos hn32))
    clear hR0 hlb hn32
    go_enter Tryd.func32, Tryd.ntmps32
    go_wp2_with fail
    generalize ((w.alloc (.cells #[.string ⟨#[]⟩, .string ⟨#[]⟩] 42)).alloc (.cells #[.int .i64 0, .int .i64 0] 33)) = w0 at *
    clear v0 v1 v2 v3 f0 f1 f2 f3
    refine (hcut _).mono ?_
    rintro r w3 ⟨rfl, b3⟩
    have hB3 := HQ.out.1.below b3 HQ.out.1.lt
    have hC3 := HQ.out.2.1.below b3 HQ.out.2.1.lt
    have B3 := HQ.out.2.2.trans (b3.mono HQ.out.2.2.size)
    clear HQ b3
    go_wp2_with fail
    refine (hlab _).mono ?_
    rintro r w4 ⟨rfl, b4⟩
    have hB5 := hB3.below b4 hB3.lt
    have hC5 := hC3.below b4 hC3.lt
    have B5 := B3.trans (b4.mono B3.size)
    clear hB3 hC3 B3 b4
    obtain ⟨⟨u0, u1⟩, ⟨g0, g1⟩⟩ := hB5.c2
    obtain ⟨⟨u2, u3⟩, ⟨g2, g3⟩⟩ := hC5.c2
    have HQ5 := Lib.hid (And.intro hB5 (And.intro hC5 B5))
    clear hB5 hC5 B5
    go_wp2_with fail
    obtain ⟨w2, e2, r0, r1, r2, r3, b2⟩ := both_set (.string ⟨#[]⟩) (.string ⟨#[]⟩) (.int .i64 4) (.int .i64 i) HQ5.out.1 HQ5.out.2.1 HQ5.out.2.2 (Nat.le_refl _) (Nat.le_succ _) (by omega)
    rw [e2]
    clear e2 u0 u1 g0 g1 u2 u3 g2 g3
    refine bodyPost_ret (by simp [results, Tryd.results32, go_sem, r0, r1, r2, r3]; try rfl) rfl ?_
    exact ⟨by rw [HE.out]; rfl, b2⟩
  have hlab : ∀ w, _ := fun w => label_lit x w true hxs (by rw [hlb]; simp; omega)
  have hR1 := hR0.trans (if_neg hn32)
  clear hR0 hlb
  have hin : i + n ≤ s.size := by omega
  have wpn1 : IntKind.i64.wrap (((i + n : Nat) : Int) + 1) = ((i + n + 1 : Nat) : Int) := by rw [IntWalk.i64_in _ (by omega)]; omega
  clear hn32 hsl
  go_enter Tryd.func32, Tryd.ntmps32
  go_wp2_with fail
  generalize ((w.alloc (.cells #[.string ⟨#[]⟩, .string ⟨#[]⟩] 42)).alloc (.cells #[.int .i64 0, .int .i64 0] 33)) = w0 at *
  clear v0 v1 v2 v3 f0 f1 f2 f3
  refine (hcut _).mono ?_
  rintro r w3 ⟨rfl, b3⟩
  have hB3 := HQ.out.1.below b3 HQ.out.1.lt
  have hC3 := HQ.out.2.1.below b3 HQ.out.2.1.lt
  have B3 := HQ.out.2.2.trans (b3.mono HQ.out.2.2.size)
  clear HQ b3
  go_wp2_with fail
  refine (hlab _).mono ?_
  rintro r w4 ⟨rfl, b4⟩
  have hB5 := hB3.below b4 hB3.lt
  have hC5 := hC3.below b4 hC3.lt
  have B5 := B3.trans (b4.mono B3.size)
  have HQ := Lib.hid (And.intro hB5 (And.intro hC5 B5))
  clear hB3 hC3 B3 b4 hB5 hC5 B5 hcut hlab
  cases h61 : isB s (i + n) 61 with
  | false =>
    obtain ⟨⟨e, a⟩, hea⟩ : ∃ r, atN s (i + n) = r := ⟨_, rfl⟩
    have ho : ∀ w, _ := fun w => at_lit s (i + n) e a w hea
    have HE := Lib.hid (hR1.trans ((if_pos h61).trans (by rw [hea])))
    clear hR1 hea
    by_cases hlt : i + n < s.size
    · have k2 : decide (s.size ≤ i + n) = false := decide_eq_false (by omega)
      have hb := byt_at s (i + n) hlt
      have hne : byt s (i + n) ≠ 61 := by
        rw [isB, decide_eq_true hlt] at h61
        simpa using h61
      obtain ⟨d, hd⟩ : ∃ d, s[i + n]'hlt = d := ⟨_, rfl⟩
      rw [hd] at hb
      obtain ⟨p, hp⟩ : ∃ p : Int, (d.toNat : Int) = p := ⟨_, rfl⟩
      have hpq : (p == 61) = false := by
        rw [← hp, hb]; exact beq_eq_false_iff_ne.2 (by omega)
      have hpq2 : (p != 61) = true := by rw [bne, hpq]; rfl
      clear h61 hb hne
      go_wp2_with fail
      refine (ho _).mono ?_
      rintro r w5 ⟨rfl, b5⟩
      have hB5 := HQ.out.1.below b5 HQ.out.1.lt
      have hC5 := HQ.out.2.1.below b5 HQ.out.2.1.lt
      have B5 := HQ.out.2.2.trans (b5.mono HQ.out.2.2.size)
      obtain ⟨⟨u0, u1⟩, ⟨g0, g1⟩⟩ := hB5.c2
      obtain ⟨⟨u2, u3⟩, ⟨g2, g3⟩⟩ := hC5.c2
      have HQ5 := Lib.hid (And.intro hB5 (And.intro hC5 B5))
      clear hB5 hC5 B5 b5
      go_wp2_with fail
      obtain ⟨w2, e2, r0, r1, r2, r3, b2⟩ := both_set (.string ⟨#[]⟩) (.string ⟨#[]⟩) (.int .i64 e) (.int .i64 a) HQ5.out.1 HQ5.out.2.1 HQ5.out.2.2 (Nat.le_refl _) (Nat.le_succ _) (by omega)
      rw [e2]
      clear e2 u0 u1 g0 g1 u2 u3 g2 g3
      refine bodyPost_ret (by simp [results, Tryd.results32, go_sem, r0, r1, r2, r3]; try rfl) rfl ?_
      exact ⟨by rw [HE.out]; rfl, b2⟩
    · obtain hne : i + n = s.size := by omega
      have k2 : decide (s.size ≤ i + n) = true := decide_eq_true (by omega)
      clear h61 hne
      go_wp2_with fail
      refine (ho _).mono ?_
      rintro r w5 ⟨rfl, b5⟩
      have hB5 := HQ.out.1.below b5 HQ.out.1.lt
      have hC5 := HQ.out.2.1.below b5 HQ.out.2.1.lt
      have B5 := HQ.out.2.2.trans (b5.mono HQ.out.2.2.size)
      obtain ⟨⟨u0, u1⟩, ⟨g0, g1⟩⟩ := hB5.c2
      obtain ⟨⟨u2, u3⟩, ⟨g2, g3⟩⟩ := hC5.c2
      have HQ5 := Lib.hid (And.intro hB5 (And.intro hC5 B5))
      clear hB5 hC5 B5 b5
      go_wp2_with fail
      obtain ⟨w2, e2, r0, r1, r2, r3, b2⟩ := both_set (.string ⟨#[]⟩) (.string ⟨#[]⟩) (.int .i64 e) (.int .i64 a) HQ5.out.1 HQ5.out.2.1 HQ5.out.2.2 (Nat.le_refl _) (Nat.le_succ _) (by omega)
      rw [e2]
      clear e2 u0 u1 g0 g1 u2 u3 g2 g3
      refine bodyPost_ret (by simp [results, Tryd.results32, go_sem, r0, r1, r2, r3]; try rfl) rfl ?_
      exact ⟨by rw [HE.out]; rfl, b2⟩
  | true =>
    have hlt : i + n < s.size := by
      rw [isB] at h61
      exact of_decide_eq_true (Bool.and_eq_true_iff.1 h61).1
    have hbe : byt s (i + n) = 61 := by
      rw [isB] at h61
      exact of_decide_eq_true (Bool.and_eq_true_iff.1 h61).2
    have k2 : decide (s.size ≤ i + n) = false := decide_eq_false (by omega)
    have hb := byt_at s (i + n) hlt
    obtain ⟨d, hd⟩ : ∃ d, s[i + n]'hlt = d := ⟨_, rfl⟩
    rw [hd, hbe] at hb
    obtain ⟨p, hp⟩ : ∃ p : Int, (d.toNat : Int) = p := ⟨_, rfl⟩
    have hpq : (p == 61) = true := by rw [← hp, hb]; rfl
    have hpq2 : (p != 61) = false := by rw [bne, hpq]; rfl
    have hR2 := hR1.trans (if_neg (by rw [h61]; simp))
    clear h61 hb hbe hR1
    obtain ⟨⟨v, end_, e, a⟩, hr⟩ : ∃ r, readAt s ((i + n + 1 : Nat) : Int) = r := ⟨_, rfl⟩
    rw [hr] at hR2
    have hrd : ∀ w, _ := fun w => read_any s ((i + n + 1 : Nat) : Int) w hs
    have HR2 := Lib.hid hr
    have HE := Lib.hid hR2
    clear hr hR2
    go_wp2_with fail
    refine (hrd _ (Utf8Tabs_below HT.out HQ.out.2.2)).mono ?_
    rintro r w5 ⟨rfl, b5⟩
    rw [HR2.out]
    simp only [rdV]
    have hB5 := (HQ.out.1.below b5 HQ.out.1.lt).alloc (.cells #[.int .i64 e, .int .i64 a] 33)
    have hC5 := (HQ.out.2.1.below b5 HQ.out.2.1.lt).alloc (.cells #[.int .i64 e, .int .i64 a] 33)
    have B5 := (HQ.out.2.2.trans (b5.mono HQ.out.2.2.size)).alloc (by have := b5.size; have := HQ.out.2.2.size; omega) (.cells #[.int .i64 e, .int .i64 a] 33)
    have q5 := Blk.new w5 33 #[.int .i64 e, .int .i64 a]
    have hz5 : w.heap.size + 1 < w5.heap.size := by have := b5.size; have := HQ.out.2.1.lt; omega
    have ne1 : ¬ w.heap.size = w5.heap.size := by omega
    have ne2 : ¬ w.heap.size + 1 = w5.heap.size := by omega
    have ne3 : ¬ w5.heap.size = w.heap.size := by omega
    have ne4 : ¬ w5.heap.size = w.heap.size + 1 := by omega
    clear b5 HQ
    go_wp2_with fail
    generalize w5.alloc (.cells #[.int .i64 e, .int .i64 a] 33) = w6 at *
    obtain ⟨⟨y0, y1⟩, -⟩ := q5.c2
    have HQ8 := Lib.hid (And.intro hB5 (And.intro hC5 B5))
    obtain ⟨⟨u0, u1⟩, ⟨g0, g1⟩⟩ := hB5.c2
    obtain ⟨⟨u2, u3⟩, ⟨g2, g3⟩⟩ := hC5.c2
    clear hB5 hC5 B5 q5
    go_region
    obtain ⟨w2, e2, r0, r1, r2, r3, b2⟩ := both_set (.string x) (.string (txt v)) (.int .i64 e) (.int .i64 a) HQ8.out.1 HQ8.out.2.1 HQ8.out.2.2 (Nat.le_refl _) (Nat.le_succ _) (by omega)
    rw [e2]
    clear e2 u0 u1 g0 g1 u2 u3 g2 g3
    go_wp2_with fail
    refine bodyPost_ret (by simp [results, Tryd.results32, go_sem, r0, r1, r2, r3]; try rfl) rfl ?_
    exact ⟨by rw [HE.out]; rfl, b2.drew⟩
end Go.Proofs.YtgdfklgbdfpinaaDoor
