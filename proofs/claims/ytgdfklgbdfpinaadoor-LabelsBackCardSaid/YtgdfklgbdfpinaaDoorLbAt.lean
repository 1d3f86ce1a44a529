/-
  The walks of labels.at and the reference's other and is. Conditions: the text is no longer than a text can be, the place in an int's range.
-/
import Derived.Test.YtgdfklgbdfpinaaDoorLbText2
import Derived.Test.YtgdfklgbdfpinaaDoorQuRead2
namespace Go.Proofs.YtgdfklgbdfpinaaDoor
set_option linter.unusedVariables false
set_option linter.unusedSimpArgs false
open Go.RowKit Go.Sort

def fltV (f : Int × Int) : Value := .agg #[.int .i64 f.1, .int .i64 f.2]
/-- what is wrong at a place at which something else must stand -/
def atE (s : ByteArray) (i : Int) : Int × Int := if (s.size : Int) ≤ i then (1, s.size) else (2, i)

set_option maxRecDepth 100000 in
set_option maxHeartbeats 1000000 in
theorem at_any (s : ByteArray) (i : Int) (w : World) : Calls Tryd.prog 30 #[.string s, .int .i64 i] w fun e w' => e = .returned (fltV (atE s i)) ∧ Below w.heap.size w w' := by
  have hB := Blk.new w 33 #[.int .i64 0, .int .i64 0]
  have hbw := (Below.refl w.heap.size w).alloc (Nat.le_refl _) (.cells #[.int .i64 0, .int .i64 0] 33)
  obtain ⟨⟨v0, v1⟩, ⟨f0, f1⟩⟩ := hB.c2
  have hbz : w.heap.size < (w.alloc (.cells #[.int .i64 0, .int .i64 0] 33)).heap.size := by simp
  by_cases h : (s.size : Int) ≤ i
  · have h' : decide ((s.size : Int) ≤ i) = true := decide_eq_true h
    have HE : Hid (atE s i = (1, (s.size : Int))) := Lib.hid (by unfold atE; exact if_pos h)
    have HQ := Lib.hid (And.intro hB hbw)
    clear h hB hbw
    go_enter Tryd.func30, Tryd.ntmps30
    go_wp2_with fail
    have hB2 := Blk.new w 33 #[.int .i64 1, .int .i64 (s.size : Int)]
    have b2 := (Below.refl w.heap.size w).alloc (Nat.le_refl _) (.cells #[.int .i64 1, .int .i64 (s.size : Int)] 33)
    have r0 := hB2.cell 0
    have r1 := hB2.cell 1
    clear v0 v1 f0 f1 hB2
    generalize w.alloc (.cells #[.int .i64 1, .int .i64 (s.size : Int)] 33) = w2 at *
    simp at r0 r1
    (try simp only [Exit.inBlock, Exit.then])
    refine bodyPost_ret (by simp [results, Tryd.results30, go_sem, r0, r1]; try rfl) rfl ?_
    exact ⟨by rw [HE.out]; rfl, b2⟩
  · have h' : decide ((s.size : Int) ≤ i) = false := decide_eq_false h
    have HE : Hid (atE s i = (2, i)) := Lib.hid (by unfold atE; exact if_neg h)
    have HQ := Lib.hid (And.intro hB hbw)
    clear h hB hbw
    go_enter Tryd.func30, Tryd.ntmps30
    go_wp2_with fail
    have hB2 := Blk.new w 33 #[.int .i64 2, .int .i64 (i : Int)]
    have b2 := (Below.refl w.heap.size w).alloc (Nat.le_refl _) (.cells #[.int .i64 2, .int .i64 (i : Int)] 33)
    have r0 := hB2.cell 0
    have r1 := hB2.cell 1
    clear v0 v1 f0 f1 hB2
    generalize w.alloc (.cells #[.int .i64 2, .int .i64 (i : Int)] 33) = w2 at *
    simp at r0 r1
    (try simp only [Exit.inBlock, Exit.then])
    refine bodyPost_ret (by simp [results, Tryd.results30, go_sem, r0, r1]; try rfl) rfl ?_
    exact ⟨by rw [HE.out]; rfl, b2⟩

set_option maxRecDepth 100000 in
set_option maxHeartbeats 1000000 in
theorem other_any (s : ByteArray) (i : Int) (w : World) : Calls Tryd.prog 34 #[.string s, .int .i64 i] w fun e w' => e = .returned (fltV (atE s i)) ∧ Below w.heap.size w w' := by
  have hB := Blk.new w 33 #[.int .i64 0, .int .i64 0]
  have hbw := (Below.refl w.heap.size w).alloc (Nat.le_refl _) (.cells #[.int .i64 0, .int .i64 0] 33)
  obtain ⟨⟨v0, v1⟩, ⟨f0, f1⟩⟩ := hB.c2
  have hbz : w.heap.size < (w.alloc (.cells #[.int .i64 0, .int .i64 0] 33)).heap.size := by simp
  by_cases h : (s.size : Int) ≤ i
  · have h' : decide ((s.size : Int) ≤ i) = true := decide_eq_true h
    have HE : Hid (atE s i = (1, (s.size : Int))) := Lib.hid (by unfold atE; exact if_pos h)
    have HQ := Lib.hid (And.intro hB hbw)
    clear h hB hbw
    go_enter Tryd.func34, Tryd.ntmps34
    go_wp2_with fail
    have hB2 := Blk.new w 33 #[.int .i64 1, .int .i64 (s.size : Int)]
    have b2 := (Below.refl w.heap.size w).alloc (Nat.le_refl _) (.cells #[.int .i64 1, .int .i64 (s.size : Int)] 33)
    have r0 := hB2.cell 0
    have r1 := hB2.cell 1
    clear v0 v1 f0 f1 hB2
    generalize w.alloc (.cells #[.int .i64 1, .int .i64 (s.size : Int)] 33) = w2 at *
    simp at r0 r1
    (try simp only [Exit.inBlock, Exit.then])
    refine bodyPost_ret (by simp [results, Tryd.results34, go_sem, r0, r1]; try rfl) rfl ?_
    exact ⟨by rw [HE.out]; rfl, b2⟩
  · have h' : decide ((s.size : Int) ≤ i) = false := decide_eq_false h
    have HE : Hid (atE s i = (2, i)) := Lib.hid (by unfold atE; exact if_neg h)
    have HQ := Lib.hid (And.intro hB hbw)
    clear h hB hbw
    go_enter Tryd.func34, Tryd.ntmps34
    go_wp2_with fail
    have hB2 := Blk.new w 33 #[.int .i64 2, .int .i64 (i : Int)]
    have b2 := (Below.refl w.heap.size w).alloc (Nat.le_refl _) (.cells #[.int .i64 2, .int .i64 (i : Int)] 33)
    have r0 := hB2.cell 0
    have r1 := hB2.cell 1
    clear v0 v1 f0 f1 hB2
    generalize w.alloc (.cells #[.int .i64 2, .int .i64 (i : Int)] 33) = w2 at *
    simp at r0 r1
    (try simp only [Exit.inBlock, Exit.then])
    refine bodyPost_ret (by simp [results, Tryd.results34, go_sem, r0, r1]; try rfl) rfl ?_
    exact ⟨by rw [HE.out]; rfl, b2⟩

def isB (s : ByteArray) (i : Nat) (c : Nat) : Bool := decide (i < s.size) && decide (byt s i = c)
set_option maxRecDepth 100000 in
set_option maxHeartbeats 1000000 in
theorem is_any (s : ByteArray) (i c : Nat) (w : World) (hs : s.size ≤ maxLen) : Calls Tryd.prog 33 #[.string s, .int .i64 i, .int .u8 c] w fun e w' => e = .returned (.bool (isB s i c)) ∧ w' = w := by
  unfold maxLen at hs
  by_cases h : i < s.size
  · have h' : decide ((i : Int) < (s.size : Int)) = true := decide_eq_true (by omega)
    have h'' : decide (i < s.size) = true := decide_eq_true h
    have hb := byt_at s i h
    obtain ⟨d, hd⟩ : ∃ d, s[i]'h = d := ⟨_, rfl⟩
    rw [hd] at hb
    obtain ⟨p, hp⟩ : ∃ p : Int, (d.toNat : Int) = p := ⟨_, rfl⟩
    obtain ⟨q, hq⟩ : ∃ q : Int, (c : Int) = q := ⟨_, rfl⟩
    have hpq : (p == q) = decide (byt s i = c) := by
      rw [← hp, ← hq, hb]
      by_cases e : byt s i = c
      · subst e; simp
      · rw [decide_eq_false e]; exact beq_eq_false_iff_ne.2 (by omega)
    obtain ⟨r, hr⟩ : ∃ r, decide (byt s i = c) = r := ⟨_, rfl⟩
    rw [hr] at hpq
    have HR : Hid (isB s i c = r) := Lib.hid (by rw [isB, h'', hr]; rfl)
    clear hb hr
    rw [hq]
    go_enter Tryd.func33, Tryd.ntmps33
    go_wp2_with fail
    go_ret
    exact ⟨ret_bool HR.out.symm, rfl⟩
  · have h' : decide ((i : Int) < (s.size : Int)) = false := decide_eq_false (by omega)
    have HR : Hid (isB s i c = false) := Lib.hid (by rw [isB, decide_eq_false h]; rfl)
    go_enter Tryd.func33, Tryd.ntmps33
    go_wp2_with fail
    go_ret
    exact ⟨ret_bool HR.out.symm, rfl⟩
end Go.Proofs.YtgdfklgbdfpinaaDoor
