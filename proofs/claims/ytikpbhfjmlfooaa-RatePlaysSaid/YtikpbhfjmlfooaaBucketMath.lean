/-
  The plain mathematics of buckets: what a bucket has at a time, what is taken, and that a window bounds what is taken. No conditions; no Go in sight.
-/
import Derived.Test.YtikpbhfjmlfooaaSat
namespace Go.Proofs.Ytikpbhfjmlfooaa
set_option linter.unusedVariables false

/-- 0 ≤ n ≤ m -/
def withinB (n m : Int) : Bool := decide (0 ≤ n) && decide (n ≤ m)
def rightB (c f h t : Int) : Bool := withinB c 1099511627776 && (withinB f 1099511627776 && (withinB h c && withinB t 1099511627776))
theorem withinB_true {n m : Int} : withinB n m = true ↔ 0 ≤ n ∧ n ≤ m := by simp [withinB]
theorem withinB_false {n m : Int} : withinB n m = false ↔ ¬ (0 ≤ n ∧ n ≤ m) := by
  rw [← withinB_true]; cases withinB n m <;> simp
theorem rightB_true {c f h t : Int} : rightB c f h t = true ↔ (0 ≤ c ∧ c ≤ 1099511627776) ∧ (0 ≤ f ∧ f ≤ 1099511627776) ∧ (0 ≤ h ∧ h ≤ c) ∧ (0 ≤ t ∧ t ≤ 1099511627776) := by
  simp only [rightB, Bool.and_eq_true, withinB_true]

/-- is the bucket brought to the time? -/
def goesB (c f h t now : Int) : Bool := rightB c f h t && (decide (t < now) && decide (now ≤ 1099511627776))
theorem goesB_true {c f h t now : Int} : goesB c f h t now = true ↔ rightB c f h t = true ∧ t < now ∧ now ≤ 1099511627776 := by simp [goesB]
/-- what it has then, and its time -/
def atH (c f h t now : Int) : Int := if goesB c f h t now = true then min c (h + f * (now - t)) else h
def atT (c f h t now : Int) : Int := if goesB c f h t now = true then now else t
def takeOk (c f h t now : Int) : Bool := rightB c f h t && decide (atH c f h t now ≠ 0)
def takeH (c f h t now : Int) : Int := if takeOk c f h t now = true then atH c f h t now - 1 else if rightB c f h t = true then atH c f h t now else h
def takeT (c f h t now : Int) : Int := if rightB c f h t = true then atT c f h t now else t

theorem fd_nonneg {f d : Int} (hf : 0 ≤ f) (hd : 0 ≤ d) : 0 ≤ f * d := Int.mul_nonneg hf hd

theorem sat_min {c h x : Int} (hc : c ≤ 1099511627776) (hh : 0 ≤ h ∧ h ≤ c) (hx : 0 ≤ x) : min c (clip (h + clip x)) = min c (h + x) := by
  unfold clip
  split <;> split <;> (try split) <;> (try split) <;> omega

theorem at_right {c f h t now : Int} (hr : rightB c f h t = true) : rightB c f (atH c f h t now) (atT c f h t now) = true := by
  unfold atH atT
  by_cases hg : goesB c f h t now = true
  · rw [if_pos hg, if_pos hg]
    obtain ⟨_, h1, h2⟩ := goesB_true.1 hg
    obtain ⟨r1, r2, r3, r4⟩ := rightB_true.1 hr
    have := fd_nonneg r2.1 (show 0 ≤ now - t by omega)
    exact rightB_true.2 ⟨r1, r2, by omega, by omega⟩
  · rw [if_neg hg, if_neg hg]; exact hr

theorem at_later {c f h t now : Int} : t ≤ atT c f h t now := by
  unfold atT
  split
  · rename_i hg
    obtain ⟨_, h1, h2⟩ := goesB_true.1 hg
    omega
  · omega

theorem take_right {c f h t now : Int} (hr : rightB c f h t = true) : rightB c f (takeH c f h t now) (takeT c f h t now) = true := by
  have ha := at_right (now := now) hr
  unfold takeH takeT takeOk
  rw [if_pos hr, hr]
  obtain ⟨r1, r2, r3, r4⟩ := rightB_true.1 ha
  by_cases h0 : atH c f h t now = 0
  · simp only [h0, Bool.true_and, ne_eq, not_true_eq_false, decide_false, Bool.false_eq_true, if_false, if_true]
    rw [h0] at ha
    exact ha
  · simp only [Bool.true_and, ne_eq, h0, not_false_eq_true, decide_true, if_true]
    exact rightB_true.2 ⟨r1, r2, by omega, r4⟩

theorem take_later {c f h t now : Int} : t ≤ takeT c f h t now := by
  unfold takeT
  split
  · exact at_later
  · omega

/-- what is known of a bucket and of how many were taken within the window -/
def Window (c f from_ long h t n : Int) : Prop :=
  0 ≤ n ∧ (t < from_ → n = 0) ∧ (from_ ≤ t → t ≤ from_ + long → n ≤ c - h + f * (t - from_)) ∧ n ≤ c + f * long

theorem window_start {c f from_ long h t : Int} (hr : rightB c f h t = true) (hl : 0 ≤ long) : Window c f from_ long h t 0 := by
  obtain ⟨r1, r2, r3, r4⟩ := rightB_true.1 hr
  have h1 := fd_nonneg r2.1 hl
  exact ⟨by omega, fun _ => rfl, fun h2 _ => by have := fd_nonneg r2.1 (show 0 ≤ t - from_ by omega); omega, by omega⟩

theorem mul_split (f a b : Int) : f * (a + b) = f * a + f * b := Int.mul_add f a b

/-- the time goes on -/
theorem window_at {c f from_ long h t now n : Int} (hr : rightB c f h t = true) (hl : 0 ≤ long) (hw : Window c f from_ long h t n) : Window c f from_ long (atH c f h t now) (atT c f h t now) n := by
  unfold atH atT
  by_cases hg : goesB c f h t now = true
  · rw [if_pos hg, if_pos hg]
    obtain ⟨_, g1, g2⟩ := goesB_true.1 hg
    obtain ⟨r1, r2, r3, r4⟩ := rightB_true.1 hr
    obtain ⟨w0, w1, w2, w3⟩ := hw
    refine ⟨w0, fun h1 => w1 (by omega), fun h1 h2 => ?_, w3⟩
    by_cases h3 : t < from_
    · have h4 := fd_nonneg r2.1 (show 0 ≤ now - from_ by omega)
      rw [w1 h3]
      omega
    · have h4 := w2 (by omega) (by omega)
      have h5 : f * (now - from_) = f * (t - from_) + f * (now - t) := by rw [← mul_split]; congr 1; omega
      omega
  · rw [if_neg hg, if_neg hg]; exact hw

/-- one is taken, or none -/
theorem window_take {c f from_ long h t now n : Int} (hr : rightB c f h t = true) (hl : 0 ≤ long) (hw : Window c f from_ long h t n) :
    Window c f from_ long (takeH c f h t now) (takeT c f h t now) (n + if takeOk c f h t now = true ∧ from_ ≤ takeT c f h t now ∧ takeT c f h t now - from_ ≤ long then 1 else 0) := by
  have ha := window_at (now := now) hr hl hw
  have har := at_right (now := now) hr
  have e1 : takeT c f h t now = atT c f h t now := by unfold takeT; rw [if_pos hr]
  rw [e1]
  obtain ⟨r1, r2, r3, r4⟩ := rightB_true.1 har
  unfold takeH
  by_cases ho : takeOk c f h t now = true
  · rw [if_pos ho]
    have h0 : atH c f h t now ≠ 0 := by
      unfold takeOk at ho
      simpa [hr] using ho
    obtain ⟨w0, w1, w2, w3⟩ := ha
    by_cases hin : from_ ≤ atT c f h t now ∧ atT c f h t now - from_ ≤ long
    · rw [if_pos ⟨ho, hin⟩]
      have h5 := w2 hin.1 (by omega)
      have h6 : f * long = f * (atT c f h t now - from_) + f * (long - (atT c f h t now - from_)) := by rw [← mul_split]; congr 1; omega
      have h7 := fd_nonneg r2.1 (show 0 ≤ long - (atT c f h t now - from_) by omega)
      exact ⟨by omega, fun h1 => by omega, fun _ _ => by omega, by omega⟩
    · rw [if_neg (fun x => hin x.2)]
      exact ⟨by omega, fun h1 => by have := w1 h1; omega, fun h1 h2 => absurd ⟨h1, by omega⟩ hin, by omega⟩
  · rw [if_neg ho, if_pos hr, if_neg (fun x => ho x.1)]
    simpa using ha

/-- the law's last test -/
theorem window_end {c f from_ long h t n : Int} (hr : rightB c f h t = true) (hl : 0 ≤ long) (hw : Window c f from_ long h t n) (hn : ¬ n ≤ c) : 0 < f ∧ (n - c - 1) / f < long := by
  obtain ⟨r1, r2, r3, r4⟩ := rightB_true.1 hr
  obtain ⟨w0, w1, w2, w3⟩ := hw
  have hf : 0 < f := by
    rcases Int.lt_or_le 0 f with h0 | h0
    · exact h0
    · have : f = 0 := by omega
      subst this
      omega
  refine ⟨hf, ?_⟩
  rw [Int.ediv_lt_iff_lt_mul hf, Int.mul_comm]
  omega
end Go.Proofs.Ytikpbhfjmlfooaa
