/-
  The walks of a disk's small methods. Conditions: the disk's memory.
-/
import Derived.Test.YtmjhomhganaceaaDkMem
import Derived.StillTailTactics
namespace Go.Proofs.Ytmjhomhganaceaa
set_option linter.unusedVariables false
open Go.RowKit Go.Maps Go.Sort

theorem eq_blocks (a : Option Addr) (n c : Nat) (w : World) : (binOp .eql 33 (.slice a n c) (.slice none 0 0)).run Try.prog w = .ok (.bool a.isNone) w := Lib.run_eql_slice_nil w _ _ a n c 0 0 Try.underlying33
/-- what keeps a block of a disk from being read or written -/
def readyE (n : Nat) (dn : Bool) (a : Int) : Int := if dn then 20 else if a < 0 ∨ (n : Int) ≤ a then 7 else 0

set_option maxHeartbeats 1000000 in
theorem ready_any (d g m n wr : Nat) (dn : Bool) (a : Int) (w : World) (hd : Blk w d 36 (diskV g n m wr dn)) (hn : n ≤ 4096) :
    Calls Try.prog 18 #[.pointer (some ⟨d, 0, none⟩), .int .i64 a] w fun e w' => e = .returned (.int .i64 (readyE n dn a)) ∧ w' = w := by
  have c0 := hd.cell 0
  have c3 := hd.cell 3
  simp [diskV] at c0 c3
  clear hd
  have hq := eq_blocks (some ⟨g, 0, none⟩) n n
  simp only [Option.isNone_some] at hq
  cases dn
  · by_cases h1 : a < 0
    · have h1' : decide (a < 0) = true := decide_eq_true h1
      go_enter Try.func18, Try.ntmps18
      go_wp2_with fail
      go_ret
      exact ⟨by simp [readyE, h1], rfl⟩
    · have h1' : decide (a < 0) = false := decide_eq_false h1
      by_cases h2 : (n : Int) ≤ a
      · have h2' : decide ((n : Int) ≤ a) = true := decide_eq_true h2
        go_enter Try.func18, Try.ntmps18
        go_wp2_with fail
        go_ret
        exact ⟨by simp [readyE, h2], rfl⟩
      · have h2' : decide ((n : Int) ≤ a) = false := decide_eq_false h2
        go_enter Try.func18, Try.ntmps18
        go_wp2_with fail
        go_ret
        exact ⟨by simp [readyE, h1, h2], rfl⟩
  · go_enter Try.func18, Try.ntmps18
    go_wp2_with fail
    go_ret
    exact ⟨by simp [readyE], rfl⟩

set_option maxHeartbeats 1000000 in
theorem ready_nil (a : Int) (w : World) :
    Calls Try.prog 18 #[.pointer none, .int .i64 a] w fun e w' => e = .returned (.int .i64 21) ∧ w' = w := by
  go_enter Try.func18, Try.ntmps18
  go_wp2_with fail
  go_ret
  exact ⟨rfl, rfl⟩
set_option maxHeartbeats 1000000 in
theorem ready_zero (d : Nat) (a : Int) (w : World) (hd : Blk w d 36 #[.slice none 0 0, .map none, .int .i64 0, .bool false]) :
    Calls Try.prog 18 #[.pointer (some ⟨d, 0, none⟩), .int .i64 a] w fun e w' => e = .returned (.int .i64 21) ∧ w' = w := by
  have c0 := hd.cell 0
  simp at c0
  clear hd
  have hq := eq_blocks none 0 0
  simp only [Option.isNone_none] at hq
  go_enter Try.func18, Try.ntmps18
  go_wp2_with fail
  go_ret
  exact ⟨rfl, rfl⟩

set_option maxHeartbeats 1000000 in
theorem down_any (d g m n wr : Nat) (dn : Bool) (w : World) (hd : Blk w d 36 (diskV g n m wr dn)) :
    Calls Try.prog 16 #[.pointer (some ⟨d, 0, none⟩)] w fun e w' => e = .returned (.bool dn) ∧ w' = w := by
  have c3 := hd.cell 3
  simp [diskV] at c3
  clear hd
  go_enter Try.func16, Try.ntmps16
  go_wp2_with fail
  go_ret
  exact ⟨rfl, rfl⟩
set_option maxHeartbeats 1000000 in
theorem writes_any (d g m n wr : Nat) (dn : Bool) (w : World) (hd : Blk w d 36 (diskV g n m wr dn)) :
    Calls Try.prog 17 #[.pointer (some ⟨d, 0, none⟩)] w fun e w' => e = .returned (.int .i64 wr) ∧ w' = w := by
  have c2 := hd.cell 2
  simp [diskV] at c2
  clear hd
  go_enter Try.func17, Try.ntmps17
  go_wp2_with fail
  go_ret
  exact ⟨rfl, rfl⟩
set_option maxHeartbeats 1000000 in
theorem blocks_any (d g m n wr : Nat) (dn : Bool) (w : World) (hd : Blk w d 36 (diskV g n m wr dn)) :
    Calls Try.prog 12 #[.pointer (some ⟨d, 0, none⟩)] w fun e w' => e = .returned (.int .i64 n) ∧ w' = w := by
  have c0 := hd.cell 0
  simp [diskV] at c0
  clear hd
  go_enter Try.func12, Try.ntmps12
  go_wp2_with fail
  go_ret
  exact ⟨rfl, rfl⟩
set_option maxHeartbeats 1000000 in
theorem blocks_zero (d : Nat) (w : World) (hd : Blk w d 36 #[.slice none 0 0, .map none, .int .i64 0, .bool false]) :
    Calls Try.prog 12 #[.pointer (some ⟨d, 0, none⟩)] w fun e w' => e = .returned (.int .i64 0) ∧ w' = w := by
  have c0 := hd.cell 0
  simp at c0
  clear hd
  go_enter Try.func12, Try.ntmps12
  go_wp2_with fail
  go_ret
  exact ⟨rfl, rfl⟩
set_option maxHeartbeats 1000000 in
theorem power_nil (w : World) :
    Calls Try.prog 9 #[.pointer none] w fun e w' => e = .returned (.tuple #[]) ∧ w' = w := by
  go_enter Try.func9, Try.ntmps9
  go_wp2_with fail
  go_end0
  exact ⟨rfl, rfl⟩
set_option maxHeartbeats 1000000 in
theorem power_any (d g m n wr : Nat) (dn : Bool) (w : World) (hd : Blk w d 36 (diskV g n m wr dn)) :
    Calls Try.prog 9 #[.pointer (some ⟨d, 0, none⟩)] w fun e w' => e = .returned (.tuple #[]) ∧ w' = w.setCell ⟨d, 3, none⟩ (.bool false) := by
  have c3 := hd.cell 3
  have f3 := hd.frozen 3
  simp [diskV] at c3
  clear hd
  go_enter Try.func9, Try.ntmps9
  go_wp2_with fail
  go_end0
  exact ⟨rfl, rfl⟩
end Go.Proofs.Ytmjhomhganaceaa
