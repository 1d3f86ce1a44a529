/-
  The walk of the law BlocksMeet: it returns true. Conditions: none but what each says.
-/
import Derived.Test.YtcajlldecdjdlaaBlSets
import Derived.Test.YtcajlldecdjdlaaReads
namespace Go.Proofs.Ytcajlldecdjdlaa
set_option linter.unusedVariables false
open Go.RowKit Go.Maps Go.Sort
open Go.ChangeShapes Go.WideShapes

/-- a set's words as cells; a row of sets -/
def setCells (s : Nat → Int) : List Value := [.int .u64 (s 0), .int .u64 (s 1), .int .u64 (s 2), .int .u64 (s 3)]
def setRow (sf : Nat → Nat → Int) (n : Nat) : List Value := (List.range n).flatMap fun j => setCells (sf j)
theorem setRow_succ (sf : Nat → Nat → Int) (n : Nat) : setRow sf (n + 1) = setRow sf n ++ setCells (sf n) := by simp [setRow, List.range_succ]
theorem setRow_len (sf : Nat → Nat → Int) (n : Nat) : (setRow sf n).length = n * 4 := by
  induction n with
  | zero => rfl
  | succ n ih => rw [setRow_succ, List.length_append, ih]; simp [setCells]; omega
theorem setRow_at (sf : Nat → Nat → Int) (n j i : Nat) (hj : j < n) (hi : i < 4) : (setRow sf n)[j * 4 + i]? = some (.int .u64 (sf j i)) := by
  induction n with
  | zero => omega
  | succ n ih =>
    rw [setRow_succ]
    by_cases e : j < n
    · rw [List.getElem?_append_left (by rw [setRow_len]; omega)]
      exact ih e
    · have : j = n := by omega
      subst this
      rw [List.getElem?_append_right (by rw [setRow_len]; omega), setRow_len, Nat.add_sub_cancel_left]
      obtain rfl | rfl | rfl | rfl : i = 0 ∨ i = 1 ∨ i = 2 ∨ i = 3 := by omega
      · rfl
      · rfl
      · rfl
      · rfl
theorem setRow_one (sf : Nat → Nat → Int) (n : Nat) : ∀ u ∈ setRow sf n, u.oneCell' = true := by
  intro u hu
  unfold setRow at hu
  obtain ⟨j, _, hj⟩ := List.mem_flatMap.1 hu
  simp [setCells] at hj
  rcases hj with rfl | rfl | rfl | rfl <;> rfl
theorem setRow_reads {w : World} {x : Option Addr} {len cap : Nat} {sf : Nat → Nat → Int} (h : IsSets w x len cap sf) : Reads w w.heap.size 4 x len (setRow sf len) := by
  refine ⟨setRow_len _ _, fun hn => ?_⟩
  rcases h.place with h0 | ⟨bb, off, rfl, hbb, hc⟩
  · omega
  · refine ⟨_, rfl, hbb, fun j u hj => ?_⟩
    have hlt : j < len * 4 := by
      rw [← setRow_len sf len]
      exact (List.getElem?_eq_some_iff.1 hj).1
    have e : j = j / 4 * 4 + j % 4 := by omega
    have h1 := setRow_at sf len (j / 4) (j % 4) (by omega) (by omega)
    rw [← e, hj] at h1
    rw [h1, Addr.add_lit, show off + j = off + j / 4 * 4 + j % 4 by omega]
    exact hc (j / 4) (by omega) (j % 4) (by omega)
/-- two rows of sets, one behind the other -/
def joinS (sa sb : Nat → Nat → Int) (n : Nat) (j : Nat) : Nat → Int := if j < n then sa j else sb (j - n)
theorem joinRow (sa sb : Nat → Nat → Int) (n m : Nat) : setRow sa n ++ setRow sb m = setRow (joinS sa sb n) (n + m) := by
  induction m with
  | zero =>
    simp only [Nat.add_zero]
    rw [show setRow sb 0 = [] from rfl, List.append_nil]
    unfold setRow
    rw [List.flatMap_def, List.flatMap_def]
    congr 1
    apply List.map_congr_left
    intro j hj
    unfold joinS
    rw [if_pos (List.mem_range.1 hj)]
  | succ m ih =>
    rw [setRow_succ, ← List.append_assoc, ih, show n + (m + 1) = (n + m) + 1 by omega, setRow_succ]
    congr 2
    unfold joinS
    rw [if_neg (by omega), Nat.add_sub_cancel_left]
theorem join_in (sa sb : Nat → Nat → Int) (n : Nat) (ha : ∀ j, SetIn (sa j)) (hb : ∀ j, SetIn (sb j)) : ∀ j, SetIn (joinS sa sb n j) := fun j => by
  unfold joinS; split
  · exact ha j
  · exact hb _
theorem sets_own {w : World} {base : Nat} {x : Option Addr} {n c : Nat} {sf : Nat → Nat → Int} (h : w.ownsRow base 36 4 (.slice x n c) n (setRow sf n)) (hin : ∀ j, SetIn (sf j)) (hb : n ≤ 4611686018427387904) : IsSets w x n c sf := by
  refine ⟨?_, hin, hb⟩
  rcases h.2 with ⟨_, h0⟩ | ⟨g, cap, cur, hv, _, _, _⟩
  · exact .inl h0
  · injection hv with h1 h2 h3
    subst h1
    exact .inr ⟨g, 0, rfl, (h.lt _ rfl).2, fun j hj i hi => by
      rw [Nat.zero_add]
      have := h.cells (g := g) rfl (j * 4 + i) _ (setRow_at sf n j i hj hi)
      rw [Addr.add_lit, Nat.zero_add] at this
      exact this⟩

/-- which of two rows' sets have the byte -/
theorem F_join (sa sb : Nat → Nat → Int) (n m b : Nat) : F (joinS sa sb n) (n + m) b = F sa n b ++ F sb m b := by
  induction m with
  | zero =>
    rw [show F sb 0 b = [] from rfl, List.append_nil, Nat.add_zero]
    unfold F
    apply List.map_congr_left
    intro j hj
    unfold joinS
    rw [if_pos (List.mem_range.1 hj)]
  | succ m ih =>
    rw [show n + (m + 1) = (n + m) + 1 by omega, F_succ, F_succ, ih, List.append_assoc]
    congr 3
    unfold joinS
    rw [if_neg (by omega), Nat.add_sub_cancel_left]
def numI {α : Type} [DecidableEq α] (f : Nat → α) (b : Nat) : Int := (Bl.num f b : Int)
theorem pair_join (sa sb : Nat → Nat → Int) (n m b : Nat) : Bl.num (pairK (numI (F sa n)) (numI (F sb m))) b = Bl.num (F (joinS sa sb n) (n + m)) b := by
  apply Bl.num_congr _ _ (b + 1) _ _ (by omega)
  intro a c _ _
  simp only [pairK, numI, Prod.mk.injEq, Int.natCast_inj, Bl.num_iff]
  rw [F_join, F_join]
  constructor
  · rintro ⟨h1, h2⟩; rw [h1, h2]
  · intro h; exact List.append_inj h (by rw [F_len, F_len])
theorem pair_swap (y z : Nat → Int) (b : Nat) : Bl.num (pairK y z) b = Bl.num (pairK z y) b := by
  apply Bl.num_congr _ _ (b + 1) _ _ (by omega)
  intro a c _ _
  simp only [pairK, Prod.mk.injEq]
  exact and_comm
theorem pair_self {α : Type} [DecidableEq α] (f : Nat → α) (b : Nat) : Bl.num (pairK (numI f) (numI f)) b = Bl.num f b := by
  apply Bl.num_congr _ _ (b + 1) _ _ (by omega)
  intro a c _ _
  simp only [pairK, numI, Prod.mk.injEq, Int.natCast_inj, Bl.num_iff, and_self]
theorem num_isRight {α : Type} [DecidableEq α] (f : Nat → α) : Bl.right (numI f) 256 = true := by
  have := (Bl.num_right f 256).1
  simp only [Bl.right, decide_true, Bool.true_and]
  exact this

theorem Try.infoSet : (Try.prog.info? 36).map (fun i => (i.zero, i.size, i.bytes)) = some (some (.agg #[.int .u64 0, .int .u64 0, .int .u64 0, .int .u64 0]), 4, 32) := by kernel_rfl

namespace blocksMeetW
set_option maxHeartbeats 4000000 in
set_option maxRecDepth 100000 in
theorem walk_sets (xa : Option Addr) (la ca : Nat) (sa : Nat → Nat → Int) (xb : Option Addr) (lb cb : Nat) (sb : Nat → Nat → Int) (w : World) (ha : la ≤ 4611686018427387904 → IsSets w xa la ca sa) (hb : lb ≤ 4611686018427387904 → IsSets w xb lb cb sb) :
    Calls Try.prog 5 #[.slice xa la ca, .slice xb lb cb] w fun e w' => e = .returned (.bool true) ∧ Below w.heap.size w w' := by
  by_cases h1 : 8 < la
  · have d1 : decide (8 < (la : Int)) = true := by simp; omega
    go_enter Try.func5, Try.ntmps5
    go_wp2_with fail
    refine (blworks_any _).mono ?_
    rintro e w1 ⟨rfl, b1⟩
    go_wp2_with fail
    go_ret
    exact ⟨rfl, b1⟩
  by_cases h2 : 8 < lb
  · have d1 : decide (8 < (la : Int)) = false := by simp; omega
    have d2 : decide (8 < (lb : Int)) = true := by simp; omega
    go_enter Try.func5, Try.ntmps5
    go_wp2_with fail
    refine (blworks_any _).mono ?_
    rintro e w1 ⟨rfl, b1⟩
    go_wp2_with fail
    go_ret
    exact ⟨rfl, b1⟩
  have d1 : decide (8 < (la : Int)) = false := by simp; omega
  have d2 : decide (8 < (lb : Int)) = false := by simp; omega
  have HA := Lib.hid (ha (by omega))
  have HB := Lib.hid (hb (by omega))
  clear ha hb
  obtain ⟨i0, hi, hz0, hz1, hz2⟩ := info_parts Try.infoSet
  go_enter Try.func5, Try.ntmps5
  go_wp2_with fail
  refine (of_any _ _ _ sa _ HA.out).mono ?_
  rintro e w1 ⟨ga, rfl, hrowa, b1⟩
  have HX := Lib.hid (show IsInts w1 (some ⟨ga, 0, none⟩) 256 256 (numI (F sa la)) from ints_num hrowa)
  clear hrowa
  go_wp2_with fail
  refine (of_any _ _ _ sb _ (HB.out.keep b1)).mono ?_
  rintro e w2 ⟨gb, rfl, hrowb, b2⟩
  have HY := Lib.hid (show IsInts w2 (some ⟨gb, 0, none⟩) 256 256 (numI (F sb lb)) from ints_num hrowb)
  have HX2 := Lib.hid (HX.out.keep b2)
  have B2 : Below w.heap.size w w2 := b1.trans (b2.mono b1.size)
  have RA := (setRow_reads (HA.out.keep B2))
  have RB := (setRow_reads (HB.out.keep B2))
  clear hrowb b1 b2 HX
  go_wp2_with (first
    | (at_builtin
       refine wpList_append_any _ rfl (.tmp 21) (.tmp 22) _ rfl w2.heap.size 36 i0 _ 4 32 Try.underlying22 hi hz0 hz1 hz2 rfl (by omega) (.slice (some ⟨w2.heap.size, 0, none⟩) 0 0) 0 [] rfl
         ?_ w2.heap.size xa la ca (setRow sa la) rfl ?_ (setRow_one _ _) (by unfold maxLen; omega) (by omega) ?_ ?_))
  · exact World.ownsRow_lit w2 #[] 0 (Nat.le_refl _) (by decide) rfl
  · exact RA.alloc (Nat.le_refl _) _
  · simp
  intro v1 w3 hown1 hg1 hat1
  have q3 : Below w2.heap.size w2 w3 := ((Below.refl _ _).alloc (Nat.le_refl _) _).grown hg1 (by simp) (fun k hk => by simp [Value.ownBlock] at hk; omega)
  have RB3 := RB.below q3
  clear hg1 hat1 RA RB
  have HOWN := Lib.hid hown1
  go_wp2_with (first
    | (at_builtin
       refine wpList_append_any _ rfl (.tmp 23) (.tmp 24) _ rfl w2.heap.size 36 i0 _ 4 32 Try.underlying22 hi hz0 hz1 hz2 rfl (by omega) v1 la (setRow sa la) rfl
         HOWN.out w2.heap.size xb lb cb (setRow sb lb) rfl RB3 (setRow_one _ _) (by unfold maxLen; omega) (by omega) ?_ ?_))
  · exact q3.size
  intro v2 w4 hown2 hg2 hat2
  have q4 : Below w2.heap.size w2 w4 := q3.grown hg2 q3.size (fun k hk => (HOWN.out.lt k hk).1)
  have hlen4 : la + lb ≤ 16 := by omega
  obtain ⟨x4, c4, rfl⟩ : ∃ x c, v2 = .slice x (la + lb) c := by
    rcases hown2.2 with ⟨h3, h4⟩ | ⟨g, cap, cur, h3, _⟩
    · exact ⟨none, 0, by rw [h3, h4]⟩
    · exact ⟨_, cap, h3⟩
  rw [joinRow] at hown2
  have HALL := Lib.hid (sets_own hown2 (join_in sa sb la HA.out.ins HB.out.ins) (by omega))
  have B4 : Below w.heap.size w w4 := B2.trans (q4.mono B2.size)
  have HX4 := Lib.hid (HX2.out.keep q4)
  have HY4 := Lib.hid (HY.out.keep q4)
  clear hown1 HOWN hown2 hg2 hat2 q3 q4 RB3 HX2 HY B2 HA HB
  have RX := Lib.hid (num_isRight (F sa la))
  have RY := Lib.hid (num_isRight (F sb lb))
  go_wp2_with fail
  refine (of_any _ _ _ (joinS sa sb la) _ HALL.out).mono ?_
  rintro e w5 ⟨g5, rfl, hrow5, b5⟩
  have I5 := Lib.hid (show IsInts w5 (some ⟨g5, 0, none⟩) 256 256 (numI (F (joinS sa sb la) (la + lb))) from ints_num hrow5)
  have HX5 := Lib.hid (HX4.out.keep b5)
  have HY5 := Lib.hid (HY4.out.keep b5)
  have B5 : Below w.heap.size w w5 := B4.trans (b5.mono B4.size)
  clear hrow5 b5 B4 HX4 HY4 HALL
  go_wp2_with fail
  refine (meet_any _ _ 256 256 256 256 (numI (F sa la)) (numI (F sb lb)) _ HX5.out HY5.out).mono ?_
  rintro e w6 ⟨x6, n6, c6, rfl, hn6, hI6, b6⟩
  have hn6' : n6 = 256 := by rw [hn6]; unfold meetLen; rw [if_pos ⟨RX.out, RY.out⟩]
  clear hn6
  subst hn6'
  have I6 := Lib.hid hI6
  have I56 := Lib.hid (I5.out.keep b6)
  have HX6 := Lib.hid (HX5.out.keep b6)
  have HY6 := Lib.hid (HY5.out.keep b6)
  have B6 : Below w.heap.size w w6 := B5.trans (b6.mono B5.size)
  clear hI6 b6 B5 HX5 HY5 I5
  go_wp2_with fail
  refine (same_any _ _ 256 256 256 c6 _ _ _ I56.out I6.out true ⟨fun _ => ⟨rfl, fun j hj => ?_⟩, fun _ => rfl⟩).mono ?_
  · show (Bl.num (F (joinS sa sb la) (la + lb)) j : Int) = _
    rw [← pair_join]
  rintro e w7 ⟨rfl, b7⟩
  have HX7 := Lib.hid (HX6.out.keep b7)
  have HY7 := Lib.hid (HY6.out.keep b7)
  have B7 : Below w.heap.size w w7 := B6.trans (b7.mono B6.size)
  clear b7 B6 HX6 HY6 I56 I6
  go_wp2_with fail
  refine (meet_any _ _ 256 256 256 256 (numI (F sa la)) (numI (F sb lb)) _ HX7.out HY7.out).mono ?_
  rintro e w8 ⟨x8, n8, c8, rfl, hn8, hI8, b8⟩
  have hn8' : n8 = 256 := by rw [hn8]; unfold meetLen; rw [if_pos ⟨RX.out, RY.out⟩]
  clear hn8
  subst hn8'
  have I8 := Lib.hid hI8
  have HX8 := Lib.hid (HX7.out.keep b8)
  have HY8 := Lib.hid (HY7.out.keep b8)
  have B8 : Below w.heap.size w w8 := B7.trans (b8.mono B7.size)
  clear hI8 b8 B7 HX7 HY7
  go_wp2_with fail
  refine (meet_any _ _ 256 256 256 256 (numI (F sb lb)) (numI (F sa la)) _ HY8.out HX8.out).mono ?_
  rintro e w9 ⟨x9, n9, c9, rfl, hn9, hI9, b9⟩
  have hn9' : n9 = 256 := by rw [hn9]; unfold meetLen; rw [if_pos ⟨RY.out, RX.out⟩]
  clear hn9
  subst hn9'
  have I9 := Lib.hid hI9
  have I89 := Lib.hid (I8.out.keep b9)
  have HX9 := Lib.hid (HX8.out.keep b9)
  have B9 : Below w.heap.size w w9 := B8.trans (b9.mono B8.size)
  clear hI9 b9 B8 HX8 HY8 I8
  go_wp2_with fail
  refine (same_any _ _ 256 c8 256 c9 _ _ _ I89.out I9.out true ⟨fun _ => ⟨rfl, fun j hj => ?_⟩, fun _ => rfl⟩).mono ?_
  · show (Bl.num _ j : Int) = (Bl.num _ j : Int)
    rw [pair_swap]
  rintro e w10 ⟨rfl, b10⟩
  have HX10 := Lib.hid (HX9.out.keep b10)
  have B10 : Below w.heap.size w w10 := B9.trans (b10.mono B9.size)
  clear b10 B9 HX9 I89 I9
  go_wp2_with fail
  refine (meet_any _ _ 256 256 256 256 (numI (F sa la)) (numI (F sa la)) _ HX10.out HX10.out).mono ?_
  rintro e w11 ⟨x11, n11, c11, rfl, hn11, hI11, b11⟩
  have hn11' : n11 = 256 := by rw [hn11]; unfold meetLen; rw [if_pos ⟨RX.out, RX.out⟩]
  clear hn11
  subst hn11'
  have I11 := Lib.hid hI11
  have HX11 := Lib.hid (HX10.out.keep b11)
  have B11 : Below w.heap.size w w11 := B10.trans (b11.mono B10.size)
  clear hI11 b11 B10 HX10
  go_wp2_with fail
  refine (same_any _ _ 256 c11 256 256 _ _ _ I11.out HX11.out true ⟨fun _ => ⟨rfl, fun j hj => ?_⟩, fun _ => rfl⟩).mono ?_
  · show (Bl.num _ j : Int) = (Bl.num _ j : Int)
    rw [pair_self]
  rintro e w12 ⟨rfl, b12⟩
  have B12 : Below w.heap.size w w12 := B11.trans (b12.mono B11.size)
  clear b12 B11
  go_wp2_with fail
  refine (blworks_any _).mono ?_
  rintro e w13 ⟨rfl, b13⟩
  go_wp2_with fail
  go_ret
  exact ⟨rfl, B12.trans (b13.mono B12.size)⟩

theorem walkRaw {H : Type} (enc : TypeId × Value → H) (v0 v1 : Value) (W : World) {base : Nat} {d0 d1 : DataW H} {p0 p1 : List MemPlace}
    (wv0 : Value.okWide Try.prog W .any base 22 v0) (h0 : DataW.Trod enc Try.prog W 0 (fun _ => true) true 22 v0 d0 p0) (_lt0 : ∀ x ∈ p0, x.block < W.heap.size)
    (wv1 : Value.okWide Try.prog W .any base 22 v1) (h1 : DataW.Trod enc Try.prog W 0 (fun _ => true) true 22 v1 d1 p1) (_lt1 : ∀ x ∈ p1, x.block < W.heap.size) :
    Calls Try.prog 5 #[v0, v1] W fun e w' => e = .returned (.bool true) ∧ Below W.heap.size W w' := by
  obtain ⟨x, len, cap, sf, rfl, hs⟩ := open_sets wv0 h0
  obtain ⟨x1, len1, cap1, sf1, rfl, hs1⟩ := open_sets wv1 h1
  exact walk_sets x len cap sf x1 len1 cap1 sf1 W hs hs1
end blocksMeetW
end Go.Proofs.Ytcajlldecdjdlaa
