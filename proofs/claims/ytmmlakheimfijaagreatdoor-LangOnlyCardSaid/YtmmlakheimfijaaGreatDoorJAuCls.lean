/-
  The walk of least's classes. Conditions: the rows and the states lie as Go's.
-/
import Derived.Test.YtmmlakheimfijaaGreatDoorJMem
import Derived.Test.YtmmlakheimfijaaGreatDoorJAuShelf
import Derived.Test.YtmmlakheimfijaaGreatDoorJPlain
namespace Go.Proofs.YtmmlakheimfijaaGreatDoor
set_option linter.unusedVariables false
set_option linter.unusedSimpArgs false
open Go.RowKit Go.Maps Go.Sort Go.ChangeShapes Go.WideShapes

/-- a slice of bools that is read -/
def BoolsAt (w : World) (v : Value) (M : Nat) (f : Nat → Bool) : Prop :=
  ∃ a cap, v = .slice a M cap ∧ (M = 0 ∨ ∃ b off, a = some ⟨b, off, none⟩ ∧ b < w.heap.size ∧ ∀ j, j < M → w.cell? ⟨b, off + j, none⟩ = some (.bool (f j)))
theorem BoolsAt.below {w w' : World} {v : Value} {M : Nat} {f : Nat → Bool} (h : BoolsAt w v M f) (hb : Below w.heap.size w w') : BoolsAt w' v M f := by
  obtain ⟨a, cap, rfl, h0 | ⟨b, off, rfl, hlt, hc⟩⟩ := h
  · exact ⟨a, cap, rfl, .inl h0⟩
  · exact ⟨_, cap, rfl, .inr ⟨b, off, rfl, by have := hb.size; omega, fun j hj => (hb.cell (p := ⟨b, off + j, none⟩) hlt).trans (hc j hj)⟩⟩
theorem BoolsAt.get {w : World} {v : Value} {M : Nat} {f : Nat → Bool} (h : BoolsAt w v M f) {n : Nat} (hn : n < M) : ∃ b off cap, v = .slice (some ⟨b, off, none⟩) M cap ∧ w.cell? ⟨b, off + n, none⟩ = some (.bool (f n)) := by
  obtain ⟨a, cap, rfl, h0 | ⟨b, off, rfl, hlt, hc⟩⟩ := h
  · omega
  · exact ⟨b, off, cap, rfl, hc n hn⟩
theorem own_base {w : World} {B B' : Nat} {e : TypeId} {size n : Nat} {v : Value} {xs : List Value} (h : w.ownsRow B e size v n xs) (hB : B' ≤ B) : w.ownsRow B' e size v n xs := by
  refine ⟨h.1, ?_⟩
  rcases h.2 with h0 | ⟨g, cap, cur, hv, hb, h3⟩
  · exact .inl h0
  · exact .inr ⟨g, cap, cur, hv, by omega, h3⟩
theorem NatsAt.ints {w : World} {b off len c : Nat} {l : List Nat} (h : NatsAt w (.slice (some ⟨b, off, none⟩) len c) l) : ∀ j, j < (intsOf l).length → w.cell? ⟨b, off + j, none⟩ = some (.int .i64 ((intsOf l).getD j 0)) := fun j hj => by
  rw [intsOf_len] at hj
  obtain ⟨b', off', he, hc⟩ := h.get (List.getElem?_eq_getElem hj)
  obtain ⟨rfl, rfl⟩ : b = b' ∧ off = off' := by simpa using he
  rw [hc]
  simp [intsOf, List.getD_eq_getElem?_getD, List.getElem?_eq_getElem hj]
theorem below_drew {B : Nat} {w w' : World} (h : Below B w w') : Below B w w'.drew := ⟨h.os, h.tape, h.output, h.size, h.block⟩
theorem NatsAt.back {V7 V8 w6 : World} {v : Value} {l : List Nat} (h : NatsAt V8 v l) (hb : ∀ g, v.ownBlock = some g → g < V7.heap.size) (h8 : Below V7.heap.size V7 V8) (h6 : Below V7.heap.size V7 w6) : NatsAt w6 v l := by
  obtain ⟨a, cap, rfl, h0 | ⟨b, off, rfl, hlt, hc⟩⟩ := h
  · exact ⟨a, cap, rfl, .inl h0⟩
  · have h1 := hb b rfl
    refine ⟨_, cap, rfl, .inr ⟨b, off, rfl, by have := h6.size; omega, fun j x hj => ?_⟩⟩
    exact (World.cell?_of_block ((h6.block b h1).trans (h8.block b h1).symm)).trans (hc j x hj)
theorem RowsAt.get2 {w : World} {v : Value} {ll : List (List Nat)} {N : Nat → Prop} (h : RowsAt w v ll N) {n : Nat} {l : List Nat} (hn : ll[n]? = some l) :
    ∃ b off cap a c, v = .slice (some ⟨b, off, none⟩) ll.length cap ∧ w.cell? ⟨b, off + n, none⟩ = some (.slice a l.length c) ∧ NatsAt w (.slice a l.length c) l ∧ ∀ g, (Value.slice a l.length c).ownBlock = some g → N g := by
  obtain ⟨a, cap, rfl, h0 | ⟨b, off, rfl, hb, hNb, hc⟩⟩ := h
  · rw [h0] at hn; cases hn
  · obtain ⟨u, hu, ⟨a, c, rfl, hl⟩, hg⟩ := hc n l hn
    exact ⟨b, off, cap, a, c, rfl, hu, ⟨a, c, rfl, hl⟩, fun g e => (hg g e).2⟩
theorem own_cap {w : World} {B g n cap : Nat} {e : TypeId} {xs : List Value} (h : w.ownsRow B e 1 (.slice (some ⟨g, 0, none⟩) n cap) n xs) : n ≤ cap ∧ cap ≤ 9223372036854775807 := by
  rcases h.2 with ⟨h0, -⟩ | ⟨g', cap', cur, hv, -, -, h3, h4, -⟩
  · cases h0
  · obtain ⟨-, rfl⟩ : g = g' ∧ cap = cap' := by simpa using hv
    exact ⟨h3, by simpa [maxLen] using h4⟩
theorem takesL_snoc {d : Aut} {R : List Nat} {j n : Nat} (h : R[j]? = some n) : takesL d (R.take (j + 1)) = takesL d (R.take j) ++ if d.fin n then [n] else [] := by
  have ht : R.take (j + 1) = R.take j ++ [n] := by rw [List.take_add_one, h]; rfl
  rw [ht, takesL, List.filter_append]
  congr 1
  cases hf : d.fin n <;> simp [hf]
theorem othersL_snoc {d : Aut} {R : List Nat} {j n : Nat} (h : R[j]? = some n) : othersL d (R.take (j + 1)) = othersL d (R.take j) ++ if d.fin n then [] else [n] := by
  have ht : R.take (j + 1) = R.take j ++ [n] := by rw [List.take_add_one, h]; rfl
  rw [ht, othersL, List.filter_append]
  congr 1
  cases hf : d.fin n <;> simp [hf]
theorem takesL_len (d : Aut) (R : List Nat) (j : Nat) : (takesL d (R.take j)).length ≤ R.length := Nat.le_trans (List.length_filter_le _ _) (by rw [List.length_take]; omega)
theorem othersL_len (d : Aut) (R : List Nat) (j : Nat) : (othersL d (R.take j)).length ≤ R.length := Nat.le_trans (List.length_filter_le _ _) (by rw [List.length_take]; omega)

/-- two rows of the call's own, apart -/
structure Both (B : Nat) (w : World) (u v : Value) (a b : List Nat) : Prop where
  fst : w.ownsRow B 3 1 u a.length (natCells a)
  snd : w.ownsRow B 3 1 v b.length (natCells b)
  off : ∀ k, u.ownBlock = some k → v.ownBlock ≠ some k
theorem Both.swap {B : Nat} {w : World} {u v : Value} {a b : List Nat} (h : Both B w u v a b) : Both B w v u b a := ⟨h.snd, h.fst, fun k hk hk' => h.off k hk' hk⟩
theorem Both.push {B : Nat} {w w' w5 : World} {u v : Value} {a b : List Nat} {g cap n : Nat} (h : Both B w u v a b) (hw : Below w.heap.size w w') (hz : w'.heap.size = w.heap.size + 1) (hown : w5.ownsRow B 3 1 (.slice (some ⟨g, 0, none⟩) (a.length + 1) cap) (a.length + 1) (natCells a ++ [.int .i64 (n : Int)]))
    (hgrow : w'.grownBy w5 u.ownBlock) (hat : u.ownBlock = some g ∨ g = w'.heap.size) : Both B w5 (.slice (some ⟨g, 0, none⟩) (a.length + 1) cap) v (a ++ [n]) b := by
  refine ⟨?_, ?_, fun k hk hk' => ?_⟩
  · rw [natCells_snoc, List.length_append]; exact hown
  · refine World.ownsRow.kept (w := w') ?_ hgrow ?_
    · exact own_under h.snd hw fun k hk => own_lt h.snd hk
    · cases hu : v.ownBlock with
      | none => exact .inl rfl
      | some k => exact .inr fun e => h.off k e.symm hu
  · obtain rfl : g = k := Option.some.inj hk
    rcases hat with h1 | h1
    · exact h.off g h1 hk'
    · have := own_lt h.snd hk'; omega

theorem start_parts {w1 W1 : World} {B g M : Nat} (hown : w1.ownsRow B 3 1 (.slice (some ⟨g, 0, none⟩) M M) M (madeCells (Value.int .i64 0).cells (M * 1)).toList) (hB : B ≤ w1.heap.size) (hW : w1.alloc (.cells #[.slice (some ⟨g, 0, none⟩) M M, .slice none 0 0, .slice none 0 0, .slice none 0 0] 106) = W1) :
    PartsAt W1 B w1.heap.size M parts0 (.slice (some ⟨g, 0, none⟩) M M) (.slice none 0 0) (.slice none 0 0) (.slice none 0 0) [] := by
  subst hW
  have hg : g < w1.heap.size := own_lt hown rfl
  have hgn : ∀ k, (Value.slice (some ⟨g, 0, none⟩) M M).ownBlock = some k → g = k := fun k hk => Option.some.inj hk
  have hc : (madeCells (Value.int .i64 0).cells (M * 1)).toList = clsCells parts0.cls M := by
    show (madeCells #[Value.int .i64 0] (M * 1)).toList = _
    rw [toList_madeCells_one]
    refine List.ext_getElem? fun i => ?_
    simp [clsCells, parts0, List.getElem?_replicate, List.getElem?_range]
    by_cases h : i < M
    · simp [h, List.getElem?_range h]
    · simp [h]
  rw [hc] at hown
  refine ⟨Blk.new w1 _ _, hB, hown.alloc _, World.ownsRow_nil _ _ _ _, World.ownsRow_nil _ _ _ _, World.ownsRow_nil _ _ _ _, .mk4 ?_ ?_ ?_ ?_, fun k hk => .mk3 ?_ ?_ ?_, fun k hk => .mk2 ?_ ?_, fun k hk => .mk1 ?_, fun c s h => ?_⟩
  · intro e; have := hgn _ e; omega
  all_goals first | (intro e; cases e; done) | (simp [parts0] at h; done)

theorem run_index_two (x y : Value) (W : World) : (Instr.index 107 (.agg #[x, y]) (.int .i64 0)).run Tryz.prog W = .ok x W ∧ (Instr.index 107 (.agg #[x, y]) (.int .i64 1)).run Tryz.prog W = .ok y W := by
  constructor <;> simp [Instr.index, run_underlying Tryz.underlying107, asIntOf, Tryz.sizeOf23, Tryz.isAgg23, go_sem]
/-- the first classes, one by one -/
def iniN (d : Aut) (R : List Nat) : Nat → Parts
  | 0 => parts0
  | i + 1 => iniP (iniN d R i) (if i = 0 then takesL d R else othersL d R)
theorem iniN_two (d : Aut) (R : List Nat) : iniN d R 2 = parts2 d R := by simp [iniN, parts2]
theorem iniP_len {P : Parts} {s : List Nat} {i : Nat} (h : P.wai.length = P.mem.length ∧ P.mem.length ≤ i ∧ P.work.length ≤ i) : (iniP P s).wai.length = (iniP P s).mem.length ∧ (iniP P s).mem.length ≤ i + 1 ∧ (iniP P s).work.length ≤ i + 1 := by
  unfold iniP
  split
  · omega
  · rw [opens_wait P s h.1]
    simp [Parts.opens]
    omega
theorem iniN_len (d : Aut) (R : List Nat) : ∀ i, (iniN d R i).wai.length = (iniN d R i).mem.length ∧ (iniN d R i).mem.length ≤ i ∧ (iniN d R i).work.length ≤ i
  | 0 => by simp [iniN, parts0]
  | i + 1 => iniP_len (iniN_len d R i)

set_option maxRecDepth 100000 in
set_option maxHeartbeats 8000000 in
theorem classes_any (w : World) (st fv bv nv rv : Value) (nxt : List (List Nat)) (R : List Nat) (d : Aut) (hn : RowsAt w nv nxt fun _ => True) (hf : BoolsAt w fv nxt.length d.fin) (hr : NatsAt w rv R) (ho : NxtOk nxt d.wide) (hR : ∀ n ∈ R, n < nxt.length) (hRn : R.Nodup)
    (hd : d.Ok) (hdm : d.many = nxt.length) (hdn : d.nx = nxtF nxt) (hC : Closed d R) (hl1 : nxt.length ≤ 1000000) (hl2 : d.wide ≤ 1000000) (hl3 : R.length < 1000000) :
    Calls Tryz.prog 46 #[.agg #[st, fv, bv, nv], rv] w fun e w' => ∃ v P, e = .returned (.tuple #[v, .int .i64 P.mem.length]) ∧ w'.ownsRow w.heap.size 3 1 v nxt.length (clsCells P.cls nxt.length) ∧ HopI d R P ∧ (∀ p q, p ∈ R → q ∈ R → (P.cls p = P.cls q ↔ d.Eqv p q)) ∧ Below w.heap.size w w' := by
  have hbw := (Below.refl w.heap.size w).alloc (Nat.le_refl _) (.cells #[st, fv, bv, nv] 26)
  have hq := Blk.new w 26 #[st, fv, bv, nv]
  obtain ⟨an, cn, hnv, -⟩ := id hn
  subst hnv
  obtain ⟨⟨y0, y1, y2, y3⟩, -⟩ := hq.c4
  obtain ⟨i0, hi0, hz00, hz01, hz02⟩ := info_parts infoInt
  obtain ⟨j0, hj0, hy00, hy01, hy02⟩ := info_parts infoRow
  obtain ⟨ar, cr, rfl, hrc⟩ := id hr
  have hpos := ho.pos
  have hl9 : nxt.length ≤ 9223372036854775807 := by omega
  have H := Lib.hid (And.intro hn (And.intro hr (And.intro hbw (And.intro hq hf))))
  clear hn hr hrc hbw hq hf
  have HD := Lib.hid (And.intro hd (And.intro hdm (And.intro hdn (And.intro hC (And.intro hRn ho)))))
  clear hd hdm hdn hC hRn ho
  go_enter Tryz.func46, Tryz.ntmps46
  go_wp2_with (at_make; refine wpList_make_full _ rfl _ _ 23 rfl (w.heap.size + 1) 3 i0 (.int .i64 0) 1 Tryz.underlying23 hi0 hz00 hz01 .i64 .i64 nxt.length nxt.length nxt.length rfl rfl rfl rfl (by rw [hz02]; omega) (by unfold maxLen; omega) (by simp) ?_; intro w1 hown1 hgrow1)
  have hB1 : Below w.heap.size w w1 := H.out.2.2.1.grown hgrow1 (by simp) (fun k e => by cases e)
  have hq1 := H.out.2.2.2.1.grown hgrow1 (by simp)
  have hgo : (w.alloc (.cells #[st, fv, bv, .slice an nxt.length cn] 26)).heap.size = w.heap.size + 1 := by simp
  rw [hgo] at hown1
  have hz1 : w.heap.size + 1 < w1.heap.size := by have := own_lt hown1 rfl; simp at this; omega
  obtain ⟨W1, hW1⟩ : ∃ W1, w1.alloc (.cells #[.slice (some ⟨w.heap.size + 1, 0, none⟩) nxt.length nxt.length, .slice none 0 0, .slice none 0 0, .slice none 0 0] 106) = W1 := ⟨_, rfl⟩
  have HP : Hid (PS W1 (w.heap.size + 1) w1.heap.size nxt.length parts0 (.slice (some ⟨w.heap.size + 1, 0, none⟩) nxt.length nxt.length) fun _ => False) := Lib.hid ⟨_, _, _, _, start_parts hown1 (by omega) hW1, fun k hk => hk.elim⟩
  have HB := Lib.hid (And.intro (hB1.alloc (by omega) (.cells #[.slice (some ⟨w.heap.size + 1, 0, none⟩) nxt.length nxt.length, .slice none 0 0, .slice none 0 0, .slice none 0 0] 106)) (hq1.alloc (.cells #[.slice (some ⟨w.heap.size + 1, 0, none⟩) nxt.length nxt.length, .slice none 0 0, .slice none 0 0, .slice none 0 0] 106)))
  have hzW : w1.heap.size + 1 = W1.heap.size := by rw [← hW1]; simp
  rw [hW1] at HB
  rw [hW1]
  clear hown1 hgrow1 hB1 hq1 y0 y1 y2 y3 hgo hW1
  obtain ⟨p, hp⟩ : ∃ p, w1.heap.size = p := ⟨_, rfl⟩
  rw [hp] at HP hzW hz1
  simp only [hp]
  clear hp
  clear w1
  go_loopw [7, 8, 10, 34] (fun c7 c8 _ c34 wr => ∃ j : Nat, j ≤ R.length ∧ c34 = .int .i64 j ∧ Hid (Both W1.heap.size wr c7 c8 (takesL d (R.take j)) (othersL d (R.take j))) ∧ Below W1.heap.size W1 wr) (fun _ _ _ c _ => R.length - (intOf c).toNat)
  case atStart => exact ⟨0, by omega, rfl, Lib.hid ⟨by rw [List.take_zero]; exact World.ownsRow_nil _ _ _ _, by rw [List.take_zero]; exact World.ownsRow_nil _ _ _ _, fun k hk => by cases hk⟩, Below.refl _ _⟩
  case round =>
    obtain ⟨j, hj, rfl, hbo, hb⟩ := hrel
    obtain ⟨a7, cap7, rfl⟩ := own_shape hbo.out.fst
    obtain ⟨a8, cap8, rfl⟩ := own_shape hbo.out.snd
    have hTl := takesL_len d R j
    have hOl := othersL_len d R j
    have hbz := hb.size
    by_cases hlt : j < R.length
    · have k1 : decide (j < R.length) = true := decide_eq_true hlt
      obtain ⟨n, hx⟩ : ∃ n, R[j]? = some n := ⟨_, List.getElem?_eq_getElem hlt⟩
      have hnM := hR n (List.mem_of_getElem? hx)
      have hbw : Below w.heap.size w wr := HB.out.1.trans (hb.mono (by omega))
      obtain ⟨bR, offR, rfl, mR⟩ := (H.out.2.1.below hbw).get hx
      obtain ⟨bF, offF, capF, rfl, mF⟩ := (H.out.2.2.2.2.below hbw).get hnM
      have y1 := (HB.out.2.below hb (by omega)).c4.1.2.1
      have hsT := takesL_snoc (d := d) hx
      have hsO := othersL_snoc (d := d) hx
      have hone := one_at (w := wr) (u := .int .i64 (n : Int)) (t := 3)
      have hal := (Below.refl wr.heap.size wr).alloc (Nat.le_refl _) (.cells #[.int .i64 (n : Int)] 3)
      have hzal : (wr.alloc (.cells #[.int .i64 (n : Int)] 3)).heap.size = wr.heap.size + 1 := by simp
      have hb2 := hb.alloc (by omega) (.cells #[.int .i64 (n : Int)] 3)
      cases hfi : d.fin n with
      | true =>
        rw [hfi] at mF hsT hsO
        have hown5 := hbo.out.fst.alloc (.cells #[.int .i64 (n : Int)] 3)
        have HS := Lib.hid (And.intro hsT (And.intro hsO hx))
        clear hsT hsO hx hfi
        go_wp2_with (at_builtin; refine wpList_append_lies _ rfl _ _ 23 rfl W1.heap.size 3 i0 (.int .i64 0) 1 8 Tryz.underlying23 hi0 hz00 hz01 hz02 rfl (by decide) _ _ _ rfl hown5 ⟨wr.heap.size, 0, none⟩ 1 1 [.int .i64 (n : Int)] rfl rfl hone (fun u hu => by simp at hu; subst hu; rfl) (by decide) (by unfold maxLen; omega) (by omega) (by omega) _ rfl ?_; intro g cap w5 hown6 hgrow6 hat6 hlt6)
        go_roundw
        case rel =>
          refine ⟨j + 1, by omega, by go_num, Lib.hid ?_, hb2.grown hgrow6 (by omega) (fun k e => (hown5.lt k e).1)⟩
          rw [HS.out.1, HS.out.2.1]
          simpa using hbo.out.push hal hzal hown6 hgrow6 hat6
        case measure => simp [intOf]; omega
      | false =>
        rw [hfi] at mF hsT hsO
        have hown5 := hbo.out.snd.alloc (.cells #[.int .i64 (n : Int)] 3)
        have HS := Lib.hid (And.intro hsT (And.intro hsO hx))
        clear hsT hsO hx hfi
        go_wp2_with (at_builtin; refine wpList_append_lies _ rfl _ _ 23 rfl W1.heap.size 3 i0 (.int .i64 0) 1 8 Tryz.underlying23 hi0 hz00 hz01 hz02 rfl (by decide) _ _ _ rfl hown5 ⟨wr.heap.size, 0, none⟩ 1 1 [.int .i64 (n : Int)] rfl rfl hone (fun u hu => by simp at hu; subst hu; rfl) (by decide) (by unfold maxLen; omega) (by omega) (by omega) _ rfl ?_; intro g cap w5 hown6 hgrow6 hat6 hlt6)
        go_roundw
        case rel =>
          refine ⟨j + 1, by omega, by go_num, Lib.hid ?_, hb2.grown hgrow6 (by omega) (fun k e => (hown5.lt k e).1)⟩
          rw [HS.out.1, HS.out.2.1]
          simpa using (hbo.out.swap.push hal hzal hown6 hgrow6 hat6).swap
        case measure => simp [intOf]; omega
    · obtain rfl : j = R.length := by omega
      have k1 : decide (R.length < R.length) = false := decide_eq_false (by omega)
      have hB0 := HB.out.1.size
      obtain ⟨T, hT⟩ : ∃ T, takesL d R = T := ⟨_, rfl⟩
      obtain ⟨O, hO⟩ : ∃ O, othersL d R = O := ⟨_, rfl⟩
      rw [List.take_length, hT, hO] at hbo
      rw [List.take_length, hT] at hTl
      rw [List.take_length, hO] at hOl
      simp only [List.take_length, hT, hO]
      have HT := Lib.hid (And.intro hT hO)
      have hRM : Hid ((∀ n ∈ T, n < nxt.length) ∧ ∀ n ∈ O, n < nxt.length) := Lib.hid ⟨fun n h => hR n (takesL_mem.1 (by rw [hT]; exact h)).1, fun n h => hR n (othersL_mem.1 (by rw [hO]; exact h)).1⟩
      clear hT hO
      have hP2 := (HP.out.more hb).less (N' := fun k => W1.heap.size ≤ k ∧ k < wr.heap.size) fun k hk => .inr hk
      have hNN : Hid ((∀ k, (Value.slice a7 T.length cap7).ownBlock = some k → W1.heap.size ≤ k ∧ k < wr.heap.size) ∧ ∀ k, (Value.slice a8 O.length cap8).ownBlock = some k → W1.heap.size ≤ k ∧ k < wr.heap.size) := Lib.hid ⟨fun k hk => hbo.out.fst.lt k hk, fun k hk => hbo.out.snd.lt k hk⟩
      have HI0 := Lib.hid (And.intro hP2 (And.intro (NatsAt.of_own hbo.out.fst) (And.intro (NatsAt.of_own hbo.out.snd) (Below.refl (w.heap.size + 1) wr))))
      have HBw := Lib.hid (And.intro (HB.out.1.trans (hb.mono (by omega))) (HB.out.2.below hb (by omega)))
      clear hbo hb hP2 HP HB
      obtain ⟨W2, hW2⟩ : ∃ W2, W2 = wr := ⟨_, rfl⟩
      subst hW2
      go_wp2_with fail
      go_loopw [12, 55] (fun _ c55 wi => ∃ i : Nat, i ≤ 2 ∧ c55 = .int .i64 i ∧ W2.heap.size ≤ wi.heap.size ∧ Hid (PS wi (w.heap.size + 1) p nxt.length (iniN d R i) (.slice (some ⟨w.heap.size + 1, 0, none⟩) nxt.length nxt.length) (fun k => W1.heap.size ≤ k ∧ k < W2.heap.size) ∧ NatsAt wi (.slice a7 T.length cap7) T ∧ NatsAt wi (.slice a8 O.length cap8) O ∧ Below (w.heap.size + 1) W2 wi)) (fun _ c _ => 2 - (intOf c).toNat)
      case atStart => exact ⟨0, by omega, rfl, Nat.le_refl _, HI0⟩
      case round =>
        clear HI0
        obtain ⟨i, hi2, rfl, hwz, hi⟩ := hrel
        obtain ⟨l1, l2, l3⟩ := iniN_len d R i
        obtain rfl | rfl | rfl : i = 0 ∨ i = 1 ∨ i = 2 := by omega
        · skip
          by_cases hp0 : 0 < T.length
          · have q1 : decide (0 < T.length) = true := decide_eq_true hp0
            have hix := fun W => (run_index_two (.slice a7 T.length cap7) (.slice a8 O.length cap8) W).1
            have hop := hi.out.1.open_ (s := T) hi.out.2.1 (fun k hk => hNN.out.1 k hk) (fun n hn => hRM.out.1 n hn) (by omega) (by omega) (by unfold maxLen; omega) (by omega) (by omega)
            have hbI := Lib.hid hi.out.2.2.2
            have hnI := Lib.hid (And.intro hi.out.2.1 hi.out.2.2.1)
            have hbI5 := hbI.out.size
            clear hi
            obtain ⟨Pm, hPm⟩ : ∃ Pm, (iniN d R 0).mem.length = Pm := ⟨_, rfl⟩
            have HPm := Lib.hid (And.intro hPm (iniN_len d R 0).1)
            rw [hPm] at hop l1 l2
            clear hPm
            go_wp2_with fail
            refine hop.mono ?_
            rintro e w5 ⟨rfl, hP5, hS5, hB5⟩
            have hzz5 := hB5.size
            have hwt := hP5.wait_ (c := Pm) (by show Pm < ((iniN d R 0).wai ++ [false]).length; simp; omega) (by show (iniN d R 0).work.length ≤ _; omega) (by omega)
            clear hP5 hop
            go_wp2_with fail
            refine hwt.mono ?_
            rintro e w6 ⟨rfl, hP6, hS6, hB6⟩
            have hzz6 := hB6.size
            clear hwt
            go_wp2_with fail
            go_roundw
            case rel =>
              refine ⟨0 + 1, by omega, by go_num, by omega, Lib.hid ⟨?_, hnI.out.1.same (hS5.trans hS6) (fun k hk => hNN.out.1 k hk), hnI.out.2.same (hS5.trans hS6) (fun k hk => hNN.out.2 k hk), (hbI.out.trans hB5).trans hB6⟩⟩
              have he : iniN d R (0 + 1) = ((iniN d R 0).opens T).wait Pm := by
                show iniP (iniN d R 0) (if 0 = 0 then takesL d R else othersL d R) = _
                rw [if_pos rfl, HT.out.1, ← HPm.out.1]
                unfold iniP
                rw [if_neg (fun e => by rw [e] at hp0; simp at hp0)]
              rw [he]
              exact hP6
            case measure => simp [intOf]
          · have hp1 : T.length = 0 := by omega
            have q1 : decide (0 < T.length) = false := decide_eq_false (by omega)
            have hix := fun W => (run_index_two (.slice a7 T.length cap7) (.slice a8 O.length cap8) W).1
            have HP1 := Lib.hid hp1
            clear hp1
            go_wp2_with fail
            go_roundw
            case rel =>
              refine ⟨0 + 1, by omega, by go_num, hwz, Lib.hid ⟨?_, hi.out.2⟩⟩
              have he : iniN d R (0 + 1) = iniN d R 0 := by
                show iniP (iniN d R 0) (if 0 = 0 then takesL d R else othersL d R) = _
                rw [if_pos rfl, HT.out.1]
                unfold iniP
                rw [if_pos (List.eq_nil_of_length_eq_zero HP1.out)]
              rw [he]
              exact hi.out.1
            case measure => simp [intOf]
        · skip
          by_cases hp0 : 0 < O.length
          · have q1 : decide (0 < O.length) = true := decide_eq_true hp0
            have hix := fun W => (run_index_two (.slice a7 T.length cap7) (.slice a8 O.length cap8) W).2
            have hop := hi.out.1.open_ (s := O) hi.out.2.2.1 (fun k hk => hNN.out.2 k hk) (fun n hn => hRM.out.2 n hn) (by omega) (by omega) (by unfold maxLen; omega) (by omega) (by omega)
            have hbI := Lib.hid hi.out.2.2.2
            have hnI := Lib.hid (And.intro hi.out.2.1 hi.out.2.2.1)
            have hbI5 := hbI.out.size
            clear hi
            obtain ⟨Pm, hPm⟩ : ∃ Pm, (iniN d R 1).mem.length = Pm := ⟨_, rfl⟩
            have HPm := Lib.hid (And.intro hPm (iniN_len d R 1).1)
            rw [hPm] at hop l1 l2
            clear hPm
            go_wp2_with fail
            refine hop.mono ?_
            rintro e w5 ⟨rfl, hP5, hS5, hB5⟩
            have hzz5 := hB5.size
            have hwt := hP5.wait_ (c := Pm) (by show Pm < ((iniN d R 1).wai ++ [false]).length; simp; omega) (by show (iniN d R 1).work.length ≤ _; omega) (by omega)
            clear hP5 hop
            go_wp2_with fail
            refine hwt.mono ?_
            rintro e w6 ⟨rfl, hP6, hS6, hB6⟩
            have hzz6 := hB6.size
            clear hwt
            go_wp2_with fail
            go_roundw
            case rel =>
              refine ⟨1 + 1, by omega, by go_num, by omega, Lib.hid ⟨?_, hnI.out.1.same (hS5.trans hS6) (fun k hk => hNN.out.1 k hk), hnI.out.2.same (hS5.trans hS6) (fun k hk => hNN.out.2 k hk), (hbI.out.trans hB5).trans hB6⟩⟩
              have he : iniN d R (1 + 1) = ((iniN d R 1).opens O).wait Pm := by
                show iniP (iniN d R 1) (if 1 = 0 then takesL d R else othersL d R) = _
                rw [if_neg (by decide), HT.out.2, ← HPm.out.1]
                unfold iniP
                rw [if_neg (fun e => by rw [e] at hp0; simp at hp0)]
              rw [he]
              exact hP6
            case measure => simp [intOf]
          · have hp1 : O.length = 0 := by omega
            have q1 : decide (0 < O.length) = false := decide_eq_false (by omega)
            have hix := fun W => (run_index_two (.slice a7 T.length cap7) (.slice a8 O.length cap8) W).2
            have HP1 := Lib.hid hp1
            clear hp1
            go_wp2_with fail
            go_roundw
            case rel =>
              refine ⟨1 + 1, by omega, by go_num, hwz, Lib.hid ⟨?_, hi.out.2⟩⟩
              have he : iniN d R (1 + 1) = iniN d R 1 := by
                show iniP (iniN d R 1) (if 1 = 0 then takesL d R else othersL d R) = _
                rw [if_neg (by decide), HT.out.2]
                unfold iniP
                rw [if_pos (List.eq_nil_of_length_eq_zero HP1.out)]
              rw [he]
              exact hi.out.1
            case measure => simp [intOf]
        · clear l1 l2 l3
          rw [iniN_two] at hi
          obtain ⟨⟨y0, y1, y2, y3⟩, -⟩ := (HBw.out.2.below (hi.out.2.2.2) (by omega)).c4
          have hbV : Below w.heap.size w wr := HBw.out.1.trans (hi.out.2.2.2.mono (by omega))
          have hah := ahead_any wr st fv bv (.slice an nxt.length cn) (.slice ar R.length cr) nxt R d.wide (H.out.1.below hbV) (H.out.2.1.below hbV) HD.out.2.2.2.2.2 hR hl1 hl2 (Nat.le_of_lt hl3)
          have hPV := hi.out.1
          clear hi HBw HT hRM hNN
          go_wp2_with fail
          refine hah.mono ?_
          rintro e V3 ⟨F3, rfl, hF3, hB3⟩
          have hz3 := hB3.size
          obtain ⟨a3, cap3, rfl, h3⟩ := id hF3
          have hP3 := (hPV.more hB3).less (N' := fun k => wr.heap.size ≤ k ∧ k < V3.heap.size) fun k hk => .inr hk
          have HBV := Lib.hid (hbV.trans (hB3.mono (by omega)))
          have HF := Lib.hid hF3
          have hB0w : w.heap.size + 1 ≤ wr.heap.size := by omega
          clear hah hPV hB3 hF3 hbV h3 y0 y1 y2 y3
          obtain ⟨V, hV⟩ : ∃ V, V = wr := ⟨_, rfl⟩
          subst hV
          have hi2 := parts2_inv (d := d) HD.out.2.2.2.2.1
          have H0 := Lib.hid (And.intro hi2.1 (And.intro hi2.2 hP3))
          clear hi2 hP3
          go_wp2_with fail
          go_loopg [14, 15, 16, 17, 18, 20, 22, 23, 25] ((parts2 d R).work.length + 2 * (R.length - (parts2 d R).mem.length)) (fun gk _ _ _ _ _ _ _ _ _ wr => ∃ P : Parts, gk = P.work.length + 2 * (R.length - P.mem.length) ∧ V3.heap.size ≤ wr.heap.size ∧ Hid (HopI d R P ∧ ∃ b0 K, d.wide ≤ K ∧ Hop2 d R P b0 K) ∧ Hid (PS wr (w.heap.size + 1) p nxt.length P (.slice (some ⟨w.heap.size + 1, 0, none⟩) nxt.length nxt.length) (fun k => V.heap.size ≤ k ∧ k < V3.heap.size) ∧ Same (fun k => V.heap.size ≤ k ∧ k < V3.heap.size) V3 wr ∧ Below (w.heap.size + 1) V3 wr))
          case atStart => exact ⟨_, rfl, Nat.le_refl _, Lib.hid ⟨H0.out.1, [], d.wide, Nat.le_refl _, H0.out.2.1⟩, Lib.hid ⟨H0.out.2.2, ⟨Nat.le_refl _, fun k _ _ => rfl⟩, Below.refl _ _⟩⟩
          case round =>
            clear H0
            obtain ⟨P, rfl, hwz3, hI, hM⟩ := hrel
            obtain ⟨mv, wv, kv, ms, hP, hN⟩ := hM.out.1
            obtain ⟨am, capm, rfl⟩ := own_shape hP.mem
            obtain ⟨ak, capk, rfl⟩ := own_shape hP.work
            obtain ⟨⟨y0, y1, y2, y3⟩, x0, x1, x2, x3⟩ := hP.blk.c4
            by_cases hw0 : P.work = []
            · have q1 : decide (0 < P.work.length) = false := decide_eq_false (by rw [hw0]; simp)
              have HW := Lib.hid (And.intro hw0 hP)
              clear hw0 hP
              go_wp2_with fail
              go_region
              go_wp2_with fail
              refine bodyPost_ret (by simp [results, Tryz.results46, go_sem]; try rfl) rfl ?_
              obtain ⟨b0, K0, hK0, hH0⟩ := hI.out.2
              exact ⟨_, P, rfl, own_base HW.out.2.cls (Nat.le_succ _), hI.out.1, fun x y hx hy => hop_end HD.out.2.2.2.1 hI.out.1 hH0 hK0 HW.out.1 hx hy, below_drew (HBV.out.trans (hM.out.2.2.mono (Nat.le_succ _)))⟩
            · obtain ⟨l, c, hl⟩ : ∃ l c, P.work = l ++ [c] := by
                rcases List.eq_nil_or_concat P.work with h | ⟨l, c, h⟩
                · exact absurd h hw0
                · exact ⟨l, c, by simpa using h⟩
              have hlen : P.work.length = l.length + 1 := by rw [hl]; simp
              obtain ⟨bb, KK, hKK, hH2⟩ := hI.out.2
              obtain ⟨hcm, hI1, hI2, hby, hbn⟩ := pop_keeps hI.out.1 hH2 hKK HD.out.2.2.2.1 hl
              have hwl := hI.out.1.len
              obtain ⟨gw, capw, rfl, hgB, hgl⟩ := hP.wai.form (by omega)
              obtain ⟨gk, capk', hke, -, hgk⟩ := hP.work.form (by omega)
              obtain ⟨rfl, rfl⟩ : ak = some ⟨gk, 0, none⟩ ∧ capk = capk' := by simpa using hke
              obtain ⟨gm, capm', hme, -, hgm⟩ := hP.mem.form (by omega)
              obtain ⟨rfl, rfl⟩ : am = some ⟨gm, 0, none⟩ ∧ capm = capm' := by simpa using hme
              have q1 : decide (0 < P.work.length) = true := decide_eq_true (by omega)
              have c0 := hP.work.cellAt l.length (by omega)
              rw [natCells_at (l := P.work) (j := l.length) (x := c) (by rw [hl]; simp)] at c0
              have c1 := hP.wai.cellAt c (by omega)
              have c2 := hP.wai.frozenAt c
              have hwc : P.wai[c]? = some true := (hI.out.1.wk c).1 (by rw [hl]; simp)
              rw [List.getElem?_map, hwc] at c1
              obtain ⟨s, hs⟩ : ∃ s, P.mem[c]? = some s := ⟨_, List.getElem?_eq_getElem hcm⟩
              have hsd : P.mem.getD c [] = s := by rw [List.getD_eq_getElem?_getD, hs]; rfl
              rw [hsd] at hI2 hby hbn
              obtain ⟨v, hv, hnv, hoff⟩ := hP.rows c s hs
              obtain ⟨av, capv, rfl, hsn | ⟨bv2, offv, rfl, hbv, hcv⟩⟩ := id hnv
              · exact absurd hsn (hI.out.1.mem c s hs).1
              have c3 := hP.mem.cellAt c (by omega)
              rw [hv] at c3
              have hcap := own_cap hP.work
              have hcap2 := hcap.2
              have hcap3 : l.length + 1 ≤ capk := by omega
              obtain ⟨hPp0, hPo0⟩ := pop_at hP hl (by omega)
              have hPp := hPp0.only ((Only.refl [] _).drew.drew) (by simp) (by simp)
              have hPo := hPo0.drew.drew
              have hnv5 := hnv.only hPo fun k hk => (hP.row_lt _ (List.mem_of_getElem? hv) k hk).2
              have hn1 : ¬ p = gw := fun e => hP.offp (.slice (some ⟨gw, 0, none⟩) P.wai.length capw) (by simp) (by rw [e]; rfl)
              have hn2 : ¬ gw = p := fun e => hn1 e.symm
              have hn3 : ¬ p = gm := fun e => hP.offp (.slice (some ⟨gm, 0, none⟩) P.mem.length capm) (by simp) (by rw [e]; rfl)
              have hn4 : ¬ gm = p := fun e => hn3 e.symm
              have hn5 : ¬ gm = gw := fun e => hP.offm gm rfl (.slice (some ⟨gw, 0, none⟩) P.wai.length capw) (by simp) (by rw [e]; rfl)
              have hn6 : ¬ gw = gm := fun e => hn5 e.symm
              have hsM : s.length ≤ R.length := nodup_sub s R hbn fun x hx => hby.inR x hx
              have hNp := PS.next hP hN hPp hPo (.same _ _) (.same _ _) (.inl rfl) (by omega)
              have hIP := Lib.hid (And.intro hI1 (And.intro hI2 (And.intro hby hbn)))
              have HP9 := Lib.hid (And.intro hNp (And.intro (hnv5.ints) hs))
              have hpl : P.wai.length ≤ 9223372036854775807 := by have := hI.out.1.count; omega
              have hpm : P.mem.length ≤ 9223372036854775807 := by have := hI.out.1.count; omega
              have hpk : l.length + 1 ≤ 9223372036854775807 := by have := nodup_sub P.work (List.range P.wai.length) hI.out.1.nod (fun x hx => by have := (List.getElem?_eq_some_iff.1 ((hI.out.1.wk x).1 hx)).1; simpa using this); simp at this; have := hI.out.1.count; omega
              have HL := Lib.hid (And.intro hl hw0)
              have HSR := Lib.hid (And.intro hsd (And.intro hwc hcv))
              clear hP hPp0 hPo0 hnv5 hcap hNp hnv hPo hs hoff hPp hI1 hI2 hby hbn hH2 hl hw0 hsd hwc hcv hke hme hv
              rw [hlen] at q1
              rw [hlen] at y3
              go_wp2_with fail
              go_region
              go_wp2_with fail
              go_region
              go_wp2_with fail
              obtain ⟨V5, hV5⟩ : ∃ V5, ((wr.setCell ⟨p, 3, none⟩ (.slice (some ⟨gk, 0, none⟩) l.length capk)).setCell ⟨gw, c, none⟩ (.bool false)).drew.drew = V5 := ⟨_, rfl⟩
              rw [hV5] at HP9
              rw [hV5]
              clear hV5 y0 y1 y2 y3 x0 x1 x2 x3 c0 c1 c2 c3
              have hcl := slices_Clone_int bv2 offv s.length capv (intsOf s) V5 (by rw [intsOf_len]; exact Nat.le_refl _) (by omega) HP9.out.2.1
              refine hcl.mono ?_
              rintro e V6 ⟨v6, rfl, hv6, -, hB6⟩
              have hw5 := HP9.out.1.2.2.size
              have hz6 := hB6.size
              obtain ⟨a6, cap6, rfl⟩ := own_shape hv6
              have hP6 := (HP9.out.1.1.more hB6)
              have hn6 : NatsAt V6 (.slice a6 s.length cap6) s := NatsAt.of_own (B := V5.heap.size) (n := s.length) (by have e := intsOf_cells s; rw [List.take_of_length_le (by rw [intsOf_len]; exact Nat.le_refl _), e] at hv6; exact hv6)
              have hn6N : ∀ k, (Value.slice a6 s.length cap6).ownBlock = some k → V5.heap.size ≤ k ∧ k < V6.heap.size := fun k hk => hv6.lt k hk
              have hS6 : Same (fun k => V.heap.size ≤ k ∧ k < V3.heap.size) V3 V6 := (hM.out.2.1.trans HP9.out.1.2.1).trans (Same.of_below hB6 fun k hk => by omega)
              have hBB6 := (hM.out.2.2.trans HP9.out.1.2.2).trans (hB6.mono (by omega))
              have H6 := Lib.hid (And.intro hP6 (And.intro hn6 (And.intro hn6N (And.intro hS6 hBB6))))
              clear hcl hv6 hB6 hP6 hn6 hn6N hS6 hBB6
              go_wp2_with fail
              go_loopw [16, 17, 18, 20, 22, 23, 25, 118] (fun _ _ _ _ _ _ _ c118 wr => ∃ (k : Nat) (P' : Parts), k ≤ d.wide ∧ c118 = .int .i64 k ∧ V6.heap.size ≤ wr.heap.size ∧ P'.work.length + 2 * (R.length - P'.mem.length) ≤ l.length + 2 * (R.length - P.mem.length) ∧ Hid (HopI d R P' ∧ Hop2 d R P' s k) ∧ Hid (PS wr (w.heap.size + 1) p nxt.length P' (.slice (some ⟨w.heap.size + 1, 0, none⟩) nxt.length nxt.length) (fun k => (V.heap.size ≤ k ∧ k < V3.heap.size) ∨ (V5.heap.size ≤ k ∧ k < V6.heap.size)) ∧ Same (fun k => (V.heap.size ≤ k ∧ k < V3.heap.size) ∨ (V5.heap.size ≤ k ∧ k < V6.heap.size)) V6 wr ∧ Below (w.heap.size + 1) V6 wr)) (fun _ _ _ _ _ _ _ c _ => d.wide - (intOf c).toNat)
              case atStart => exact ⟨0, P.pop l c, by omega, rfl, Nat.le_refl _, Nat.le_refl _, Lib.hid ⟨hIP.out.1, hIP.out.2.1⟩, Lib.hid ⟨H6.out.1, ⟨Nat.le_refl _, fun k _ _ => rfl⟩, Below.refl _ _⟩⟩
              case round =>
                obtain ⟨k, P', hk, rfl, hwz6, hms, hI', hM'⟩ := hrel
                by_cases hkw : k < d.wide
                · have q2 : decide (k < d.wide) = true := decide_eq_true hkw
                  have hmm := @run_makeMap Tryz.prog
                  have hG0 := Lib.hid (Gath.start wr P'.cls)
                  obtain ⟨V7, hV7⟩ : ∃ V7, V7 = wr := ⟨_, rfl⟩
                  subst hV7
                  go_wp2_with fail
                  go_loopw [18, 20, 22, 23, 124] (fun c18 _ _ _ c124 wi => ∃ i : Nat, i ≤ s.length ∧ c124 = .int .i64 i ∧ Hid (Gath V7 wi P'.cls (intoL d R k (s.take i)) c18)) (fun _ _ _ _ c _ => s.length - (intOf c).toNat)
                  case atStart => exact ⟨0, by omega, rfl, Lib.hid (by rw [List.take_zero]; exact hG0.out)⟩
                  case round =>
                    clear hG0
                    obtain ⟨i, hi, rfl, hG⟩ := hrel
                    have hSw : Same (fun k => (V.heap.size ≤ k ∧ k < V3.heap.size) ∨ (V5.heap.size ≤ k ∧ k < V6.heap.size)) V6 wr := hM'.out.2.1.trans (Same.of_below hG.out.bel fun k hk => hM'.out.1.lt hk)
                    by_cases hlt : i < s.length
                    · have q3 : decide (i < s.length) = true := decide_eq_true hlt
                      obtain ⟨x, hx⟩ : ∃ x, s[i]? = some x := ⟨_, List.getElem?_eq_getElem hlt⟩
                      have hxM := hR x (hIP.out.2.2.1.inR x (List.mem_of_getElem? hx))
                      obtain ⟨b6, off6, rfl, m6⟩ := (H6.out.2.1.same hSw (fun k hk => .inr (H6.out.2.2.1 k hk))).get hx
                      obtain ⟨b3, off3, cp3, ak2, ck2, he3, mF, hRk⟩ := (HF.out.same (H6.out.2.2.2.1.trans (hSw.less fun k hk => .inl hk))).get (aheads_get nxt R hkw)
                      obtain ⟨rfl, -, rfl⟩ := Value.slice.inj he3
                      obtain ⟨bq, offq, cpq, aq, cq, heq, mQ, hnq, hnN⟩ := hRk.get2 (ahead_get HD.out.2.2.1 hxM)
                      obtain ⟨rfl, -, rfl⟩ := Value.slice.inj heq
                      have hal : (aheadL nxt R k).length = nxt.length := by simp [aheadL]
                      rw [hal] at mF
                      have hFl : (fromL d R k x).length ≤ R.length := List.length_filter_le _ _
                      have hFR : ∀ n ∈ fromL d R k x, n ∈ R := fun n hn => (List.mem_filter.1 hn).1
                      have hin := intoL_snoc d R k hx
                      obtain ⟨Fx, hFx⟩ : ∃ Fx, fromL d R k x = Fx := ⟨_, rfl⟩
                      rw [hFx] at mQ hnq hFl hFR hin hnN
                      have hnN2 : Hid (∀ g, (Value.slice aq Fx.length cq).ownBlock = some g → g < V7.heap.size) := Lib.hid fun g hg => by have := (hnN g hg).2; omega
                      have HX := Lib.hid (And.intro hin (And.intro hFx (And.intro hFR hx)))
                      have HQ := Lib.hid hnq
                      have hwd : d.wide ≤ 9223372036854775807 := by omega
                      clear hin hFx hFR hx hnq hnN heq he3 hRk hal hSw
                      obtain ⟨V8, hV8⟩ : ∃ V8, V8 = wr := ⟨_, rfl⟩
                      subst hV8
                      go_wp2_with fail
                      go_loopw [18, 22, 23, 136] (fun c18 _ _ c136 wj => ∃ j : Nat, j ≤ Fx.length ∧ c136 = .int .i64 j ∧ Hid (Gath V7 wj P'.cls (intoL d R k (s.take i) ++ Fx.take j) c18 ∧ NatsAt wj (.slice aq Fx.length cq) Fx)) (fun _ _ _ c _ => Fx.length - (intOf c).toNat)
                      case atStart => exact ⟨0, by omega, rfl, Lib.hid ⟨by rw [List.take_zero, List.append_nil]; exact hG.out, HQ.out⟩⟩
                      case round =>
                        have hB78 := Lib.hid hG.out.bel
                        clear hG mQ mF m6
                        obtain ⟨j, hj, rfl, hGj⟩ := hrel
                        by_cases hjl : j < Fx.length
                        · have q4 : decide (j < Fx.length) = true := decide_eq_true hjl
                          obtain ⟨n, hn⟩ : ∃ n, Fx[j]? = some n := ⟨_, List.getElem?_eq_getElem hjl⟩
                          have hnR := HX.out.2.2.1 n (List.mem_of_getElem? hn)
                          have hnM := hR n hnR
                          obtain ⟨bx, ox, rfl, mx⟩ := hGj.out.2.get hn
                          have hxb := hnN2.out bx rfl
                          obtain ⟨mvj, wvj, kvj, msj, hPj1, -⟩ := hM'.out.1.below hGj.out.1.bel
                          have z0 := hPj1.blk.c4.1.1
                          have z1 := hPj1.cls.cellAt n (by omega)
                          have z2 : (clsCells P'.cls nxt.length)[n]? = some (.int .i64 ((P'.cls n : Nat) : Int)) := by simp [clsCells, List.getElem?_range hnM]
                          rw [z2] at z1
                          have hcn : P'.cls n < P'.mem.length := hI'.out.1.cov n hnR
                          have hcnt := hI'.out.1.count
                          have hLl : (intoL d R k (s.take i) ++ Fx).length ≤ R.length := by
                            rw [← HX.out.1]
                            exact nodup_sub _ R (intoL_nodup HD.out.2.2.2.2.1 (hIP.out.2.2.2.sublist (List.take_sublist _ _))) fun n hn => (intoL_mem.1 hn).1
                          have ht : intoL d R k (s.take i) ++ Fx.take (j + 1) = (intoL d R k (s.take i) ++ Fx.take j) ++ [n] := by
                            rw [List.take_add_one, hn, List.append_assoc]; rfl
                          have hLl2 : (intoL d R k (s.take i) ++ Fx.take j).length ≤ R.length := by
                            simp at hLl ⊢; omega
                          obtain ⟨Lj, hLj⟩ : ∃ Lj, intoL d R k (s.take i) ++ Fx.take j = Lj := ⟨_, rfl⟩
                          rw [hLj] at ht hLl2 hGj
                          have HT := Lib.hid ht
                          have hol := orderL_len P'.cls Lj
                          have hml : (metL P'.cls Lj (P'.cls n)).length ≤ Lj.length := List.length_filter_le _ _
                          have hN8 := hGj.out.2
                          have hb8 := hGj.out.1.bel
                          have hbz8 := hb8.size
                          obtain ⟨a18, cap18, rfl⟩ := own_shape hGj.out.1.ord
                          have hmn := metL_nil_iff P'.cls Lj (P'.cls n)
                          have hcm : P'.cls n ≤ maxLen := by unfold maxLen; omega
                          have hnm : n ≤ maxLen := by unfold maxLen; omega
                          have hlm : Lj.length < maxLen := by unfold maxLen; omega
                          have hone := one_at (w := wr) (u := .int .i64 (n : Int)) (t := 3)
                          clear z2 ht hLj hLl hPj1 hn
                          by_cases hmt : P'.cls n ∈ orderL P'.cls Lj
                          · have hord : orderL P'.cls (Lj ++ [n]) = orderL P'.cls Lj := by rw [orderL_snoc, addN, if_pos hmt]
                            obtain ⟨v, hrun, hownv, -, hback⟩ := Gath.push (cls := P'.cls) (n := n) hb8 hGj.out.1.ord hGj.out.1.grp hnm hcm hlm hord
                            have hm0 : ¬ (metL P'.cls Lj (P'.cls n)).length = 0 := fun e => (hmn.1 e) hmt
                            obtain ⟨av, cvv, rfl⟩ := own_shape hownv
                            obtain ⟨M0, hM0⟩ : ∃ M0, metL P'.cls Lj (P'.cls n) = M0 := ⟨_, rfl⟩
                            rw [hM0] at hownv hback hm0 hml hrun
                            have k1 : ((M0.length : Int) == 0) = false := by simp; intro e; rw [e] at hm0; simp at hm0
                            have k2 : decide (M0.length = 0) = false := decide_eq_false hm0
                            have hown5 := hownv.alloc (.cells #[.int .i64 (n : Int)] 3)
                            clear hM0 hmn hmt hord
                            go_wp2_with (at_builtin; refine wpList_append_lies _ rfl _ _ 23 rfl (V7.heap.size + 1) 3 i0 (.int .i64 0) 1 8 Tryz.underlying23 hi0 hz00 hz01 hz02 rfl (by decide) _ _ _ rfl hown5 ⟨wr.heap.size, 0, none⟩ 1 1 [.int .i64 (n : Int)] rfl rfl hone (fun u hu => by simp at hu; subst hu; rfl) (by decide) (by unfold maxLen; omega) (by omega) (by simp; omega) _ rfl ?_; intro g cap w5 hown6 hgrow6 hat6 hlt6; obtain ⟨w6, hrun6, hG6⟩ := hback w5 _ g cap hgrow6 hown6 hat6)
                            go_roundw
                            case rel => exact ⟨j + 1, by omega, by go_num, Lib.hid ⟨by rw [HT.out]; exact hG6, hN8.back (fun g hg => hnN2.out g hg) hb8 hG6.bel⟩⟩
                            case measure => simp [intOf]; omega
                          · have hord : orderL P'.cls (Lj ++ [n]) = orderL P'.cls Lj ++ [P'.cls n] := by rw [orderL_snoc, addN, if_neg hmt]
                            have hme : metL P'.cls Lj (P'.cls n) = [] := List.eq_nil_of_length_eq_zero (hmn.2 hmt)
                            obtain ⟨v, hrun, hownv, -⟩ := hGj.out.1.grp.look hcm hlm
                            rw [hme] at hownv
                            obtain ⟨av, cvv, rfl⟩ := own_shape hownv
                            have hone1 := one_at (w := wr) (u := .int .i64 ((P'.cls n : Nat) : Int)) (t := 3)
                            have hown5 := hGj.out.1.ord.alloc (.cells #[.int .i64 ((P'.cls n : Nat) : Int)] 3)
                            clear hmn hmt hml
                            go_wp2_with (first
                              | (at_builtin; refine wpList_append_lies _ rfl _ _ 23 rfl (V7.heap.size + 1) 3 i0 (.int .i64 0) 1 8 Tryz.underlying23 hi0 hz00 hz01 hz02 rfl (by decide) _ _ _ rfl hown5 ⟨wr.heap.size, 0, none⟩ 1 1 [.int .i64 ((P'.cls n : Nat) : Int)] rfl rfl hone1 (fun u hu => by simp at hu; subst hu; rfl) (by decide) (by unfold maxLen; omega) (by omega) (by simp; omega) _ rfl ?_; intro g cap w5 hown6 hgrow6 hat6 hlt6; obtain ⟨hg5, hb5⟩ := hGj.out.1.order (g := g) (cap := cap) (a := 0) hgrow6 hat6; obtain ⟨v2, hrun2, hownv2, -, hback2⟩ := Gath.push (cls := P'.cls) (n := n) (c18 := .slice (some ⟨g, 0, none⟩) ((orderL P'.cls Lj).length + 1) cap) (os := orderL P'.cls Lj ++ [P'.cls n]) hb5 (by rw [natCells_snoc, List.length_append]; exact hown6) hg5 hnm hcm hlm hord; rw [hme] at hownv2 hback2; obtain ⟨av2, cv2, rfl⟩ := own_shape hownv2; have hz5 := hb5.size; have hone2 := one_at (w := w5) (u := .int .i64 (n : Int)) (t := 3); have hown7 := hownv2.alloc (.cells #[.int .i64 (n : Int)] 3))
                              | (at_builtin; refine wpList_append_lies _ rfl _ _ 23 rfl (V7.heap.size + 1) 3 i0 (.int .i64 0) 1 8 Tryz.underlying23 hi0 hz00 hz01 hz02 rfl (by decide) _ _ _ rfl hown7 ⟨w5.heap.size, 0, none⟩ 1 1 [.int .i64 (n : Int)] rfl rfl hone2 (fun u hu => by simp at hu; subst hu; rfl) (by decide) (by decide) (by decide) (by simp; omega) _ rfl ?_; intro g2 cap2 w7 hown8 hgrow8 hat8 hlt8; obtain ⟨w8, hrun8, hG8⟩ := hback2 w7 _ g2 cap2 hgrow8 hown8 hat8; simp only [List.length_nil, Nat.zero_add] at hrun8))
                            go_roundw
                            case rel => exact ⟨j + 1, by omega, by go_num, Lib.hid ⟨by rw [HT.out]; exact hG8, hN8.back (fun g hg => hnN2.out g hg) hb8 hG8.bel⟩⟩
                            case measure => simp [intOf]; omega
                        · obtain rfl : j = Fx.length := by omega
                          have q4 : decide (Fx.length < Fx.length) = false := decide_eq_false (by omega)
                          go_wp2_with fail
                          go_roundw
                          case rel => exact ⟨i + 1, by omega, by go_num, Lib.hid (by rw [HX.out.1]; have := hGj.out.1; rw [List.take_length] at this; exact this)⟩
                          case measure => simp [intOf]; omega
                    · obtain rfl : i = s.length := by omega
                      have q3 : decide (s.length < s.length) = false := decide_eq_false (by omega)
                      rw [List.take_length] at hG
                      have hO := order_start (K := k) HD.out.2.2.2.2.1 hI'.out.1 hI'.out.2 hIP.out.2.2.2
                      have hinl : (intoL d R k s).length ≤ R.length := nodup_sub _ R (intoL_nodup HD.out.2.2.2.2.1 hIP.out.2.2.2) fun n hn => (intoL_mem.1 hn).1
                      have hol := orderL_len P'.cls (intoL d R k s)
                      obtain ⟨a18, cap18, rfl⟩ := own_shape hG.out.ord
                      obtain ⟨L, hL⟩ : ∃ L, intoL d R k s = L := ⟨_, rfl⟩
                      rw [hL] at hG hO hinl hol
                      simp only [hL]
                      have hn18 := NatsAt.of_own hG.out.ord
                      have hb18 := hG.out.ord.lt
                      obtain ⟨O9, hO9⟩ : ∃ O9, orderL P'.cls L = O9 := ⟨_, rfl⟩
                      rw [hO9] at hO hol hn18 hb18
                      have hP9 := hM'.out.1.more hG.out.bel
                      have hz9 := hG.out.bel.size
                      have hS9 : Same (fun k => (V.heap.size ≤ k ∧ k < V3.heap.size) ∨ (V5.heap.size ≤ k ∧ k < V6.heap.size)) V6 wr := hM'.out.2.1.trans (Same.of_below hG.out.bel fun k hk => hM'.out.1.lt hk)
                      have hBB9 := hM'.out.2.2.trans (hG.out.bel.mono (by omega))
                      have H9 := Lib.hid (And.intro hO (And.intro hP9 (And.intro hn18 (And.intro hb18 (And.intro hS9 hBB9)))))
                      clear hO hP9 hn18 hb18 hSw hS9 hBB9
                      simp only [hO9]
                      obtain ⟨V9, hV9⟩ : ∃ V9, V9 = wr := ⟨_, rfl⟩
                      subst hV9
                      go_wp2_with fail
                      go_loopw [25, 168] (fun _ c168 wo => ∃ (q : Nat) (Pq : Parts), q ≤ O9.length ∧ c168 = .int .i64 q ∧ V9.heap.size ≤ wo.heap.size ∧ Pq.work.length + 2 * (R.length - Pq.mem.length) ≤ l.length + 2 * (R.length - P.mem.length) ∧ Hid (OrdI d R s k (metL P'.cls L) Pq (O9.drop q)) ∧ Hid (PS wo (w.heap.size + 1) p nxt.length Pq (.slice (some ⟨w.heap.size + 1, 0, none⟩) nxt.length nxt.length) (fun k => ((V.heap.size ≤ k ∧ k < V3.heap.size) ∨ (V5.heap.size ≤ k ∧ k < V6.heap.size)) ∨ (V7.heap.size ≤ k ∧ k < V9.heap.size)) ∧ Same (fun k => ((V.heap.size ≤ k ∧ k < V3.heap.size) ∨ (V5.heap.size ≤ k ∧ k < V6.heap.size)) ∨ (V7.heap.size ≤ k ∧ k < V9.heap.size)) V9 wo ∧ Below (w.heap.size + 1) V9 wo)) (fun _ c _ => O9.length - (intOf c).toNat)
                      case atStart => exact ⟨0, P', by omega, rfl, Nat.le_refl _, hms, Lib.hid (by simpa using H9.out.1), Lib.hid ⟨H9.out.2.1, ⟨Nat.le_refl _, fun k _ _ => rfl⟩, Below.refl _ _⟩⟩
                      case round =>
                        obtain ⟨q, Pq, hq, rfl, hwz9, hmq, hOq, hMq⟩ := hrel
                        by_cases hql : q < O9.length
                        · have q4 : decide (q < O9.length) = true := decide_eq_true hql
                          obtain ⟨a, ha⟩ : ∃ a, O9[q]? = some a := ⟨_, List.getElem?_eq_getElem hql⟩
                          have hdrop : O9.drop q = a :: O9.drop (q + 1) := by
                            rw [List.drop_eq_getElem_cons hql]
                            congr 1
                            exact Option.some.inj ((List.getElem?_eq_getElem hql).symm.trans ha)
                          have hOq' := hOq.out
                          rw [hdrop] at hOq'
                          obtain ⟨s1, s2, s3⟩ := hOq'.step HD.out.1 HD.out.2.2.2.1 hIP.out.2.2.1 hkw
                          obtain ⟨ham, hsom⟩ := hOq'.some_ a (by simp)
                          have hcnt := hOq'.inv.count
                          have hcnt2 := s1.inv.count
                          obtain ⟨t, ht⟩ : ∃ t, Pq.mem[a]? = some t := ⟨_, List.getElem?_eq_getElem ham⟩
                          obtain ⟨g1, g2, g3⟩ := hOq'.inv.mem a t ht
                          have htl : t.length ≤ R.length := nodup_sub t R g2 fun n hn => ((g3 n).1 hn).1
                          have hsl : (metL P'.cls L a).length ≤ R.length := Nat.le_trans (List.length_filter_le _ _) hinl
                          have hwl9 : Pq.work.length ≤ R.length := by
                            have h1 := nodup_sub Pq.work (List.range Pq.wai.length) hOq'.inv.nod (fun x hx => by have := (List.getElem?_eq_some_iff.1 ((hOq'.inv.wk x).1 hx)).1; simpa using this)
                            have h2 := hOq'.inv.len
                            simp at h1
                            omega
                          obtain ⟨b18, o18, rfl, m18⟩ := (H9.out.2.2.1.same hMq.out.2.1 (fun g hg => .inr ⟨by have := (H9.out.2.2.2.1 g hg).1; omega, (H9.out.2.2.2.1 g hg).2⟩)).get ha
                          obtain ⟨v, hrun, hnv, hvk⟩ := hG.out.later (a := a) hMq.out.2.1 (fun k h1 h2 => .inr ⟨h1, h2⟩) (by unfold maxLen; omega) (by unfold maxLen; omega)
                          have hap := hMq.out.1.apart_ hnv (fun k hk => .inr (hvk k hk)) (fun n hn => hR n ((hsom.mem n).1 hn).1) ht (fun n hn => hR n ((g3 n).1 hn).1) hOq'.inv.len (by omega) (by unfold maxLen; omega) (by omega) (by omega) (by omega) (by omega)
                          have HS := Lib.hid (And.intro s1 (And.intro hMq.out.2.1 hMq.out.2.2))
                          obtain ⟨av, cv9, rfl, -⟩ := id hnv
                          clear hOq' s1 hsom g1 g2 g3 hnv hvk hdrop ht ha
                          go_wp2_with fail
                          refine hap.mono ?_
                          rintro e w9 ⟨rfl, hP10, hS10, hB10⟩
                          have hz10 := hB10.size
                          go_wp2_with fail
                          go_roundw
                          case rel => exact ⟨q + 1, Pq.apart a (metL P'.cls L a), by omega, by go_num, by omega, by omega, Lib.hid HS.out.1, Lib.hid ⟨hP10, HS.out.2.1.trans hS10, HS.out.2.2.trans hB10⟩⟩
                          case measure => simp [intOf]; omega
                        · obtain rfl : q = O9.length := by omega
                          have q4 : decide (O9.length < O9.length) = false := decide_eq_false (by omega)
                          go_wp2_with fail
                          go_roundw
                          case rel =>
                            have hfin := hOq.out
                            rw [List.drop_length] at hfin
                            exact ⟨k + 1, Pq, by omega, by go_num, by omega, hmq, Lib.hid ⟨hfin.inv, hfin.finish⟩, Lib.hid ⟨hMq.out.1.less fun k hk => .inl hk, H9.out.2.2.2.2.1.trans (hMq.out.2.1.less fun k hk => .inl hk), H9.out.2.2.2.2.2.trans hMq.out.2.2⟩⟩
                          case measure => simp [intOf]; omega
                · obtain rfl : k = d.wide := by omega
                  have q2 : decide (d.wide < d.wide) = false := decide_eq_false (by omega)
                  go_wp2_with fail
                  go_roundg (P'.work.length + 2 * (R.length - P'.mem.length))
                  case rel =>
                    refine ⟨P', rfl, by omega, Lib.hid ⟨hI'.out.1, s, d.wide, Nat.le_refl _, hI'.out.2⟩, Lib.hid ⟨hM'.out.1.less fun k hk => .inl hk, H6.out.2.2.2.1.trans (hM'.out.2.1.less fun k hk => .inl hk), H6.out.2.2.2.2.trans hM'.out.2.2⟩⟩
                  case measure => omega
end Go.Proofs.YtmmlakheimfijaaGreatDoor
