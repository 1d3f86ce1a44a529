/-
  Begin, Left, Take on rates in memory, and on none. Conditions: each lemma says its own.
-/
import Derived.Test.YtikpbhfjmlfooaaRtState
import Derived.StillTailTactics
namespace Go.Proofs.Ytikpbhfjmlfooaa
set_option linter.unusedVariables false
set_option linter.unusedSimpArgs false
open Go.RowKit Go.Maps Go.Sort

theorem eq_classes (r : Option Nat) (w : World) : (binOp .eql 62 (.map r) (.map none)).run Try.prog w = .ok (.bool r.isNone) w := run_eql_map_nil w _ _ _ r Try.underlying62

theorem RatesAt.more {rp mc mb n k : Nat} {g : ByteArray → Option (Int × Int)} {f : ByteArray → ByteArray → Option Bkt} {bg : Int} {w : World} (h : RatesAt rp mc mb n k g f bg w) : RatesAt rp mc mb n (k + 1) g f bg w := by
  obtain ⟨E, e1, e2⟩ := h.bkt
  exact ⟨h.head, h.cls, ⟨E, e1.mono (by omega), e2⟩, h.ne⟩
theorem rbegin_nil (now : Int) (w : World) : Calls Try.prog 35 #[.pointer none, .int .i64 now] w fun e w' => e = .returned (.tuple #[]) ∧ w' = w := by
  go_enter Try.func35, Try.ntmps35
  go_wp2_with fail
  exact bodyPost_ret (v := .tuple #[]) (by simp [results, Try.results35, go_sem]) rfl ⟨rfl, rfl⟩
theorem rbegin_zero (rp : Nat) (now : Int) (w : World) (m0 : w.cell? ⟨rp, 0, none⟩ = some (.map none)) : Calls Try.prog 35 #[.pointer (some ⟨rp, 0, none⟩), .int .i64 now] w fun e w' => e = .returned (.tuple #[]) ∧ w' = w := by
  have hq := eq_classes none
  simp only [Option.isNone_none] at hq
  go_enter Try.func35, Try.ntmps35
  go_wp2_with fail
  exact bodyPost_ret (v := .tuple #[]) (by simp [results, Try.results35, go_sem]) rfl ⟨rfl, rfl⟩
theorem rbegin_no (rp mc : Nat) (now : Int) (w : World) (m0 : w.cell? ⟨rp, 0, none⟩ = some (.map (some mc))) (hn : withinB now 1099511627776 = false) : Calls Try.prog 35 #[.pointer (some ⟨rp, 0, none⟩), .int .i64 now] w fun e w' => e = .returned (.tuple #[]) ∧ w' = w := by
  have hq := eq_classes (some mc)
  simp only [Option.isNone_some] at hq
  have HN := Lib.hid hn
  clear hn
  go_enter Try.func35, Try.ntmps35
  go_wp2_with fail
  refine (timed_lit now w false HN.out).mono ?_
  rintro e w1 ⟨rfl, rfl⟩
  go_wp2_with fail
  exact bodyPost_ret (v := .tuple #[]) (by simp [results, Try.results35, go_sem]) rfl ⟨rfl, rfl⟩
set_option maxHeartbeats 1000000 in
theorem rbegin_yes (rp mc : Nat) (bm : Value) (b0 now : Int) (w : World) (hd : Blk w rp 65 #[.map (some mc), bm, .int .i64 b0]) (hn : withinB now 1099511627776 = true) :
    Calls Try.prog 35 #[.pointer (some ⟨rp, 0, none⟩), .int .i64 now] w fun e w' => e = .returned (.tuple #[]) ∧
      ∃ mb, w.heap.size ≤ mb ∧ Blk w' rp 65 (ratesV mc mb now) ∧ w'.ownsMap Try.prog 77 Rbkt mb 0 (.map []) ∧ Only [rp] w w' := by
  have hq := eq_classes (some mc)
  simp only [Option.isNone_some] at hq
  have hmm := @run_makeMap Try.prog
  have HN := Lib.hid hn
  obtain ⟨⟨m0, m1, m2⟩, x0, x1, x2⟩ := hd.c3
  have HD := Lib.hid hd
  have hl := hd.lt
  clear hn hd
  go_enter Try.func35, Try.ntmps35
  go_wp2_with fail
  refine (timed_lit now w true HN.out).mono ?_
  rintro e w1 ⟨rfl, rfl⟩
  go_wp2_with fail
  go_end0
  refine ⟨rfl, _, Nat.le_refl _, ?_, ?_, ?_⟩
  · have := (((HD.out.set_ 1 (.map (some w1.heap.size))).set_ 2 (.int .i64 now))).alloc (.map #[] 0)
    simpa [ratesV] using this
  · have h := World.ownsMap_made ((w1.setCell ⟨rp, 1, none⟩ (.map (some w1.heap.size))).setCell ⟨rp, 2, none⟩ (.int .i64 now)) Try.prog 77 Rbkt
    simpa using h
  · exact (((Only.refl [rp] w1).setCell (a := ⟨rp, 1, none⟩) (by simp) _).setCell (a := ⟨rp, 2, none⟩) (by simp) _).alloc _

theorem field_have (w : World) (c f y t : Int) : (Instr.field 23 (.agg #[.int .i64 c, .int .i64 f, .int .i64 y, .int .i64 t]) 2).run Try.prog w = .ok (.int .i64 y) w := by kernel_rfl
def leftOf (b : Bkt) (now : Int) : Int := atH b.1 b.2.1 b.2.2.1 b.2.2.2 now
set_option maxHeartbeats 1000000 in
theorem rleft_nil (t c : ByteArray) (now : Int) (w : World) : Calls Try.prog 37 #[.pointer none, .string t, .string c, .int .i64 now] w fun e w' => e = .returned (.int .i64 (leftOf (0, 0, 0, 0) now)) ∧ Below w.heap.size w w' := by
  obtain ⟨Y, hY⟩ : ∃ Y, atH 0 0 0 0 now = Y := ⟨_, rfl⟩
  obtain ⟨T, hT⟩ : ∃ T, atT 0 0 0 0 now = T := ⟨_, rfl⟩
  have HYT := Lib.hid (And.intro hY hT)
  have hf := fun w => field_have w 0 0 Y T
  clear hY hT
  go_enter Try.func37, Try.ntmps37
  go_wp2_with fail
  refine (rof_nil t c w).mono ?_
  rintro e w1 ⟨rfl, b1⟩
  simp only [bktV]
  go_wp2_with fail
  refine (at_lit 0 0 0 0 now Y T _ HYT.out.1 HYT.out.2).mono ?_
  rintro e w2 ⟨rfl, b2⟩
  go_wp2_with fail
  go_ret
  exact ⟨ret_int HYT.out.1.symm, b1.trans (((Below.refl _ _).alloc (Nat.le_refl _) _).trans (b2.mono (by simp)) |>.mono b1.size)⟩
set_option maxHeartbeats 1000000 in
theorem rleft_any (rp mc mb n k : Nat) (g : ByteArray → Option (Int × Int)) (f : ByteArray → ByteArray → Option Bkt) (bg : Int) (t c : ByteArray) (now : Int) (w : World) (h : RatesAt rp mc mb n k g f bg w) (ht : t.size ≤ maxLen) (hc : c.size ≤ maxLen) :
    Calls Try.prog 37 #[.pointer (some ⟨rp, 0, none⟩), .string t, .string c, .int .i64 now] w fun e w' => e = .returned (.int .i64 (leftOf (bktOf g f bg t c) now)) ∧ Below w.heap.size w w' := by
  have H := Lib.hid h
  clear h
  obtain ⟨⟨x0, x1, x2, x3⟩, hx⟩ : ∃ x, bktOf g f bg t c = x := ⟨_, rfl⟩
  obtain ⟨Y, hY⟩ : ∃ Y, atH x0 x1 x2 x3 now = Y := ⟨_, rfl⟩
  obtain ⟨T, hT⟩ : ∃ T, atT x0 x1 x2 x3 now = T := ⟨_, rfl⟩
  have HYT := Lib.hid (And.intro hY (And.intro hT hx))
  have hf := fun w => field_have w x0 x1 Y T
  clear hY hT hx
  go_enter Try.func37, Try.ntmps37
  go_wp2_with fail
  refine (rof_any rp mc mb n k g f bg t c w H.out ht hc).mono ?_
  rintro e w1 ⟨rfl, b1⟩
  rw [HYT.out.2.2]
  simp only [bktV]
  go_wp2_with fail
  refine (at_lit x0 x1 x2 x3 now Y T _ HYT.out.1 HYT.out.2.1).mono ?_
  rintro e w2 ⟨rfl, b2⟩
  go_wp2_with fail
  go_ret
  exact ⟨ret_int (by rw [leftOf, HYT.out.2.2]; exact HYT.out.1.symm), b1.trans (((Below.refl _ _).alloc (Nat.le_refl _) _).trans (b2.mono (by simp)) |>.mono b1.size)⟩

theorem rtake_nil (t c : ByteArray) (now : Int) (w : World) : Calls Try.prog 38 #[.pointer none, .string t, .string c, .int .i64 now] w fun e w' => e = .returned (.int .i64 21) ∧ w' = w := by
  go_enter Try.func38, Try.ntmps38
  go_wp2_with fail
  go_ret
  exact ⟨rfl, rfl⟩
theorem rtake_zero (rp : Nat) (t c : ByteArray) (now : Int) (w : World) (m0 : w.cell? ⟨rp, 0, none⟩ = some (.map none)) : Calls Try.prog 38 #[.pointer (some ⟨rp, 0, none⟩), .string t, .string c, .int .i64 now] w fun e w' => e = .returned (.int .i64 21) ∧ w' = w := by
  have hq := eq_classes none
  simp only [Option.isNone_none] at hq
  go_enter Try.func38, Try.ntmps38
  go_wp2_with fail
  go_ret
  exact ⟨rfl, rfl⟩
/-- what taking leaves of a bucket, and whether one was taken -/
def takeOf (b : Bkt) (now : Int) : Bkt := (b.1, b.2.1, takeH b.1 b.2.1 b.2.2.1 b.2.2.2 now, takeT b.1 b.2.1 b.2.2.1 b.2.2.2 now)
def takenOf (b : Bkt) (now : Int) : Bool := takeOk b.1 b.2.1 b.2.2.1 b.2.2.2 now
def takeE (g : ByteArray → Option (Int × Int)) (b : Bkt) (c : ByteArray) (now : Int) : Int := if (g c).isSome then (if takenOf b now then 0 else 17) else 6
def fset (f : ByteArray → ByteArray → Option Bkt) (t c : ByteArray) (b : Bkt) : ByteArray → ByteArray → Option Bkt := fun t' c' => if t' = t ∧ c' = c then some b else f t' c'
def takeF (g : ByteArray → Option (Int × Int)) (f : ByteArray → ByteArray → Option Bkt) (bg : Int) (t c : ByteArray) (now : Int) : ByteArray → ByteArray → Option Bkt :=
  if (g c).isSome then fset f t c (takeOf (bktOf g f bg t c) now) else f
set_option maxRecDepth 100000 in
set_option maxHeartbeats 2000000 in
theorem rtake_any (rp mc mb n k : Nat) (g : ByteArray → Option (Int × Int)) (f : ByteArray → ByteArray → Option Bkt) (bg : Int) (t c : ByteArray) (now : Int) (w : World) (h : RatesAt rp mc mb n k g f bg w) (ht : t.size ≤ maxLen) (hc : c.size ≤ maxLen) (hk : k < 1000000) :
    Calls Try.prog 38 #[.pointer (some ⟨rp, 0, none⟩), .string t, .string c, .int .i64 now] w fun e w' => e = .returned (.int .i64 (takeE g (bktOf g f bg t c) c now)) ∧ RatesAt rp mc mb n (k + 1) g (takeF g f bg t c now) bg w' ∧ Only [mb] w w' := by
  have H := Lib.hid h
  have hq := eq_classes (some mc)
  simp only [Option.isNone_some] at hq
  have m0 := h.cells.1
  clear h
  go_enter Try.func38, Try.ntmps38
  go_wp2_with fail
  have l0 := H.out.lt
  refine (rof_any rp mc mb n k g f bg t c (w.alloc (.cells #[.string t, .string c] 77)) (H.out.keep ((Below.refl _ _).alloc (Nat.le_refl _) _)) ht hc).mono ?_
  rintro e w1 ⟨rfl, b1⟩
  have b1' : Below w.heap.size w w1 := ((Below.refl _ _).alloc (Nat.le_refl _) _).trans (b1.mono (by simp))
  have hw1 := (Blk.new w 77 #[.string t, .string c]).below b1 (by simp)
  have r1 := H.out.keep b1'
  have hs1 : w.heap.size < w1.heap.size := by have := b1.size; simp at this; omega
  obtain ⟨⟨x0, x1, x2, x3⟩, hx⟩ : ∃ x, bktOf g f bg t c = x := ⟨_, rfl⟩
  rw [hx]
  have H1 := Lib.hid (And.intro r1 (And.intro hw1 (And.intro b1' hx)))
  clear b1 b1' hw1 r1 hx
  simp only [bktV]
  cases hb : (g c).isSome
  · have HBb := Lib.hid hb
    clear hb
    go_wp2_with fail
    go_ret
    refine ⟨ret_int (by simp [takeE, HBb.out]), ?_, ?_⟩
    · have hF : takeF g f bg t c now = f := by rw [takeF, HBb.out]; rfl
      rw [hF]
      exact (H1.out.1.keep ((Below.refl _ _).alloc (Nat.le_refl _) _)).more
    · exact (Only.of_below H1.out.2.2.1).alloc _
  · obtain ⟨Y, hY⟩ : ∃ Y, takeH x0 x1 x2 x3 now = Y := ⟨_, rfl⟩
    obtain ⟨T, hT⟩ : ∃ T, takeT x0 x1 x2 x3 now = T := ⟨_, rfl⟩
    obtain ⟨bt, hbt⟩ : ∃ bt, takeOk x0 x1 x2 x3 now = bt := ⟨_, rfl⟩
    have HT := Lib.hid (And.intro hY (And.intro hT (And.intro hbt hb)))
    clear hY hT hbt hb
    go_wp2_with fail
    refine (take_lit x0 x1 x2 x3 now Y T bt _ HT.out.1 HT.out.2.1 HT.out.2.2.1).mono ?_
    rintro e w2 ⟨rfl, b2⟩
    have q1 := (Blk.new w1 23 #[.int .i64 x0, .int .i64 x1, .int .i64 x2, .int .i64 x3]).below b2 (by simp)
    have hb12 : Below w1.heap.size w1 w2 := ((Below.refl _ _).alloc (Nat.le_refl _) _).trans (b2.mono (by simp))
    have r2 := H1.out.1.keep hb12
    have hw2 := H1.out.2.1.below hb12 hs1
    have hs2 : w1.heap.size < w2.heap.size := by have := b2.size; simp at this; omega
    obtain ⟨⟨y0, y1, y2, y3⟩, z0, z1, z2, z3⟩ := q1.c4
    obtain ⟨wb, hwb⟩ : ∃ wb, w1.heap.size = wb := ⟨_, rfl⟩
    obtain ⟨wa, hwa⟩ : ∃ wa, w.heap.size = wa := ⟨_, rfl⟩
    rw [hwb] at q1 y0 y1 y2 y3 z0 z1 z2 z3 hs2 hs1
    rw [hwb]
    rw [hwa] at hw2 hs1 l0
    rw [hwa]
    have H2 := Lib.hid (And.intro r2 (And.intro q1 (And.intro hw2 (And.intro (H1.out.2.2.1.trans (hb12.mono H1.out.2.2.1.size)) (And.intro hwa hwb)))))
    clear r2 q1 hw2 b2 hb12 hwa hwb m0
    go_wp2_with fail
    have q2 := blk_set4 H2.out.2.1 (.int .i64 x0) (.int .i64 x1) (.int .i64 Y) (.int .i64 T)
    have o2 := only_set4 w2 wb (.int .i64 x0) (.int .i64 x1) (.int .i64 Y) (.int .i64 T)
    have r3 := H2.out.1.only o2 (by simp; omega) (by simp; omega) (by simp; omega)
    have w3w := H2.out.2.2.1.only o2 (by simp; omega)
    have ow : Only [mb] w ((((w2.setCell ⟨wb, 0, none⟩ (.int .i64 x0)).setCell ⟨wb, 1, none⟩ (.int .i64 x1)).setCell ⟨wb, 2, none⟩ (.int .i64 Y)).setCell ⟨wb, 3, none⟩ (.int .i64 T)) :=
      Only.of_below (H2.out.2.2.2.1.trans (o2.below (by have := H2.out.2.2.2.2.1; omega) (by have := H2.out.2.2.2.2.1; simp; omega)))
    generalize (((w2.setCell ⟨wb, 0, none⟩ (.int .i64 x0)).setCell ⟨wb, 1, none⟩ (.int .i64 x1)).setCell ⟨wb, 2, none⟩ (.int .i64 Y)).setCell ⟨wb, 3, none⟩ (.int .i64 T) = w3 at *
    have m1 := r3.cells.2.1
    have c1 := w3w.c2.1.1
    have c2 := w3w.c2.1.2
    obtain ⟨⟨v0, v1, v2, v3⟩, -⟩ := q2.c4
    obtain ⟨D, hD1, hD2⟩ := r3.bkt
    have H3 := Lib.hid (And.intro r3 (And.intro hD2 ow))
    clear y0 y1 y2 y3 z0 z1 z2 z3 q2 o2 r3 w3w hD2 ow
    refine wp_region_still_tail 6 (by kernel_rfl) (by kernel_rfl) ?_
    simp only [List.take_succ_cons, List.take_zero, List.drop_succ_cons, List.drop_zero]
    repeat still_step
    refine wpStill_nil ?_
    change wpList _ _ _ _ _ w3.drew
    have hD3 : w3.drew.ownsMap Try.prog 77 Rbkt mb k D := hD1
    go_wp2_with (at_mapUpdate; refine wpList_mapUpdate_own _ rfl _ _ _ 63 rfl 77 23 lawW Try.underlying63 _ mb k D rfl hD3 (by unfold maxLen; omega) _ _ (kwho t c) rfl rfl (who_key t c ht hc) (bktD (x0, x1, Y, T)) [] (Rbkt_mk (x0, x1, Y, T)) ?_; intro w4 hown4 hgrow4)
    all_goals
      go_ret
      have e1 := H1.out.2.2.2
      have e2 := HT.out.2.2.2
      obtain ⟨a1, a2, a3⟩ := H3.out
      have hF : takeF g f bg t c now = fset f t c (x0, x1, Y, T) := by
        rw [takeF, e2, if_pos rfl, e1, takeOf, HT.out.1, HT.out.2.1]
      have hrm : rp ≠ mb := fun e => blk_map_ne hD1 a1.head e.symm
      refine ⟨ret_int ?_, ⟨Blk.grown (Blk.drew a1.head) hgrow4 (by simpa using hrm), ?_, ?_, a1.ne⟩, (a3.drew).trans (Only.grown hgrow4)⟩
      · rw [takeE, e2, if_pos rfl, e1, takenOf, HT.out.2.2.1]
        clear H1 HT H2 H3 hD1 hD3 hown4 hgrow4 a1 a2 a3
        cases bt <;> simp_all
      · obtain ⟨E, h1, h2⟩ := a1.cls
        have h1' : w3.drew.ownsMap Try.prog 9 Rcls mc n E := h1
        exact ⟨E, map_only h1' (Only.grown hgrow4) (by simpa using a1.ne), h2⟩
      · rw [hF]
        exact ⟨_, hown4, a2.put hD1.isMap t c (x0, x1, Y, T) ht hc (by simp [fset]) (fun t' c' hn => by rw [fset, if_neg hn])⟩
end Go.Proofs.Ytikpbhfjmlfooaa
