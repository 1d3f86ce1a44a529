/-
  The walk of the reference's Write. Conditions: the memory that it reads.
-/
import Derived.Test.YtmjhomhganaceaaDkRef2
namespace Go.Proofs.Ytmjhomhganaceaa
set_option linter.unusedVariables false
set_option linter.unusedSimpArgs false
open Go.RowKit Go.Maps Go.Sort

theorem blk_set4 {w : World} {g : Nat} {t : TypeId} {a0 a1 a2 a3 : Value} (h : Blk w g t #[a0, a1, a2, a3]) (v0 v1 v2 v3 : Value) :
    Blk ((((w.setCell ⟨g, 0, none⟩ v0).setCell ⟨g, 1, none⟩ v1).setCell ⟨g, 2, none⟩ v2).setCell ⟨g, 3, none⟩ v3) g t #[v0, v1, v2, v3] := by
  have := (((h.set_ 0 v0).set_ 1 v1).set_ 2 v2).set_ 3 v3
  simpa using this
theorem below_set4 {w : World} {B g : Nat} (hg : B ≤ g) {w0 : World} (h : Below B w0 w) (v0 v1 v2 v3 : Value) :
    Below B w0 ((((w.setCell ⟨g, 0, none⟩ v0).setCell ⟨g, 1, none⟩ v1).setCell ⟨g, 2, none⟩ v2).setCell ⟨g, 3, none⟩ v3) :=
  (((h.setCell hg v0).setCell hg v1).setCell hg v2).setCell hg v3

/-- the blocks behind a write -/
def writeBs (n : Nat) (bs : List ByteArray) (dn : Bool) (cf : Int → Option Nat) (wr : Nat) (a : Int) (s : ByteArray) : List ByteArray :=
  if writeB n dn a s then bs.set a.toNat (s.extract 0 ((cf wr).getD 128) ++ (bs.getD a.toNat ⟨#[]⟩).extract ((cf wr).getD 128) 128) else bs
/-- what the walk over the crashes holds -/
def KeepAt (cs : List (Int × Int)) (wr : Int) (i : Nat) (kk ee : Int) : Prop :=
  kk = (((crashAt (cs.drop i) wr).getD 128 : Nat) : Int) ∧ ee = if (crashAt (cs.drop i) wr).isSome then 20 else 0
theorem keep_end (cs : List (Int × Int)) (wr : Int) : KeepAt cs wr cs.length 128 0 := by
  simp [KeepAt, crashAt]
theorem keep_hit {cs : List (Int × Int)} {wr : Int} {i : Nat} {t kp : Int} (hx : cs[i]? = some (t, kp)) (h : t = wr) : KeepAt cs wr i (max 0 (min 128 kp)) 20 := by
  obtain ⟨hi, hx⟩ := List.getElem?_eq_some_iff.1 hx
  unfold KeepAt
  rw [List.drop_eq_getElem_cons hi, hx]
  simp [crashAt, h, clampK_max]
theorem keep_miss {cs : List (Int × Int)} {wr : Int} {i : Nat} {t kp kk ee : Int} (hx : cs[i]? = some (t, kp)) (h : t ≠ wr) (hk : KeepAt cs wr (i + 1) kk ee) : KeepAt cs wr i kk ee := by
  obtain ⟨hi, hx⟩ := List.getElem?_eq_some_iff.1 hx
  unfold KeepAt at *
  rw [List.drop_eq_getElem_cons hi, hx]
  simpa [crashAt, h] using hk

theorem two_new (w : World) (t t' : TypeId) (c1 c2 : Array Value) : Blk ((w.alloc (.cells c1 t)).alloc (.cells c2 t')) (w.heap.size + 1) t' c2 := by
  have := Blk.new (w.alloc (.cells c1 t)) t' c2
  simpa using this
theorem two_below (w : World) (o o' : Obj) : Below w.heap.size w ((w.alloc o).alloc o') := ((Below.refl _ _).alloc (Nat.le_refl _) _).alloc (by simp) _

theorem StrAt.blk {w : World} {g n c : Nat} {bs : List ByteArray} (h : StrAt w (.slice (some ⟨g, 0, none⟩) n c) n bs) : ∃ cur, Blk w g 9 cur ∧ cur.toList.take n = bs.map Value.string := by
  obtain ⟨_, g', c', cur, e, _, h4, h5⟩ := h
  injection e with e
  injection e with e
  injection e with e
  subst e
  exact ⟨cur, h4, h5⟩
theorem StrAt.reads {w : World} {g n c : Nat} {bs : List ByteArray} (h : StrAt w (.slice (some ⟨g, 0, none⟩) n c) n bs) : Reads w w.heap.size 1 (some ⟨g, 0, none⟩) n (bs.map Value.string) := by
  obtain ⟨cur, h1, h2⟩ := h.blk
  refine ⟨by rw [List.length_map, h.1, Nat.mul_one], fun _ => ⟨_, rfl, h1.lt, fun j u hj => ?_⟩⟩
  rw [← h2, List.getElem?_take] at hj
  split at hj
  · rw [add_lit0, Nat.zero_add, h1.cell, ← hj, Array.getElem?_toList]
  · cases hj
theorem StrAt.set {w : World} {g n c : Nat} {bs : List ByteArray} (h : StrAt w (.slice (some ⟨g, 0, none⟩) n c) n bs) (i : Nat) (b : ByteArray) :
    StrAt (w.setCell ⟨g, i, none⟩ (.string b)) (.slice (some ⟨g, 0, none⟩) n c) n (bs.set i b) := by
  obtain ⟨h1, g', c', cur, e, h3, h4, h5⟩ := h
  injection e with e e2 e3
  injection e with e
  injection e with e
  subst e
  subst e3
  refine ⟨by rw [List.length_set, h1], g, c, _, rfl, h3, h4.set_ i _, ?_⟩
  rw [Array.toList_setIfInBounds, List.take_set, h5, List.map_set]

set_option maxHeartbeats 4000000 in
set_option maxRecDepth 100000 in
/-- nothing is written -/
theorem refwrite_no (v : Value) (A : Option Addr) (len cap n wr : Nat) (dn : Bool) (bs : List ByteArray) (cf : Int → Option Nat) (a : Int) (s : ByteArray) (w : World)
    (h : StrAt w v n bs) (hn : n ≤ 4096) (hs : s.size ≤ maxLen) (hB : writeB n dn a s = false) :
    Calls Try.prog 14 #[.agg #[v, .slice A len cap, .int .i64 wr, .bool dn], .int .i64 a, .string s] w fun e w' =>
      ∃ v', e = .returned (.tuple #[.agg #[v', .slice A len cap, .int .i64 (writeN n dn wr a s), .bool (writeD n dn cf wr a s)], .int .i64 (writeE n dn cf wr a s)]) ∧
        StrAt w' v' n (writeBs n bs dn cf wr a s) ∧ Below w.heap.size w w' := by
  obtain ⟨g, c, rfl, hc, hg, hcell⟩ := h.at_
  unfold maxLen at hs
  have H := Lib.hid h
  have HB := Lib.hid hB
  have hN : writeN n dn wr a s = wr := by rw [writeN, HB.out]; rfl
  have hD : writeD n dn cf wr a s = dn := by rw [writeD, HB.out]; rfl
  have hBs : writeBs n bs dn cf wr a s = bs := by rw [writeBs, HB.out]; rfl
  rw [hN, hD, hBs]
  clear h hB hN hD hBs
  have hst := fun o o' => H.out.below (((Below.refl w.heap.size w).alloc (Nat.le_refl _) o).alloc (by simp) o')
  have hr := two_new w 44 44 #[.slice (some ⟨g, 0, none⟩) n c, .slice A len cap, .int .i64 wr, .bool dn] #[.slice (some ⟨g, 0, none⟩) n c, .slice A len cap, .int .i64 wr, .bool dn]
  have v0 := hr.cell 0
  have v1 := hr.cell 1
  have v2 := hr.cell 2
  have v3 := hr.cell 3
  simp at v0 v1 v2 v3
  have V := Lib.hid (And.intro v0 (And.intro v1 (And.intro v2 v3)))
  clear hr v0 v1 v2 v3
  cases dn
  · by_cases h1 : a < 0
    · have h1' : decide (a < 0) = true := decide_eq_true h1
      have e0 : writeE n false cf wr a s = 7 := by simp [writeE, readyE, h1]
      rw [e0]
      go_enter Try.func14, Try.ntmps14
      go_wp2_with fail
      obtain ⟨v0, v1, v2, v3⟩ := V.out
      refine bodyPost_ret (v := .tuple #[.agg #[.slice (some ⟨g, 0, none⟩) n c, .slice A len cap, .int .i64 wr, .bool false], .int .i64 7]) (by simp [results, Try.results14, go_sem, v0, v1, v2, v3]) rfl ?_
      exact ⟨_, rfl, hst _ _, two_below _ _ _⟩
    · have h1' : decide (a < 0) = false := decide_eq_false h1
      by_cases h2 : (n : Int) ≤ a
      · have h2' : decide ((n : Int) ≤ a) = true := decide_eq_true h2
        have e0 : writeE n false cf wr a s = 7 := by simp [writeE, readyE, h2]
        rw [e0]
        go_enter Try.func14, Try.ntmps14
        go_wp2_with fail
        obtain ⟨v0, v1, v2, v3⟩ := V.out
        refine bodyPost_ret (v := .tuple #[.agg #[.slice (some ⟨g, 0, none⟩) n c, .slice A len cap, .int .i64 wr, .bool false], .int .i64 7]) (by simp [results, Try.results14, go_sem, v0, v1, v2, v3]) rfl ?_
        exact ⟨_, rfl, hst _ _, two_below _ _ _⟩
      · have h2' : decide ((n : Int) ≤ a) = false := decide_eq_false h2
        have e1 : readyE n false a = 0 := by simp [readyE, h1, h2]
        have h3 : s.size ≠ 128 := fun h => by simpa [writeB, e1, h] using HB.out
        have h3' : ((s.size : Int) == 128) = false := beq_eq_false_iff_ne.2 (by omega)
        have h3'' : ((s.size : Int) != 128) = true := by rw [bne, h3']; rfl
        have e0 : writeE n false cf wr a s = 7 := by simp [writeE, e1, h3]
        rw [e0]
        clear h3 e1
        go_enter Try.func14, Try.ntmps14
        go_wp2_with fail
        obtain ⟨v0, v1, v2, v3⟩ := V.out
        refine bodyPost_ret (v := .tuple #[.agg #[.slice (some ⟨g, 0, none⟩) n c, .slice A len cap, .int .i64 wr, .bool false], .int .i64 7]) (by simp [results, Try.results14, go_sem, v0, v1, v2, v3]) rfl ?_
        exact ⟨_, rfl, hst _ _, two_below _ _ _⟩
  · have e0 : writeE n true cf wr a s = 20 := by simp [writeE, readyE]
    rw [e0]
    go_enter Try.func14, Try.ntmps14
    go_wp2_with fail
    obtain ⟨v0, v1, v2, v3⟩ := V.out
    refine bodyPost_ret (v := .tuple #[.agg #[.slice (some ⟨g, 0, none⟩) n c, .slice A len cap, .int .i64 wr, .bool true], .int .i64 20]) (by simp [results, Try.results14, go_sem, v0, v1, v2, v3]) rfl ?_
    exact ⟨_, rfl, hst _ _, two_below _ _ _⟩

set_option maxHeartbeats 4000000 in
set_option maxRecDepth 100000 in
theorem refwrite_yes (v : Value) (A : Option Addr) (cap n nw : Nat) (bs : List ByteArray) (cs : List (Int × Int)) (i : Nat) (s : ByteArray) (w : World)
    (h : StrAt w v n bs) (hcr : IsCr w w.heap.size A cs) (hn1 : 1 ≤ n) (hi : i < n) (hn : n ≤ 4096) (hl : cs.length ≤ 1000) (hwr : nw < 1000000) (hs : s.size = 128) (hb : ∀ b ∈ bs, b.size = 128) :
    Calls Try.prog 14 #[.agg #[v, .slice A cs.length cap, .int .i64 nw, .bool false], .int .i64 i, .string s] w fun e w' =>
      ∃ v', e = .returned (.tuple #[.agg #[v', .slice A cs.length cap, .int .i64 ((nw + 1 : Nat) : Int), .bool (crashAt cs nw).isSome], .int .i64 (if (crashAt cs nw).isSome = true then 20 else 0)]) ∧
        StrAt w' v' n (bs.set i (s.extract 0 ((crashAt cs nw).getD 128) ++ (bs.getD i ⟨#[]⟩).extract ((crashAt cs nw).getD 128) 128)) ∧ Below w.heap.size w w' := by
  obtain ⟨g, c, rfl, hc, hg, hcell⟩ := h.at_
  have hlen := h.1
  obtain ⟨b0, hb0⟩ : ∃ b, bs[i]? = some b := ⟨_, List.getElem?_eq_getElem (by omega)⟩
  have hbs : b0.size = 128 := hb _ (List.mem_of_getElem? hb0)
  have H := Lib.hid h
  have HCR := Lib.hid hcr
  have HB0 := Lib.hid hb0
  have h1' : decide ((i : Int) < 0) = false := decide_eq_false (by omega)
  have h2' : decide ((n : Int) ≤ i) = false := decide_eq_false (by omega)
  have h2n : decide (n ≤ i) = false := decide_eq_false (by omega)
  have h3' : ((s.size : Int) == 128) = true := by rw [hs]; rfl
  have h3'' : ((s.size : Int) != 128) = false := by rw [hs]; rfl
  have hk3 : (crashAt cs nw).getD 128 ≤ 128 := by
    cases hc : crashAt cs nw with
    | none => exact Nat.le_refl _
    | some k => exact crashAt_le hc
  obtain ⟨k, hkk⟩ : ∃ k, (crashAt cs nw).getD 128 = k := ⟨_, rfl⟩
  obtain ⟨o, hoo⟩ : ∃ o, (crashAt cs nw).isSome = o := ⟨_, rfl⟩
  rw [hkk] at hk3
  obtain ⟨E, hE⟩ : ∃ E : Int, (if o = true then 20 else 0) = E := ⟨_, rfl⟩
  rw [hkk, hoo, hE]
  have hE1 : (E == 0) = !o := by rw [← hE]; cases o <;> rfl
  have hE2 : (E != 0) = o := by rw [← hE]; cases o <;> rfl
  have HE := Lib.hid hE
  have HK := Lib.hid hkk
  have HO := Lib.hid hoo
  clear h hcr hb hb0 hkk hoo hE
  go_enter Try.func14, Try.ntmps14
  go_wp2_with fail
  have q0 := (Blk.new w 44 #[.slice (some ⟨g, 0, none⟩) n c, .slice A cs.length cap, .int .i64 nw, .bool false]).alloc (.cells #[.slice none 0 0, .slice none 0 0, .int .i64 0, .bool false] 44)
  have q1 := two_new w 44 44 #[.slice (some ⟨g, 0, none⟩) n c, .slice A cs.length cap, .int .i64 nw, .bool false] #[.slice none 0 0, .slice none 0 0, .int .i64 0, .bool false]
  have bb := two_below w (.cells #[.slice (some ⟨g, 0, none⟩) n c, .slice A cs.length cap, .int .i64 nw, .bool false] 44) (.cells #[.slice none 0 0, .slice none 0 0, .int .i64 0, .bool false] 44)
  have sz : ((w.alloc (.cells #[.slice (some ⟨g, 0, none⟩) n c, .slice A cs.length cap, .int .i64 nw, .bool false] 44)).alloc (.cells #[.slice none 0 0, .slice none 0 0, .int .i64 0, .bool false] 44)).heap.size = w.heap.size + 2 := by simp
  generalize (w.alloc (.cells #[.slice (some ⟨g, 0, none⟩) n c, .slice A cs.length cap, .int .i64 nw, .bool false] 44)).alloc (.cells #[.slice none 0 0, .slice none 0 0, .int .i64 0, .bool false] 44) = w0 at *
  obtain ⟨B, hBd⟩ : ∃ B, w.heap.size = B := ⟨_, rfl⟩
  rw [hBd] at q0 q1 bb sz HCR
  rw [hBd]
  go_loopw [8, 9, 10] (fun c8 c9 c10 wr => ∃ (j : Nat) (kk ee : Int), j ≤ cs.length ∧ c10 = .int .i64 ((j : Int) - 1) ∧ c8 = .int .i64 kk ∧ c9 = .int .i64 ee ∧ Hid (KeepAt cs nw j kk ee) ∧
      Blk wr B 44 #[.slice (some ⟨g, 0, none⟩) n c, .slice A cs.length cap, .int .i64 nw, .bool false] ∧ Blk wr (B + 1) 44 #[.slice none 0 0, .slice none 0 0, .int .i64 0, .bool false] ∧ Below B w wr ∧ wr.heap.size = B + 2) (fun c8 c9 c10 _ => (intOf c10 + 1).toNat)
  case atStart => exact ⟨cs.length, 128, 0, Nat.le_refl _, rfl, rfl, rfl, Lib.hid (keep_end cs nw), q0, q1, bb, sz⟩
  case round =>
    clear q0 q1 bb sz
    obtain ⟨j, kk, ee, hj, rfl, rfl, rfl, hk, q0, q1, bb, sz⟩ := hrel
    have x1 : wr.cell? ⟨B, 1, none⟩ = some (.slice A cs.length cap) := q0.cell 1
    have x2 : wr.cell? ⟨B, 2, none⟩ = some (.int .i64 nw) := q0.cell 2
    rcases j with _ | j
    · obtain ⟨hk1, hk2⟩ := hk.out
      rw [List.drop_zero, HK.out] at hk1
      rw [List.drop_zero, HO.out, HE.out] at hk2
      subst hk1
      subst hk2
      clear hk
      have x0 : wr.cell? ⟨B, 0, none⟩ = some (.slice (some ⟨g, 0, none⟩) n c) := q0.cell 0
      have hst := H.out.below (w' := wr) (by rw [hBd]; exact bb)
      have RA := hst.reads
      obtain ⟨i0, hi0, hz0, hz1, hz2⟩ := info_parts infoStr
      have hnil : (wr.alloc (.cells #[] 9)).ownsRow (B + 2) 9 1 (.slice (some ⟨B + 2, 0, none⟩) 0 0) 0 [] := by
        have := World.ownsRow_lit (size := 1) (e := 9) (base := B + 2) wr #[] 0 (by omega) (by decide) rfl
        rw [sz] at this
        exact this
      have RA2 := RA.alloc (Nat.le_refl _) (.cells #[] 9)
      go_wp2_with (at_builtin; refine wpList_append_any _ rfl _ _ 42 rfl (B + 2) 9 i0 (.string ⟨#[]⟩) 1 16 Try.underlying42 hi0 hz0 hz1 hz2 rfl (by decide) _ _ _ rfl hnil wr.heap.size (some ⟨g, 0, none⟩) n c (bs.map Value.string) rfl RA2 (fun u hu => by simp at hu; obtain ⟨b, _, rfl⟩ := hu; rfl) (by unfold maxLen; omega) (by omega) (by simp; omega) ?_; intro v1 w3 hown1 hg1 hat1; obtain ⟨g5, cap5, rfl, hB5, hlt5⟩ := hown1.form (by omega))
      have b3 : Below B w w3 := (bb.alloc (by omega) _).grown hg1 (by simp; omega) (fun k hk => by cases hk; exact Nat.le_add_right _ _)
      have y0 := (q0.alloc (.cells #[] 9)).grown hg1 (by show some B ≠ some (B + 2); simp)
      have y1 := (q1.alloc (.cells #[] 9)).grown hg1 (by show some (B + 1) ≠ some (B + 2); simp)
      have hst3 := strAt_own (by simpa using hown1) hn1
      obtain ⟨cur, z3, z4⟩ := hst3.blk
      have n0 := Blk.ne_ y0 z3 (by decide)
      have n1 := Blk.ne_ y1 z3 (by decide)
      have z5 : w3.cell? ⟨g5, i, none⟩ = some (.string b0) := by
        obtain ⟨g6, c6, e6, _, _, h6⟩ := hst3.at_
        injection e6 with e6
        injection e6 with e6
        injection e6 with e6
        rw [e6]
        exact h6 i b0 HB0.out
      have z6 := z3.frozen i
      have hst4 := hst3.set i (s.extract 0 k ++ b0.extract k 128)
      have y2 := y0.far (p := ⟨g5, i, none⟩) (by simpa using n0) (.string (s.extract 0 k ++ b0.extract k 128))
      have y3 := y1.far (p := ⟨g5, i, none⟩) (by simpa using n1) (.string (s.extract 0 k ++ b0.extract k 128))
      have b4 := b3.setCell (p := ⟨g5, i, none⟩) (by show B ≤ g5; omega) (.string (s.extract 0 k ++ b0.extract k 128))
      clear x0 x1 x2 q0 q1 hst RA RA2 hnil hown1 hg1 hat1
      refine wp_region_still_tail 13 (by kernel_rfl) (by kernel_rfl) ?_
      simp only [List.take_succ_cons, List.take_zero, List.drop_succ_cons, List.drop_zero]
      have hk3i : (k : Int) ≤ 128 := by omega
      have hcc : (s.extract 0 k).size + (b0.extract k 128).size ≤ 9223372036854775807 := by rw [ByteArray.size_extract, ByteArray.size_extract]; omega
      repeat still_step
      refine wpStill_nil ?_
      replace z6 : w3.drew.frozen? ⟨g5, i, none⟩ = false := z6
      replace hst4 : StrAt (w3.drew.setCell ⟨g5, i, none⟩ (.string (s.extract 0 k ++ b0.extract k 128))) (.slice (some ⟨g5, 0, none⟩) n cap5) n (bs.set i (s.extract 0 k ++ b0.extract k 128)) := by
        have := hst3
        exact (StrAt.set (w := w3.drew) (show StrAt w3.drew _ n bs from hst3) i _)
      replace y2 := (y0.drew).far (p := ⟨g5, i, none⟩) (by simpa using n0) (.string (s.extract 0 k ++ b0.extract k 128))
      replace y3 := (y1.drew).far (p := ⟨g5, i, none⟩) (by simpa using n1) (.string (s.extract 0 k ++ b0.extract k 128))
      replace b4 := b3.drew.setCell (p := ⟨g5, i, none⟩) (by show B ≤ g5; omega) (.string (s.extract 0 k ++ b0.extract k 128))
      have u1 : w3.drew.cell? ⟨B, 1, none⟩ = some (.slice A cs.length cap) := y0.cell 1
      have u2 : w3.drew.cell? ⟨B, 2, none⟩ = some (.int .i64 nw) := y0.cell 2
      have e0 : w3.drew.cell? ⟨B + 1, 0, none⟩ = some (.slice none 0 0) := y1.cell 0
      have e1 : w3.drew.cell? ⟨B + 1, 1, none⟩ = some (.slice none 0 0) := y1.cell 1
      have e2 : w3.drew.cell? ⟨B + 1, 2, none⟩ = some (.int .i64 0) := y1.cell 2
      have e3 : w3.drew.cell? ⟨B + 1, 3, none⟩ = some (.bool false) := y1.cell 3
      have f0 : w3.drew.frozen? ⟨B + 1, 0, none⟩ = false := y1.frozen 0
      have f1 : w3.drew.frozen? ⟨B + 1, 1, none⟩ = false := y1.frozen 1
      have f2 : w3.drew.frozen? ⟨B + 1, 2, none⟩ = false := y1.frozen 2
      have f3 : w3.drew.frozen? ⟨B + 1, 3, none⟩ = false := y1.frozen 3
      have n0' : g5 ≠ B := fun e => n0 e.symm
      have n1' : g5 ≠ B + 1 := fun e => n1 e.symm
      replace z5 : w3.drew.cell? ⟨g5, i, none⟩ = some (.string b0) := z5
      clear hst3 y0 y1 b3 z3 z4
      change wpList _ _ _ _ _ w3.drew
      generalize w3.drew = w4 at *
      go_wp2_with fail
      generalize w4.setCell ⟨g5, i, none⟩ (.string (s.extract 0 k ++ b0.extract k 128)) = w5 at *
      have y5 := blk_set4 y3 (.slice (some ⟨g5, 0, none⟩) n cap5) (.slice A cs.length cap) (.int .i64 (nw + 1)) (.bool o)
      have r0 := y5.cell 0
      have r1 := y5.cell 1
      have r2 := y5.cell 2
      have r3 := y5.cell 3
      simp at r0 r1 r2 r3
      refine bodyPost_ret (v := .tuple #[.agg #[.slice (some ⟨g5, 0, none⟩) n cap5, .slice A cs.length cap, .int .i64 (nw + 1), .bool o], .int .i64 ee]) (by simp [results, Try.results14, go_sem, r0, r1, r2, r3]) rfl ?_
      have hgd : bs.getD i ⟨#[]⟩ = b0 := by rw [List.getD_eq_getElem?_getD, HB0.out]; rfl
      rw [hgd, hBd]
      have b5 := below_set4 (g := B + 1) (Nat.le_add_right _ _) b4 (.slice (some ⟨g5, 0, none⟩) n cap5) (.slice A cs.length cap) (.int .i64 (nw + 1)) (.bool o)
      refine ⟨_, rfl, ?_, b5⟩
      obtain ⟨h1, g6, c6, cur6, e6, h3, h4, h5⟩ := hst4
      injection e6 with e6 e62 e63
      injection e6 with e6
      injection e6 with e6
      subst e6
      exact ⟨h1, g5, c6, cur6, by rw [e63], h3, (((h4.far (p := ⟨B + 1, 0, none⟩) (by simpa using n1') _).far (p := ⟨B + 1, 1, none⟩) (by simpa using n1') _).far (p := ⟨B + 1, 2, none⟩) (by simpa using n1') _).far (p := ⟨B + 1, 3, none⟩) (by simpa using n1') _, h5⟩
    · obtain ⟨⟨t, kp⟩, hx⟩ : ∃ x, cs[j]? = some x := ⟨_, List.getElem?_eq_getElem (by omega)⟩
      obtain ⟨hw1, hw2⟩ := HCR.out.ins _ (List.mem_of_getElem? hx)
      rcases HCR.out.place with h0 | ⟨b, off, hA, hbB, hcs⟩
      · rw [h0] at hj; simp at hj
      · obtain ⟨p0, p1⟩ := hcs j _ hx
        subst hA
        have m0 : wr.cell? ⟨b, off + j * 2, none⟩ = some (.int .i64 t) := (bb.cell (p := ⟨b, off + j * 2, none⟩) hbB).trans p0
        have m1 : wr.cell? ⟨b, off + (j * 2 + 1), none⟩ = some (.int .i64 kp) := (bb.cell (p := ⟨b, off + (j * 2 + 1), none⟩) hbB).trans p1
        have m1' : wr.cell? ⟨b, off + j * 2 + 1, none⟩ = some (.int .i64 kp) := by rw [Nat.add_assoc]; exact m1
        clear p0 p1 hcs
        have hjj : ((j + 1 : Nat) : Int) - 1 = j := by omega
        rw [hjj]
        have hjl : j < cs.length := by omega
        by_cases htw : t = (nw : Int)
        · have HX := Lib.hid (keep_hit hx htw)
          have htw' : (t == (nw : Int)) = true := by rw [htw]; simp
          clear hx htw hk
          go_wp2_with fail
          refine wp_region_still_tail 8 (by kernel_rfl) (by kernel_rfl) ?_
          simp only [List.take_succ_cons, List.take_zero, List.drop_succ_cons, List.drop_zero]
          repeat still_step
          refine wpStill_nil ?_
          replace q0 := q0.drew
          replace q1 := q1.drew
          replace bb := bb.drew
          replace sz : wr.drew.heap.size = B + 2 := sz
          replace x1 : wr.drew.cell? ⟨B, 1, none⟩ = some (.slice (some ⟨b, off, none⟩) cs.length cap) := x1
          replace m0 : wr.drew.cell? ⟨b, off + j * 2, none⟩ = some (.int .i64 t) := m0
          replace m1 : wr.drew.cell? ⟨b, off + (j * 2 + 1), none⟩ = some (.int .i64 kp) := m1
          replace m1' : wr.drew.cell? ⟨b, off + j * 2 + 1, none⟩ = some (.int .i64 kp) := m1'
          change wpList _ _ _ _ _ wr.drew
          generalize wr.drew = w1 at *
          go_wp2_with fail
          go_roundw
          case rel =>
            exact ⟨j, _, 20, by omega, by go_num, rfl, rfl, Lib.hid HX.out, q0, q1, bb, sz⟩
          case measure => simp [intOf]
        · have HX := Lib.hid (keep_miss hx htw hk.out)
          have htw' : (t == (nw : Int)) = false := beq_eq_false_iff_ne.2 htw
          clear hx htw hk
          go_wp2_with fail
          refine wp_region_still_tail 8 (by kernel_rfl) (by kernel_rfl) ?_
          simp only [List.take_succ_cons, List.take_zero, List.drop_succ_cons, List.drop_zero]
          repeat still_step
          refine wpStill_nil ?_
          replace q0 := q0.drew
          replace q1 := q1.drew
          replace bb := bb.drew
          replace sz : wr.drew.heap.size = B + 2 := sz
          change wpList _ _ _ _ _ wr.drew
          clear x1 x2 m0 m1 m1'
          generalize wr.drew = w1 at *
          go_wp2_with fail
          go_roundw
          case rel =>
            exact ⟨j, kk, ee, by omega, by go_num, rfl, rfl, Lib.hid HX.out, q0, q1, bb, sz⟩
          case measure => simp [intOf]
end Go.Proofs.Ytmjhomhganaceaa
