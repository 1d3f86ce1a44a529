/-
  The walk of least's ahead. Conditions: the rows and the states lie as Go's.
-/
import Derived.Test.YtgkpgjbgcimijaaDoorAuRows
import Derived.OwnWalk
import Derived.Deep.RegionLaw
namespace Go.Proofs.YtgkpgjbgcimijaaDoor
set_option linter.unusedVariables false
set_option linter.unusedSimpArgs false
open Go.RowKit Go.Maps Go.Sort Go.ChangeShapes Go.WideShapes

def nxtF (nxt : List (List Nat)) (n k : Nat) : Nat := (nxt.getD n []).getD k 0
structure NxtOk (nxt : List (List Nat)) (wide : Nat) : Prop where
  pos : 0 < nxt.length
  row : ∀ (n : Nat) (l : List Nat), nxt[n]? = some l → l.length = wide ∧ ∀ x ∈ l, x < nxt.length
def aheadL (nxt : List (List Nat)) (R : List Nat) (k : Nat) : List (List Nat) := (List.range nxt.length).map fun m => R.filter fun n => decide (nxtF nxt n k = m)
theorem NatsAt.below {w w' : World} {v : Value} {l : List Nat} (h : NatsAt w v l) (hb : Below w.heap.size w w') : NatsAt w' v l := h.only (Only.of_below (S := []) hb) (by simp)
theorem RowsAt.below {w w' : World} {v : Value} {ll : List (List Nat)} (h : RowsAt w v ll fun _ => True) (hb : Below w.heap.size w w') : RowsAt w' v ll fun _ => True := by
  have h1 := h.bound (Nat.le_refl w.heap.size)
  exact (h1.same (Same.of_below hb fun k hk => hk.2)).less fun _ _ => trivial
theorem infoRows : (Tryd.prog.info? 24).map (fun i => (i.zero, i.size, i.bytes)) = some (some (.slice none 0 0), 1, 24) := by kernel_rfl

theorem own_under {w w' : World} {B' B : Nat} {e : TypeId} {size n : Nat} {v : Value} {xs : List Value} (h : w.ownsRow B e size v n xs) (hb : Below B' w w') (hlt : ∀ g, v.ownBlock = some g → g < B') : w'.ownsRow B e size v n xs := by
  refine ⟨h.1, ?_⟩
  rcases h.2 with h0 | ⟨g, cap, cur, rfl, hB, hg, h3⟩
  · exact .inl h0
  · exact .inr ⟨g, cap, cur, rfl, hB, (hb.block g (hlt g rfl)).trans hg, h3⟩

set_option maxRecDepth 100000 in
set_option maxHeartbeats 8000000 in
theorem ahead_any (w : World) (st fv bv nv rv : Value) (nxt : List (List Nat)) (R : List Nat) (wide : Nat) (hn : RowsAt w nv nxt fun _ => True) (hr : NatsAt w rv R) (ho : NxtOk nxt wide) (hR : ∀ n ∈ R, n < nxt.length) (hl1 : nxt.length ≤ 1000000) (hl2 : wide ≤ 1000000) (hl3 : R.length ≤ 1000000) :
    Calls Tryd.prog 38 #[.agg #[st, fv, bv, nv], rv] w fun e w' => ∃ v, e = .returned v ∧ Rows3At w' v ((List.range wide).map (aheadL nxt R)) (fun b => w.heap.size ≤ b ∧ b < w'.heap.size) ∧ Below w.heap.size w w' := by
  have hbw := (Below.refl w.heap.size w).alloc (Nat.le_refl _) (.cells #[st, fv, bv, nv] 26)
  have hq := Blk.new w 26 #[st, fv, bv, nv]
  obtain ⟨l0, hl0⟩ : ∃ l0, nxt[0]? = some l0 := ⟨_, List.getElem?_eq_getElem ho.pos⟩
  obtain ⟨b0, off0, cap0, a0, c0, rfl, m0, hn0⟩ := hn.get hl0
  have hlw := (ho.row 0 l0 hl0).1
  rw [hlw, Nat.add_zero] at m0
  have m1 := (hbw.cell (p := ⟨b0, off0, none⟩) (World.block_lt_of_cell? w _ m0)).trans m0
  obtain ⟨⟨y0, y1, y2, y3⟩, -⟩ := hq.c4
  obtain ⟨i0, hi0, hz00, hz01, hz02⟩ := info_parts infoInt
  obtain ⟨j0, hj0, hy00, hy01, hy02⟩ := info_parts infoRow
  obtain ⟨k0, hk0, hx00, hx01, hx02⟩ := info_parts infoRows
  obtain ⟨ar, cr, rfl, hrc⟩ := id hr
  have hpos := ho.pos
  have hl9 : nxt.length ≤ 9223372036854775807 := by omega
  have H := Lib.hid (And.intro hn (And.intro hr (And.intro hbw hq)))
  clear hn hr hrc hbw hq hn0 m0
  go_enter Tryd.func38, Tryd.ntmps38
  go_wp2_with (at_make; refine wpList_make_full _ rfl _ _ 62 rfl w.heap.size 24 k0 (.slice none 0 0) 1 Tryd.underlying62 hk0 hx00 hx01 .i64 .i64 wide wide wide rfl rfl rfl rfl (by rw [hx02]; omega) (by unfold maxLen; omega) (by simp) ?_; intro w1 hown1 hgrow1)
  have hB1 : Below w.heap.size w w1 := H.out.2.2.1.grown hgrow1 (by simp) (fun k e => by cases e)
  have hq1 := H.out.2.2.2.grown hgrow1 (by simp)
  have hz1 : w.heap.size + 1 < w1.heap.size := by have := own_lt hown1 rfl; simp at this; omega
  have hgo : (w.alloc (.cells #[st, fv, bv, .slice (some ⟨b0, off0, none⟩) nxt.length cap0] 26)).heap.size = w.heap.size + 1 := by simp
  rw [hgo] at hown1
  clear hgrow1 m1 y0 y1 y2 y3 hgo
  have HB := Lib.hid (And.intro hB1 hq1)
  clear hB1 hq1
  go_loopw [6, 8, 9, 18] (fun _ _ _ c18 wr => ∃ (k : Nat) (vs : List Value), k ≤ wide ∧ c18 = .int .i64 k ∧ wr.ownsRow w.heap.size 24 1 (.slice (some ⟨w.heap.size + 1, 0, none⟩) wide wide) wide vs ∧ Hid (∀ j, j < k → ∃ u, vs[j]? = some u ∧ RowsAt wr u (aheadL nxt R j) fun b => b ≠ w.heap.size + 1 ∧ w.heap.size ≤ b) ∧ Hid (Below w.heap.size w wr ∧ Blk wr w.heap.size 26 #[st, fv, bv, .slice (some ⟨b0, off0, none⟩) nxt.length cap0]) ∧ w.heap.size + 1 < wr.heap.size) (fun _ _ _ x _ => wide - (intOf x).toNat)
  case atStart => exact ⟨0, _, by omega, rfl, hown1, Lib.hid (fun j hj => by omega), HB, hz1⟩
  case round =>
    clear hown1 HB hz1
    obtain ⟨k, vs, hk, rfl, hown, hdone, hbb, hz⟩ := hrel
    by_cases hkw : k < wide
    · have q1 : decide (k < wide) = true := decide_eq_true hkw
      have y3 := hbb.out.2.c4.1.2.2.2
      have hvl : vs.length = wide := by have := hown.1; omega
      have u0 := hown.cellAt k (by omega)
      rw [List.getElem?_eq_getElem (by omega)] at u0
      have u1 := hown.frozenAt k
      go_wp2_with (at_make; refine wpList_make_full _ rfl _ _ 24 rfl wr.heap.size 23 j0 (.slice none 0 0) 1 Tryd.underlying24 hj0 hy00 hy01 .i64 .i64 nxt.length nxt.length nxt.length rfl rfl rfl rfl (by rw [hy02]; omega) (by unfold maxLen; omega) (Nat.le_refl _) ?_; intro w2 hown2 hgrow2; have e0 := (hown.kept hgrow2 (.inr (by simp [Value.ownBlock]))).cellAt k (by omega); have e1 := (hown.kept hgrow2 (.inr (by simp [Value.ownBlock]))).frozenAt k; rw [List.getElem?_eq_getElem (by omega)] at e0)
      have o2 : Only [w.heap.size + 1] wr (w2.setCell ⟨w.heap.size + 1, k, none⟩ (.slice (some ⟨wr.heap.size, 0, none⟩) nxt.length nxt.length)) := ((only_grown hgrow2).more (by simp)).trans (only_set1 w2 ⟨w.heap.size + 1, k, none⟩ _)
      have hst := ((hown.kept hgrow2 (.inr (by simp [Value.ownBlock]))).stored k (.slice (some ⟨wr.heap.size, 0, none⟩) nxt.length nxt.length)).1
      have hin : Inner (w2.setCell ⟨w.heap.size + 1, k, none⟩ (.slice (some ⟨wr.heap.size, 0, none⟩) nxt.length nxt.length)) wr.heap.size wr.heap.size nxt.length nxt.length _ fun _ => [] :=
        Inner.start (own_set hown2 (a := ⟨w.heap.size + 1, k, none⟩) _ (by simp [Value.ownBlock]; omega)) fun m u hu => by
          have hu : (madeCells #[Value.slice none 0 0] (nxt.length * 1)).toList[m]? = some u := hu
          rw [toList_madeCells_one] at hu
          exact (List.mem_replicate.1 (List.mem_of_getElem? hu)).2
      have hcell := hst.cellAt k (by omega)
      rw [List.getElem?_set, if_pos rfl, if_pos (by omega)] at hcell
      have hdone2 : ∀ j, j < k → ∃ u, (vs.set k (.slice (some ⟨wr.heap.size, 0, none⟩) nxt.length nxt.length))[j]? = some u ∧ RowsAt (w2.setCell ⟨w.heap.size + 1, k, none⟩ (.slice (some ⟨wr.heap.size, 0, none⟩) nxt.length nxt.length)) u (aheadL nxt R j) fun b => (b ≠ w.heap.size + 1 ∧ w.heap.size ≤ b) ∧ b < wr.heap.size := fun j hj => by
        obtain ⟨u, h1, h2⟩ := hdone.out j hj
        exact ⟨u, by rw [List.getElem?_set, if_neg (by omega)]; exact h1, (h2.bound (Nat.le_refl _)).same (Same.of_only o2 fun b hb hn => hn.1.1 (by simpa using hb))⟩
      have hbw2 := hbb.out.1.trans (o2.below (B := w.heap.size) hbb.out.1.size (by simp))
      have hblk2 := hbb.out.2.only o2 (by simp)
      have hz2 := o2.size
      have HW := Lib.hid (And.intro hst (And.intro hdone2 (And.intro hbw2 (And.intro hblk2 hcell))))
      have HI := Lib.hid hin
      clear hst hdone2 hbw2 hblk2 hcell hin o2 hown2 hgrow2 e0 e1 u0 u1 y3 hown hdone hbb
      generalize w2.setCell ⟨w.heap.size + 1, k, none⟩ (.slice (some ⟨wr.heap.size, 0, none⟩) nxt.length nxt.length) = W1 at *
      obtain ⟨gi, hgi⟩ : ∃ gi, wr.heap.size = gi := ⟨_, rfl⟩
      rw [hgi] at HW HI hz hz2
      simp only [hgi]
      clear hgi
      go_loopw [8, 9, 30] (fun _ _ c30 wi => ∃ (j : Nat) (us : List Value), j ≤ R.length ∧ c30 = .int .i64 j ∧ Hid (Inner wi gi gi nxt.length nxt.length us fun m => (R.take j).filter fun n => decide (nxtF nxt n k = m)) ∧ Hid (Below gi W1 wi)) (fun _ _ c _ => R.length - (intOf c).toNat)
      case atStart => exact ⟨0, _, by omega, rfl, by simpa using HI, Lib.hid (Below.refl _ _)⟩
      case round =>
        clear HI
        obtain ⟨j, us, hj, rfl, hI, hb⟩ := hrel
        by_cases hlt : j < R.length
        · have q2 : decide (j < R.length) = true := decide_eq_true hlt
          obtain ⟨n, hx⟩ : ∃ n, R[j]? = some n := ⟨_, List.getElem?_eq_getElem hlt⟩
          have hnM := hR n (List.mem_of_getElem? hx)
          have hbw : Below w.heap.size w wr := HW.out.2.2.1.trans (hb.out.mono (by omega))
          obtain ⟨bR, offR, rfl, mR⟩ := (H.out.2.1.below hbw).get hx
          obtain ⟨l, hl⟩ : ∃ l, nxt[n]? = some l := ⟨_, List.getElem?_eq_getElem hnM⟩
          obtain ⟨b1, off1, cap1, a1, c1, he, m2, hn1⟩ := (H.out.1.below hbw).get hl
          obtain ⟨⟨rfl, rfl⟩, rfl⟩ : (b0 = b1 ∧ off0 = off1) ∧ cap0 = cap1 := by simpa using he
          obtain ⟨hll, hlin⟩ := ho.row n l hl
          obtain ⟨m, hm⟩ : ∃ m, l[k]? = some m := ⟨_, List.getElem?_eq_getElem (by omega)⟩
          have hmM := hlin m (List.mem_of_getElem? hm)
          obtain ⟨b3, off3, rfl, m3⟩ := hn1.get hm
          have hmf : nxtF nxt n k = m := by simp [nxtF, hl, hm]
          obtain ⟨u, hu, hur⟩ := hI.out.own m hmM
          have e2 : wr.cell? ⟨w.heap.size + 1, k, none⟩ = some (.slice (some ⟨gi, 0, none⟩) nxt.length nxt.length) := (hb.out.cell (p := ⟨w.heap.size + 1, k, none⟩) hz).trans HW.out.2.2.2.2
          have e3 := hI.out.row.cellAt m (by omega)
          rw [hu] at e3
          have e4 := hI.out.row.frozenAt m
          have y3 := (HW.out.2.2.2.1.below hb.out (by omega)).c4.1.2.2.2
          rw [hll] at m2
          have hwd : wide ≤ 9223372036854775807 := by omega
          have hHX := Lib.hid (And.intro hx hmf)
          have HU := Lib.hid (And.intro hu hur)
          clear hx hl hll hlin hm hn1 hmf hbw he hu hur
          obtain ⟨Fm, hFm⟩ : ∃ Fm, (R.take j).filter (fun n => decide (nxtF nxt n k = m)) = Fm := ⟨_, rfl⟩
          have hFl : Fm.length ≤ j := by rw [← hFm]; exact Nat.le_trans (List.length_filter_le _ _) (by rw [List.length_take]; omega)
          rw [hFm] at HU
          have HFM := Lib.hid hFm
          clear hFm
          have hown5 : ((wr.alloc (.cells #[.int .i64 (n : Int)] 3)).drew).ownsRow gi 3 1 u Fm.length (natCells Fm) := HU.out.2.alloc _
          have hgl : gi < wr.heap.size := own_lt hI.out.row rfl
          have hne1 : ¬ gi = wr.heap.size := by omega
          have hne2 : ¬ w.heap.size + 1 = wr.heap.size := by omega
          have hne3 : ¬ wr.heap.size = gi := by omega
          have hal := (Below.refl wr.heap.size wr).alloc (Nat.le_refl _) (.cells #[.int .i64 (n : Int)] 3)
          have e7 := (hal.cell (p := ⟨w.heap.size + 1, k, none⟩) (by show w.heap.size + 1 < wr.heap.size; omega)).trans e2
          have hun : some (w.heap.size + 1) ≠ u.ownBlock := fun e => by have := (HU.out.2.lt _ e.symm).1; omega
          have e8 := (hal.cell (p := ⟨gi, m, none⟩) hgl).trans e3
          have e9 : (wr.alloc (.cells #[.int .i64 (n : Int)] 3)).drew.cell? ⟨w.heap.size + 1, k, none⟩ = _ := e7
          have e10 : (wr.alloc (.cells #[.int .i64 (n : Int)] 3)).drew.cell? ⟨gi, m, none⟩ = _ := e8
          clear hal
          have hone := one_at (w := wr) (u := .int .i64 (n : Int)) (t := 3)
          have hone' : ∀ j v, [Value.int .i64 (n : Int)][j]? = some v → ((wr.alloc (.cells #[.int .i64 (n : Int)] 3)).drew).cell? ((⟨wr.heap.size, 0, none⟩ : Addr).add j) = some v := hone
          go_wp2_with fail
          go_region_law (refine step_append_lies _ rfl (.tmp 53) (.tmp 55) 23 rfl gi 3 i0 (.int .i64 0) 1 8 Tryd.underlying23 hi0 hz00 hz01 hz02 rfl (by decide) _ _ _ (by simp [Act.eval, Act.put]) hown5 ⟨wr.heap.size, 0, none⟩ 1 1 [.int .i64 (n : Int)] (by simp [Act.eval, Act.put]) rfl hone' (fun u hu => by simp at hu; subst hu; rfl) (by decide) (by unfold maxLen; omega) (by omega) (by have := hb.out.size; simp; omega) _ rfl ?_; intro g cap w5 hown6 hgrow6 hat6 hlt6; have hrow5 : w5.ownsRow gi 23 1 (.slice (some ⟨gi, 0, none⟩) nxt.length nxt.length) nxt.length us := World.ownsRow.kept (w := (wr.alloc (.cells #[.int .i64 (n : Int)] 3)).drew) (hI.out.row.alloc _) hgrow6 (.inr (fun e => hI.out.off m u HU.out.1 e.symm)); have e5 := hrow5.cellAt m (by omega); rw [HU.out.1] at e5; have e6 := hrow5.frozenAt m; have e11 := hgrow6.cell (a := ⟨w.heap.size + 1, k, none⟩) e9 hun)
          all_goals
            have hgr : ((wr.alloc (.cells #[.int .i64 (n : Int)] 3)).drew).grownBy w5 u.ownBlock := hgrow6
            have hat : u.ownBlock = some g ∨ g = wr.heap.size + 1 := by
              rcases hat6 with h1 | h1
              · exact .inl h1
              · exact .inr (h1.trans (by simp))
            have hgg : g ≠ gi := fun e => by
              rcases hat with h1 | h1
              · exact hI.out.off m u HU.out.1 (by rw [h1, e])
              · omega
            have oo : Only (gi :: u.ownBlock.toList) wr (w5.setCell ⟨gi, m, none⟩ (.slice (some ⟨g, 0, none⟩) (Fm.length + 1) cap)) :=
              (((only_alloc wr (.cells #[.int .i64 (n : Int)] 3)).drew.more (by simp)).trans ((only_grown hgr).more fun k hk => List.mem_cons_of_mem _ hk)).trans ((only_set1 w5 ⟨gi, m, none⟩ _).more (by simp))
            have hI2 := hI.out.step (n := n) hmM HU.out.1 oo.size (fun k' hk' h1 h2 => oo.block k' hk' fun hm => by
              simp at hm
              rcases hm with e | e
              · exact h1 e
              · exact h2 e) (hrow5.stored m (.slice (some ⟨g, 0, none⟩) (Fm.length + 1) cap)).1 (by rw [HFM.out]; exact own_set hown6 (a := ⟨gi, m, none⟩) _ (fun e => hgg (Option.some.inj e))) (fun k' hk' => by
              obtain rfl : g = k' := Option.some.inj hk'
              rcases hat with h1 | h1
              · exact .inl h1
              · exact .inr (by omega))
            have hF2 : (fun i => if i = m then (R.take j).filter (fun n => decide (nxtF nxt n k = m)) ++ [n] else (R.take j).filter fun n => decide (nxtF nxt n k = i)) = fun i => (R.take (j + 1)).filter fun n => decide (nxtF nxt n k = i) := by
              funext i
              have ht : R.take (j + 1) = R.take j ++ [n] := by rw [List.take_add_one, hHX.out.1]; rfl
              rw [ht, List.filter_append]
              by_cases e : i = m
              · subst e; simp [hHX.out.2]
              · have e' : ¬ m = i := fun e2 => e e2.symm
                simp [e, e', hHX.out.2]
            rw [hF2] at hI2
            have HI2 := Lib.hid hI2
            have HB2 := Lib.hid (hb.out.trans (oo.below (B := gi) (by omega) fun k' hk' => by
              simp at hk'
              rcases hk' with e | e
              · omega
              · exact (HU.out.2.lt k' e).1))
            clear hI2 oo hgr hat hgrow6 hat6 hown6 hrow5 e5 e6 hF2
            go_wp2_with fail
            go_roundw
            case rel => exact ⟨j + 1, _, by omega, by go_num, HI2, HB2⟩
            case measure => simp [intOf]; omega
        · obtain rfl : j = R.length := by omega
          have q2 : decide (R.length < R.length) = false := decide_eq_false (by omega)
          have hI2 := hI.out
          rw [List.take_length] at hI2
          have hrows := hI2.rows (N := fun b => b ≠ w.heap.size + 1 ∧ w.heap.size ≤ b) fun k' h1 h2 => ⟨by omega, by omega⟩
          have hvl2 : (vs.set k (Value.slice (some ⟨gi, 0, none⟩) nxt.length nxt.length))[k]? = some (.slice (some ⟨gi, 0, none⟩) nxt.length nxt.length) := by
            rw [List.getElem?_set, if_pos rfl, if_pos (by omega)]
          have hbz := hb.out.size
          have HD : Hid (∀ j, j < k + 1 → ∃ u, (vs.set k (Value.slice (some ⟨gi, 0, none⟩) nxt.length nxt.length))[j]? = some u ∧ RowsAt wr u (aheadL nxt R j) fun b => b ≠ w.heap.size + 1 ∧ w.heap.size ≤ b) := Lib.hid fun j' hj' => by
            by_cases e : j' = k
            · subst e
              exact ⟨_, hvl2, hrows⟩
            · obtain ⟨u, h1, h2⟩ := HW.out.2.1 j' (by omega)
              exact ⟨u, h1, (h2.same (Same.of_below hb.out fun b hb => hb.2)).less fun b hb => hb.1⟩
          have HO := Lib.hid (And.intro (own_under HW.out.1 hb.out (fun g hg => by obtain rfl : w.heap.size + 1 = g := Option.some.inj hg; exact hz)) (And.intro (HW.out.2.2.1.trans (hb.out.mono (by omega))) (HW.out.2.2.2.1.below hb.out (by omega))))
          clear hI2 hI hrows hb HW
          go_wp2_with fail
          go_roundw
          case rel => exact ⟨k + 1, _, by omega, by go_num, HO.out.1, HD, Lib.hid ⟨HO.out.2.1, HO.out.2.2⟩, by omega⟩
          case measure => simp [intOf]; omega
    · obtain rfl : k = wide := by omega
      have q1 : decide (k < k) = false := decide_eq_false (by omega)
      have HO := Lib.hid hown
      clear hown
      go_wp2_with fail
      go_ret
      refine ⟨_, rfl, ⟨_, _, by simp; rfl, .inr ⟨w.heap.size + 1, 0, rfl, hz, ⟨by omega, hz⟩, fun j ll hj => ?_⟩⟩, hbb.out.1⟩
      have hjw : j < k := by have := (List.getElem?_eq_some_iff.1 hj).1; simpa using this
      rw [List.getElem?_map, List.getElem?_range hjw] at hj
      obtain rfl := Option.some.inj hj
      obtain ⟨u, h1, h2⟩ := hdone.out j hjw
      refine ⟨u, by rw [Nat.zero_add, HO.out.cellAt j (by omega)]; exact h1, (h2.bound (Nat.le_refl _)).less fun b hb => ⟨hb.1.2, hb.2⟩⟩
end Go.Proofs.YtgkpgjbgcimijaaDoor
