/-
  The walk of the law BucketWindow, the lawful bucket: it returns true. Conditions: none but what each says.
-/
import Derived.Test.YtikpbhfjmlfooaaBucketBad
namespace Go.Proofs.Ytikpbhfjmlfooaa
set_option linter.unusedVariables false
open Go.RowKit Go.Sort
namespace bucketWindowW

/-- a struct of four numbers is stored over another one: the whole block -/
theorem set4all {w : World} {g : Nat} {o0 o1 o2 o3 : Value} (a b c d : Value) (h : ∀ i, w.cell? ⟨g, i, none⟩ = (#[o0, o1, o2, o3] : Array Value)[i]?) :
    ∀ i, ((((w.setCell ⟨g, 0, none⟩ a).setCell ⟨g, 1, none⟩ b).setCell ⟨g, 2, none⟩ c).setCell ⟨g, 3, none⟩ d).cell? ⟨g, i, none⟩ = (#[a, b, c, d] : Array Value)[i]? := by
  obtain ⟨w', hw, _, ⟨h0, h1, h2, h3⟩, _⟩ := set4 a b c d h
  intro i
  match i with
  | 0 => rw [hw, h0]; rfl
  | 1 => rw [hw, h1]; rfl
  | 2 => rw [hw, h2]; rfl
  | 3 => rw [hw, h3]; rfl
  | i + 4 =>
    rw [World.cell?_setCell_other _ _ _ _ (by simp), World.cell?_setCell_other _ _ _ _ (by simp), World.cell?_setCell_other _ _ _ _ (by simp), World.cell?_setCell_other _ _ _ _ (by simp), h]
    simp

/-- behind the cut: the new bucket lies in a block of its own, the old one as before -/
def After (g0 : Nat) (w : World) (old new : Array Value) (s : Value) (W : World) : Prop :=
  ∃ g, s = .pointer (some ⟨g, 0, none⟩) ∧ g0 < g ∧ g < W.heap.size ∧ (∀ i, W.cell? ⟨g, i, none⟩ = new[i]?) ∧
    (∀ i, W.cell? ⟨g0, i, none⟩ = old[i]?) ∧ (∀ i, W.frozen? ⟨g0, i, none⟩ = false) ∧ Below g0 w W ∧ g0 + 1 < W.heap.size

theorem after_new {g0 : Nat} {w wr w5 : World} {old new : Array Value} {t : TypeId} (q : ∀ i, wr.cell? ⟨g0, i, none⟩ = old[i]?) (p : ∀ i, wr.frozen? ⟨g0, i, none⟩ = false) (BW : Below g0 w wr) (z : g0 + 1 < wr.heap.size)
    (b5 : Below wr.drew.heap.size wr.drew w5) : After g0 w old new (.pointer (some ⟨w5.heap.size, 0, none⟩)) (w5.alloc (.cells new t)) := by
  have b5' : Below wr.heap.size wr w5 := (Below.drew (Below.refl _ _)).trans b5
  have hs := b5'.size
  exact ⟨_, rfl, by omega, by simp, newB _ _ _, oldB _ (keepB b5' q (by omega)) (by omega), oldF _ (keepF b5' p (by omega)) (by omega),
    Below.alloc (BW.trans (b5'.mono (by omega))) (by omega) _, by simp; omega⟩

theorem after_set {g0 : Nat} {w wr w5 : World} {old : Array Value} {o0 o1 o2 o3 : Value} (a b c d : Value) {t : TypeId} (q : ∀ i, wr.cell? ⟨g0, i, none⟩ = old[i]?) (p : ∀ i, wr.frozen? ⟨g0, i, none⟩ = false) (BW : Below g0 w wr) (z : g0 + 1 < wr.heap.size)
    (b5 : Below (wr.alloc (.cells #[o0, o1, o2, o3] t)).drew.heap.size (wr.alloc (.cells #[o0, o1, o2, o3] t)).drew w5) :
    After g0 w old #[a, b, c, d] (.pointer (some ⟨wr.heap.size, 0, none⟩)) ((((w5.setCell ⟨wr.heap.size, 0, none⟩ a).setCell ⟨wr.heap.size, 1, none⟩ b).setCell ⟨wr.heap.size, 2, none⟩ c).setCell ⟨wr.heap.size, 3, none⟩ d) := by
  have b5' : Below (wr.alloc (.cells #[o0, o1, o2, o3] t)).heap.size (wr.alloc (.cells #[o0, o1, o2, o3] t)) w5 := (Below.drew (Below.refl _ _)).trans b5
  have hs : wr.heap.size + 1 ≤ w5.heap.size := by have := b5'.size; simpa using this
  have hn := keepB b5' (newB wr #[o0, o1, o2, o3] t) (by simp)
  have ho := keepB b5' (oldB (.cells #[o0, o1, o2, o3] t) q (by omega)) (by simp; omega)
  have hf := keepF b5' (oldF (.cells #[o0, o1, o2, o3] t) p (by omega)) (by simp; omega)
  obtain ⟨w', hw, h0, _, _, h1, h2, h3⟩ := set4 a b c d hn
  have hall := set4all a b c d hn
  rw [hw] at hall ⊢
  refine ⟨_, rfl, by omega, by omega, hall, fun i => (h1 _ _ (by omega)).trans (ho i), fun i => (h2 _ _).trans (hf i), ?_, by omega⟩
  exact h3 _ _ (by omega) ((Below.alloc BW (by omega) _).trans (b5'.mono (by simp; omega)))

set_option maxHeartbeats 4000000 in
set_option maxRecDepth 100000 in
theorem walk_good (c f y t : Int) (x : Option Addr) (len cap : Nat) (zs : List Int) (l0 l1 : Int) (w : World) (hrow : IsRow .i64 w x len cap zs) (hg : okB c f y t len l0 l1) :
    Calls Try.prog 4 #[.agg #[.int .i64 c, .int .i64 f, .int .i64 y, .int .i64 t], .slice x len cap, .agg #[.int .i64 l0, .int .i64 l1]] w fun e w' => e = .returned (.bool true) ∧ Below w.heap.size w w' := by
  obtain ⟨hr, hlen, g1, g2, g3, g4⟩ := hg
  have ER := Lib.hid hr
  have d1 : decide (60 < (len : Int)) = false := by simp; omega
  have d2 : decide (l0 < 0) = false := by simp; omega
  have d3 : decide (1099511627776 < l0) = false := by simp; omega
  have d4 : decide (l1 < 0) = false := by simp; omega
  have d5 : decide (1099511627776 < l1) = false := by simp; omega
  go_enter Try.func4, Try.ntmps4
  go_wp2_with fail
  refine (right_lit _ _ _ _ _ _ ER.out).mono ?_
  rintro e w1 ⟨rfl, b1⟩
  obtain ⟨k1, k2⟩ := bcell b1
  have x0 : w1.cell? ⟨w.heap.size + 1, 0, none⟩ = some (.int .i64 l0) := by rw [k1 _ _ (by simp)]; go_simp
  have x1 : w1.cell? ⟨w.heap.size + 1, 1, none⟩ = some (.int .i64 l1) := by rw [k1 _ _ (by simp)]; go_simp
  have q1 : ∀ i, w1.cell? ⟨w.heap.size, i, none⟩ = (#[Value.int .i64 c, .int .i64 f, .int .i64 y, .int .i64 t] : Array Value)[i]? := fun i => by rw [k1 _ _ (by simp; omega)]; go_simp
  have p1 : ∀ i, w1.frozen? ⟨w.heap.size, i, none⟩ = false := fun i => by rw [k2 _ _ (by simp; omega)]; go_simp
  have z1 : w.heap.size + 1 < w1.heap.size := by have := b1.size; simp at this; omega
  have B1 : Below w.heap.size w w1 := below_on (below2 _ _ _) b1
  clear k1 k2 b1
  go_wp2_with fail
  go_quiet (fail)
  have B2 : Below w.heap.size w (w1.drewN nq) := B1.trans ((below_regrownN w1 nq).mono B1.size)
  have q2 : ∀ i, (w1.drewN nq).cell? ⟨w.heap.size, i, none⟩ = (#[Value.int .i64 c, .int .i64 f, .int .i64 y, .int .i64 t] : Array Value)[i]? := q1
  have p2 : ∀ i, (w1.drewN nq).frozen? ⟨w.heap.size, i, none⟩ = false := p1
  have z2 : w.heap.size + 1 < (w1.drewN nq).heap.size := z1
  generalize w1.drewN nq = w2 at *
  clear q1 p1 z1 B1 x0 x1
  go_wp2_with fail
  have RS := Lib.hid hr
  have W0 := Lib.hid (window_start (from_ := l0) hr g3)
  have HROW := Lib.hid hrow
  clear hr hrow
  go_loopg [9, 10, 11] len (fun g s9 s10 s11 wr => ∃ (k : Nat) (Y T N : Int), k ≤ len ∧ g = len - k ∧ s11 = .int .i64 k ∧ s9 = .int .i64 N ∧ s10 = .int .i64 T ∧ Hid (rightB c f Y T = true) ∧ Hid (Window c f l0 l1 Y T N) ∧ N ≤ k ∧
    (∀ i, wr.cell? ⟨w.heap.size, i, none⟩ = (#[Value.int .i64 c, .int .i64 f, .int .i64 Y, .int .i64 T] : Array Value)[i]?) ∧ (∀ i, wr.frozen? ⟨w.heap.size, i, none⟩ = false) ∧ Below w.heap.size w wr ∧ w.heap.size + 1 < wr.heap.size)
  case atStart => exact ⟨0, y, t, 0, Nat.zero_le _, by omega, rfl, rfl, rfl, RS, W0, by omega, q2, p2, B2, z2⟩
  case round =>
    clear q2 p2 z2 B2
    obtain ⟨k, Y, T, N, hk, hgk, rfl, rfl, rfl, HR, HW, hN, q, p, BW, z⟩ := hrel
    have hw := HW.out
    have hN0 := hw.1
    have hrr := HR.out
    obtain ⟨⟨r1, r2⟩, ⟨r3, r4⟩, ⟨r5, r6⟩, ⟨r7, r8⟩⟩ := rightB_true.1 hrr
    by_cases hlt : k < len
    · rcases HROW.out.view with h0 | ⟨bb, off, rfl, hbb, h0, hl, hm, hz, hcell', hwz'⟩
      · omega
      · have hc := (BW.cell (p := ⟨bb, off + k, none⟩) hbb).trans (hcell' k (by omega))
        obtain ⟨now, hnow⟩ : ∃ now, zs[k]?.getD 0 = now := ⟨_, rfl⟩
        rw [hnow] at hc
        clear hcell' hwz' hnow
        have hw' := window_take (now := now) hrr g3 hw
        have hr' := take_right (now := now) hrr
        have ht' := take_later (c := c) (f := f) (h := Y) (t := T) (now := now)
        obtain ⟨Y', hY⟩ : ∃ Y', takeH c f Y T now = Y' := ⟨_, rfl⟩
        obtain ⟨T', hT⟩ : ∃ T', takeT c f Y T now = T' := ⟨_, rfl⟩
        obtain ⟨B, hB⟩ : ∃ B, takeOk c f Y T now = B := ⟨_, rfl⟩
        rw [hY, hT, hB] at hw'
        rw [hY, hT] at hr'
        rw [hT] at ht'
        obtain ⟨_, _, ⟨r5', r6'⟩, ⟨r7', r8'⟩⟩ := rightB_true.1 hr'
        have EY := Lib.hid hY
        have ET := Lib.hid hT
        have EB := Lib.hid hB
        have EW := Lib.hid hw'
        have ER' := Lib.hid hr'
        have hgk' := Lib.hid hgk
        clear hY hT hB hw' hr' hw hrr hgk
        have c0 : wr.cell? ⟨w.heap.size, 0, none⟩ = some (.int .i64 c) := q 0
        have c1 : wr.cell? ⟨w.heap.size, 1, none⟩ = some (.int .i64 f) := q 1
        have c2 : wr.cell? ⟨w.heap.size, 2, none⟩ = some (.int .i64 Y) := q 2
        have c3 : wr.cell? ⟨w.heap.size, 3, none⟩ = some (.int .i64 T) := q 3
        have hbb' : bb < wr.heap.size := by have := BW.size; omega
        have HS := Lib.hid (fun (W' : World) (hb : Below wr.heap.size wr W') => show W'.cell? ⟨w.heap.size, 0, none⟩ = some (.int .i64 c) ∧ W'.cell? ⟨w.heap.size, 1, none⟩ = some (.int .i64 f) ∧ W'.cell? ⟨w.heap.size, 2, none⟩ = some (.int .i64 Y) ∧ W'.cell? ⟨w.heap.size, 3, none⟩ = some (.int .i64 T) ∧ W'.cell? ⟨bb, off + k, none⟩ = some (.int .i64 now) from
          ⟨(hb.cell (by show w.heap.size < _; omega)).trans c0, (hb.cell (by show w.heap.size < _; omega)).trans c1, (hb.cell (by show w.heap.size < _; omega)).trans c2, (hb.cell (by show w.heap.size < _; omega)).trans c3, (hb.cell hbb').trans hc⟩)
        have Q := Lib.hid q
        have P := Lib.hid p
        clear q p
        go_upto_region 9 with (fail)
        go_cut [12, 13] (fun s12 s13 W => After w.heap.size w #[.int .i64 c, .int .i64 f, .int .i64 Y, .int .i64 T] #[.int .i64 c, .int .i64 f, .int .i64 Y', .int .i64 T'] s12 W ∧ s13 = .bool B)
        case first =>
          go_region_held3 (fun w' => w'.cell? ⟨w.heap.size, 0, none⟩ = some (.int .i64 c) ∧ w'.cell? ⟨w.heap.size, 1, none⟩ = some (.int .i64 f) ∧ w'.cell? ⟨w.heap.size, 2, none⟩ = some (.int .i64 Y) ∧ w'.cell? ⟨w.heap.size, 3, none⟩ = some (.int .i64 T) ∧ w'.cell? ⟨bb, off + k, none⟩ = some (.int .i64 now))
            (first | (refine HS.out _ ?_; (repeat (with_reducible first | exact Below.refl _ _ | refine Below.drew ?_ | refine Below.setCell ?_ (by simp) _ | refine Below.alloc ?_ (by simp) _)); done) | (refine HS.out _ ?_; (repeat (with_reducible first | exact Below.refl _ _ | refine Below.trans ?_ (b5.mono (by simp)) | refine Below.drew ?_ | refine Below.setCell ?_ (by first | exact Nat.le_refl _ | (simp; done) | (have := b5.size; simp at this ⊢; omega)) _ | refine Below.alloc ?_ (by first | exact Nat.le_refl _ | (simp; done) | (have := b5.size; simp at this ⊢; omega)) _)); done))
            (first | (go_at_call 12; refine (take_lit c f Y T now Y' T' B _ EY.out ET.out EB.out).mono ?_; rintro e w5 ⟨rfl, b5⟩; obtain ⟨k5, k6⟩ := bcell b5))
          all_goals (try go_wp2_with fail)
          all_goals go_meet
          · exact ⟨after_new Q.out P.out BW z b5, rfl⟩
          · exact ⟨after_set _ _ _ _ Q.out P.out BW z b5, rfl⟩
        case rest =>
          clear Q P HS c0 c1 c2 c3 hc
          obtain ⟨⟨g, rfl, hg, hgz, n0, o0, o1, BW', z'⟩, rfl⟩ := hcut
          have a0 : wc.cell? ⟨g, 0, none⟩ = some (.int .i64 c) := n0 0
          have a1 : wc.cell? ⟨g, 1, none⟩ = some (.int .i64 f) := n0 1
          have a2 : wc.cell? ⟨g, 2, none⟩ = some (.int .i64 Y') := n0 2
          have a3 : wc.cell? ⟨g, 3, none⟩ = some (.int .i64 T') := n0 3
          clear BW z
          have dT : decide (T' < T) = false := by simp; omega
          go_wp2_with fail
          refine (right_lit _ _ _ _ _ _ ER'.out).mono ?_
          rintro e w6 ⟨rfl, b6⟩
          have e0 := keepB b6 n0 hgz
          have e1 := keepB b6 o0 (by omega)
          have e2 := keepF b6 o1 (by omega)
          have B6 : Below w.heap.size w w6 := BW'.trans (b6.mono (by omega))
          have z6 : w.heap.size + 1 < w6.heap.size := by have := b6.size; omega
          have hgz6 : g < w6.heap.size := by have := b6.size; omega
          have m0 : w6.cell? ⟨g, 0, none⟩ = some (.int .i64 c) := e0 0
          have m1 : w6.cell? ⟨g, 1, none⟩ = some (.int .i64 f) := e0 1
          have m2 : w6.cell? ⟨g, 2, none⟩ = some (.int .i64 Y') := e0 2
          have m3 : w6.cell? ⟨g, 3, none⟩ = some (.int .i64 T') := e0 3
          clear a0 a1 a2 a3 b6 n0 o0 o1 BW' z' hgz
          have HS4 := Lib.hid (set4all (.int .i64 c) (.int .i64 f) (.int .i64 Y') (.int .i64 T') e1)
          go_wp2_with fail
          all_goals go_roundg (len - (k + 1))
          all_goals first
            | (case measure => have := hgk'.out; omega)
            | skip
          all_goals first
            | (case rel =>
                refine ⟨k + 1, Y', T', _, by omega, rfl, by simp, rfl, rfl, ER', Lib.hid ?_, ?_, HS4.out, fun i => by simp only [World.frozen?_setCell]; exact e2 i, (((B6.setCell (Nat.le_refl _) _).setCell (Nat.le_refl _) _).setCell (Nat.le_refl _) _).setCell (Nat.le_refl _) _, by simp; omega⟩
                · have := EW.out
                  first
                    | (rw [if_pos (by refine ⟨?_, ?_, ?_⟩ <;> first | assumption | rfl | omega)] at this; exact this)
                    | (rw [if_neg (by rintro ⟨h1, h2, h3⟩; first | omega | simp_all)] at this; simpa using this)
                · push_cast; omega)
            | skip
    · have e : k = len := by omega
      subst e
      have R := Lib.hid hrr
      have hend := fun hn => window_end hrr g3 hw hn
      clear hrr hw
      have c0 : wr.cell? ⟨w.heap.size, 0, none⟩ = some (.int .i64 c) := q 0
      have c1 : wr.cell? ⟨w.heap.size, 1, none⟩ = some (.int .i64 f) := q 1
      have fin : ∀ (w7 : World), Below wr.heap.size wr w7 → Below w.heap.size w w7 := fun w7 b7 => BW.trans (b7.mono (by omega))
      by_cases hn : N ≤ c
      · clear hend
        go_wp2_with fail
        refine (bworks_any _).mono ?_
        rintro e w7 ⟨rfl, b7⟩
        go_wp2_with fail
        go_ret
        exact ⟨rfl, fin _ b7⟩
      · obtain ⟨hf, hd⟩ := hend hn
        clear hend
        rw [← Int.tdiv_eq_ediv_of_nonneg (by omega)] at hd
        obtain ⟨D, hD⟩ : ∃ D, (N - c - 1).tdiv f = D := ⟨_, rfl⟩
        rw [hD] at hd
        have hD0 : 0 ≤ D := by rw [← hD]; exact Int.tdiv_nonneg (by omega) (by omega)
        have hD1 : D ≤ 60 := by
          rw [← hD, Int.tdiv_eq_ediv_of_nonneg (by omega)]
          exact Int.le_trans (Int.ediv_le_self _ (by omega)) (by omega)
        by_cases h1 : f = 1
        · subst h1
          simp at hD
          have HD := Lib.hid hD
          have hd' : N - c - 1 < l1 := by omega
          clear hd hD hD0 hD1
          go_wp2_with fail
          refine (bworks_any _).mono ?_
          rintro e w7 ⟨rfl, b7⟩
          go_wp2_with fail
          go_ret
          exact ⟨rfl, fin _ b7⟩
        · have h2 : 1 < f := by omega
          clear h1
          go_wp2_with fail
          refine (bworks_any _).mono ?_
          rintro e w7 ⟨rfl, b7⟩
          go_wp2_with fail
          go_ret
          exact ⟨rfl, fin _ b7⟩

theorem walk (c f y t : Int) (x : Option Addr) (len cap : Nat) (zs : List Int) (l0 l1 : Int) (w : World) (hrow : IsRow .i64 w x len cap zs) :
    Calls Try.prog 4 #[.agg #[.int .i64 c, .int .i64 f, .int .i64 y, .int .i64 t], .slice x len cap, .agg #[.int .i64 l0, .int .i64 l1]] w fun e w' => e = .returned (.bool true) ∧ Below w.heap.size w w' := by
  by_cases h : okB c f y t len l0 l1
  · exact walk_good c f y t x len cap zs l0 l1 w hrow h
  · exact walk_bad c f y t x len cap l0 l1 w h
end bucketWindowW
end Go.Proofs.Ytikpbhfjmlfooaa
