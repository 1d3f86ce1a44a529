/-
  The walk of New: rates that begin, or what keeps classes from being such. Conditions: the classes lie as Go's.
-/
import Derived.Test.YtikpbhfjmlfooaaRtRefCheck
namespace Go.Proofs.Ytikpbhfjmlfooaa
set_option linter.unusedVariables false
set_option linter.unusedSimpArgs false
open Go.RowKit Go.Maps Go.Sort

def clsG (l : List Cls) (s : ByteArray) : Option (Int × Int) := (l.find? fun y => decide (y.1 = s)).map fun y => y.2
theorem clsG_new {l : List Cls} {x : Cls} (h : anyName l x.1 = false) : clsG (l ++ [x]) x.1 = some x.2 := by
  have h0 : l.find? (fun y => decide (y.1 = x.1)) = none := by
    rw [List.find?_eq_none]
    intro y hy he
    have : anyName l x.1 = true := by rw [anyName, List.any_eq_true]; exact ⟨y, hy, he⟩
    rw [h] at this
    cases this
  rw [clsG, List.find?_append, h0]
  simp
theorem clsG_old {l : List Cls} {x : Cls} {s : ByteArray} (h : s ≠ x.1) : clsG (l ++ [x]) s = clsG l s := by
  rw [clsG, List.find?_append]
  have hn : ¬ x.1 = s := fun e => h e.symm
  have : [x].find? (fun y => decide (y.1 = s)) = none := by simp [hn]
  rw [this, Option.or_none]
  rfl
theorem check_from {l seen : List Cls} (h : checkFrom seen l = 0) : ∀ j x, l[j]? = some x → stepE (seen ++ l.take j) x = 0 := by
  induction l generalizing seen with
  | nil => intro j x hx; simp at hx
  | cons y r ih =>
    rw [checkFrom] at h
    by_cases h0 : stepE seen y = 0
    · rw [if_pos h0] at h
      intro j x hx
      cases j with
      | zero =>
        simp at hx
        subst hx
        simpa using h0
      | succ j =>
        simp at hx
        have := ih h j x hx
        simpa using this
    · rw [if_neg h0] at h
      exact absurd h h0
theorem check_zero {l : List Cls} (h : checkE l = 0) : l.length ≤ 8 ∧ ∀ j x, l[j]? = some x → stepE (l.take j) x = 0 := by
  unfold checkE at h
  by_cases h8 : 8 < l.length
  · rw [if_pos h8] at h; cases h
  · rw [if_neg h8] at h
    exact ⟨by omega, fun j x hx => by simpa using check_from h j x hx⟩
theorem step_zero {seen : List Cls} {x : Cls} (h : stepE seen x = 0) : wordB x.1 = true ∧ timeB x.2.1 = true ∧ timeB x.2.2 = true ∧ anyName seen x.1 = false := by
  unfold stepE at h
  by_cases h1 : wordB x.1 = false
  · rw [if_pos h1] at h; cases h
  · rw [if_neg h1] at h
    by_cases h2 : (timeB x.2.1 && timeB x.2.2) = false
    · rw [if_pos h2] at h; cases h
    · rw [if_neg h2] at h
      by_cases h3 : anyName seen x.1 = true
      · rw [if_pos h3] at h; cases h
      · have h2' : (timeB x.2.1 && timeB x.2.2) = true := by simpa using h2
        rw [Bool.and_eq_true] at h2'
        exact ⟨by simpa using h1, h2'.1, h2'.2, by simpa using h3⟩
theorem clsG_some {l : List Cls} {s : ByteArray} {x : Int × Int} (hc : checkE l = 0) (h : clsG l s = some x) : timeB x.1 = true ∧ timeB x.2 = true := by
  unfold clsG at h
  cases hf : l.find? (fun y => decide (y.1 = s)) with
  | none => rw [hf] at h; cases h
  | some y =>
    rw [hf] at h
    obtain rfl := Option.some.inj h
    obtain ⟨j, hj⟩ := List.getElem?_of_mem (List.mem_of_find?_eq_some hf)
    have := step_zero ((check_zero hc).2 j y hj)
    exact ⟨this.2.1, this.2.2.1⟩

theorem rnew_bad (A : Option Addr) (cap : Nat) (l : List Cls) (now : Int) (w : World) (E : Int) (h : IsCls w w.heap.size A l) (hlen : l.length ≤ 1000) (hE : checkE l = E) (h0 : E ≠ 0) :
    Calls Try.prog 32 #[.slice A l.length cap, .int .i64 now] w fun e w' => e = .returned (.tuple #[.pointer none, .int .i64 E]) ∧ Below w.heap.size w w' := by
  have hne : (E == 0) = false := by simpa using h0
  have hne' : (E != 0) = true := by simp [bne, hne]
  have H := Lib.hid (And.intro h hE)
  clear h hE
  go_enter Try.func32, Try.ntmps32
  go_wp2_with fail
  refine (check_lit A cap l w E H.out.1 hlen H.out.2).mono ?_
  rintro e w1 ⟨rfl, b1⟩
  go_wp2_with fail
  go_ret2
  exact ⟨rfl, b1⟩
theorem rnew_late (A : Option Addr) (cap : Nat) (l : List Cls) (now : Int) (w : World) (h : IsCls w w.heap.size A l) (hlen : l.length ≤ 1000) (hE : checkE l = 0) (hn : timeB now = false) :
    Calls Try.prog 32 #[.slice A l.length cap, .int .i64 now] w fun e w' => e = .returned (.tuple #[.pointer none, .int .i64 7]) ∧ Below w.heap.size w w' := by
  have H := Lib.hid (And.intro h (And.intro hE hn))
  clear h hE hn
  go_enter Try.func32, Try.ntmps32
  go_wp2_with fail
  refine (check_lit A cap l w 0 H.out.1 hlen H.out.2.1).mono ?_
  rintro e w1 ⟨rfl, b1⟩
  go_wp2_with fail
  refine (timed_lit now w1 false H.out.2.2).mono ?_
  rintro e w2 ⟨rfl, rfl⟩
  go_wp2_with fail
  go_ret2
  exact ⟨rfl, b1⟩

def headV (mc : Nat) : Array Value := #[.map (some mc), .map none, .int .i64 0]
set_option maxRecDepth 100000 in
set_option maxHeartbeats 4000000 in
theorem rnew_any (A : Option Addr) (cap : Nat) (l : List Cls) (now : Int) (w : World) (h : IsCls w w.heap.size A l) (hE : checkE l = 0) (hn : timeB now = true) :
    Calls Try.prog 32 #[.slice A l.length cap, .int .i64 now] w fun e w' => ∃ rp mc mb, e = .returned (.tuple #[.pointer (some ⟨rp, 0, none⟩), .int .i64 0]) ∧ w.heap.size ≤ rp ∧ w.heap.size ≤ mc ∧ w.heap.size ≤ mb ∧ RatesAt rp mc mb l.length 0 (clsG l) (fun _ _ => none) now w' ∧ Below w.heap.size w w' := by
  have hlen := (check_zero hE).1
  have hmm := @run_makeMap Try.prog
  have H := Lib.hid (And.intro h (And.intro hE hn))
  clear h hE hn
  go_enter Try.func32, Try.ntmps32
  go_wp2_with fail
  refine (check_lit A cap l w 0 H.out.1 (by omega) H.out.2.1).mono ?_
  rintro e w1 ⟨rfl, b1⟩
  have hBw : w.heap.size ≤ w1.heap.size := b1.size
  have B1 := Lib.hid b1
  clear b1
  go_wp2_with fail
  refine (timed_lit now w1 true H.out.2.2).mono ?_
  rintro e w1 ⟨rfl, rfl⟩
  go_wp2_with fail
  have m3 := (World.ownsMap_made w1 Try.prog 9 Rcls).alloc (.cells #[.map (some w1.heap.size), .map none, .int .i64 0] 65)
  have q3 := Blk.new (w1.alloc (.map #[] 0)) 65 (headV w1.heap.size)
  have b3 : Below w.heap.size w ((w1.alloc (.map #[] 0)).alloc (.cells #[.map (some w1.heap.size), .map none, .int .i64 0] 65)) := (B1.out.alloc (by omega) _).alloc (by simp; omega) _
  have s3 : w1.heap.size + 2 ≤ ((w1.alloc (.map #[] 0)).alloc (.cells #[.map (some w1.heap.size), .map none, .int .i64 0] 65)).heap.size := by simp
  rw [World.size_alloc] at q3
  simp only [headV] at q3
  generalize (w1.alloc (.map #[] 0)).alloc (.cells #[.map (some w1.heap.size), .map none, .int .i64 0] 65) = w3 at *
  obtain ⟨M, hM⟩ : ∃ M, w1.heap.size = M := ⟨_, rfl⟩
  rw [hM] at m3 q3 s3 hBw
  rw [hM]
  clear hM
  go_loopw [23] (fun c wr => ∃ (j : Nat) (D : DataW Unit), j ≤ l.length ∧ c = .int .i64 j ∧ wr.ownsMap Try.prog 9 Rcls M j D ∧ Hid (ClsMap D (clsG (l.take j))) ∧ Hid (Blk wr (M + 1) 65 #[.map (some M), .map none, .int .i64 0]) ∧ Below w.heap.size w wr ∧ M + 2 ≤ wr.heap.size) (fun c _ => l.length - (intOf c).toNat)
  case atStart => exact ⟨0, _, by omega, rfl, m3, Lib.hid clsMap_none, Lib.hid q3, b3, s3⟩
  case round =>
    clear m3 q3 b3 s3
    obtain ⟨j, D, hj, rfl, hm, hc, hq, hb, hz⟩ := hrel
    by_cases hlt : j < l.length
    · obtain ⟨b, off, ⟨nm, cp, fl⟩, rfl, hbB, hx, ⟨hs, hcp, hfl⟩, hcell⟩ := H.out.1.at_ hlt
      obtain ⟨m0, m1, m2⟩ := hcell wr hb
      simp only at m0 m1 m2 hs hcp hfl
      have HX := Lib.hid hx
      clear hx hcell
      go_wp2_with fail
      have e4 := hm.alloc (.cells #[.string nm, .int .i64 cp, .int .i64 fl] 31)
      have b4 := hb.alloc (by omega) (.cells #[.string nm, .int .i64 cp, .int .i64 fl] 31)
      have q4 := hq.out.alloc (.cells #[.string nm, .int .i64 cp, .int .i64 fl] 31)
      have p4 := Blk.new wr 31 #[.string nm, .int .i64 cp, .int .i64 fl]
      have z4 : M + 2 ≤ (wr.alloc (.cells #[.string nm, .int .i64 cp, .int .i64 fl] 31)).heap.size := by simp; omega
      generalize wr.alloc (.cells #[.string nm, .int .i64 cp, .int .i64 fl] 31) = w4 at *
      have c0 := q4.c3.1.1
      obtain ⟨⟨p0, p1, p2⟩, -⟩ := p4.c3
      clear m0 m1 m2 p4 hm hb hq
      refine wp_region_still_tail 7 (by kernel_rfl) (by kernel_rfl) ?_
      simp only [List.take_succ_cons, List.take_zero, List.drop_succ_cons, List.drop_zero]
      repeat still_step
      refine wpStill_nil ?_
      have e5 : w4.drew.ownsMap Try.prog 9 Rcls M j D := e4
      change wpList _ _ _ _ _ w4.drew
      go_wp2_with (at_mapUpdate; refine wpList_mapUpdate_own _ rfl _ _ _ 62 rfl 9 31 lawS Try.underlying62 _ M j D rfl e5 (by unfold maxLen; omega) _ _ (.string nm.data.toList) rfl rfl (str_key nm hs) (clsD nm cp fl) [] (Rcls_mk nm cp fl) ?_; intro w8 hown8 hgrow8)
      have ht : l.take (j + 1) = l.take j ++ [(nm, cp, fl)] := by rw [List.take_add_one, HX.out]; rfl
      have hst := step_zero ((check_zero H.out.2.1).2 j _ HX.out)
      refine ⟨⟨j + 1, _, by omega, by go_num, hown8, Lib.hid ?_, Lib.hid (Blk.grown (Blk.drew q4) hgrow8 (by simp)), (b4.drew).grown hgrow8 (by simp; omega) (fun k e => by cases e; omega), by have := hgrow8.size; simp at this; omega⟩, by simp [intOf]; omega⟩
      rw [ht]
      exact hc.out.put e5.isMap nm cp fl hs (clsG_new hst.2.2.2) (fun s' h' => clsG_old h')
    · obtain rfl : j = l.length := by omega
      have hq' := hq.out
      rw [List.take_length] at hc
      clear hq
      have HQ := Lib.hid hq'
      clear hq'
      go_wp2_with fail
      refine (rbegin_yes (M + 1) M (.map none) 0 now wr HQ.out H.out.2.2).mono ?_
      rintro e w5 ⟨rfl, mb, hmb, hq5, hm5, ho5⟩
      go_wp2_with fail
      go_ret2
      refine ⟨M + 1, M, mb, rfl, by omega, by omega, by omega, ⟨hq5, ⟨D, map_only hm ho5 (by simp), hc.out⟩, ⟨_, hm5, bktMap_none⟩, by omega⟩, hb.trans (ho5.below (by omega) (by simp; omega))⟩
end Go.Proofs.Ytikpbhfjmlfooaa
