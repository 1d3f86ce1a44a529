/-
  The walks of the reference's State and Run. Conditions: the automaton lies in memory.
-/
import Derived.Test.YtmmlakheimfijaaGreatDoorJDfa
namespace Go.Proofs.YtmmlakheimfijaaGreatDoor
set_option linter.unusedVariables false
set_option linter.unusedSimpArgs false
open Go.RowKit Go.Maps Go.Sort Go.ChangeShapes Go.WideShapes

set_option maxHeartbeats 4000000 in
set_option maxRecDepth 100000 in
theorem refstate_any (v : Value) (s : ByteArray) (D : DfaI) (w : World) (h : DfaAt w v D) (hD : D.In) (hs : s.size ≤ maxLen) : Calls Tryz.prog 36 #[v, .string s] w fun e w' => e = .returned (.int .i64 (stateI D s)) ∧ Below w.heap.size w w' := by
  have hdr := fun W => refdright_any v D W
  obtain ⟨fv, bv, nv, rfl, hf, hb, hn⟩ := id h
  have hbw := (Below.refl w.heap.size w).alloc (Nat.le_refl _) (.cells #[.int .i64 D.start, fv, bv, nv] 26)
  have hq := Blk.new w 26 #[.int .i64 D.start, fv, bv, nv]
  obtain ⟨⟨y0, y1, y2, y3⟩, -⟩ := hq.c4
  have hz0 : (w.alloc (.cells #[.int .i64 D.start, fv, bv, nv] 26)).heap.size = w.heap.size + 1 := by simp
  have H := Lib.hid (And.intro h (And.intro hD (And.intro hbw hq)))
  clear hf hb hn hq hD h
  go_enter Tryz.func36, Tryz.ntmps36
  go_wp2_with fail
  refine (hdr _ (H.out.1.below hbw) H.out.2.1).mono ?_
  rintro e w1 ⟨rfl, b1⟩
  rw [hz0] at b1
  have hz1 := b1.size
  rw [hz0] at hz1
  have HW := Lib.hid (And.intro (hbw.trans (b1.mono (by omega))) (H.out.2.2.2.below b1 (by omega)))
  clear hdr hbw b1 y0 y1 y2 y3
  obtain ⟨⟨y0, y1, y2, y3⟩, -⟩ := HW.out.2.c4
  cases hr : rightD D with
  | false =>
    have hres : stateI D s = -1 := by unfold stateI; rw [if_neg (by rw [hr]; decide)]
    have HRES := Lib.hid hres
    clear hr hres
    go_wp2_with fail
    go_ret
    exact ⟨ret_int (by rw [HRES.out]), HW.out.1⟩
  | true =>
    have hR := rightD_iff.1 hr
    have HR := Lib.hid hR
    have hs0 := hR.s0
    have hs1 := hR.s1
    have hm2 := hR.m2
    obtain ⟨p0, hp0⟩ : ∃ p0 : Nat, D.start = (p0 : Int) := ⟨D.start.toNat, by omega⟩
    have hp00 : stateD D s 0 = p0 := by
      show D.start.toNat = p0
      omega
    have HP := Lib.hid hp00
    rw [hp0] at y0
    clear hr hR hp00 hs0 hs1 hp0
    unfold maxLen at hs
    go_wp2_with fail
    go_loopw [5, 6] (fun c5 c wr => ∃ j : Nat, j ≤ s.size ∧ c = .int .i64 j ∧ c5 = .int .i64 (stateD D s j : Nat) ∧ Below w1.heap.size w1 wr) (fun _ c _ => s.size - (intOf c).toNat)
    case atStart => exact ⟨0, by omega, rfl, by rw [HP.out], Below.refl _ _⟩
    case round =>
      obtain ⟨j, hj, rfl, rfl, hB⟩ := hrel
      have hpl := HR.out.state_lt s j
      have hnext : stateD D s (j + 1) = D.aut.nx (stateD D s j) (D.blk (byt s j)) := by
        unfold stateD
        rw [bytesTo_succ, Aut.at_app]
      obtain ⟨p, hp⟩ : ∃ p, stateD D s j = p := ⟨_, rfl⟩
      rw [hp] at hpl hnext
      simp only [hp]
      have HP2 := Lib.hid hp
      clear hp
      by_cases hlt : j < s.size
      · have hbt := byt_at s j hlt
        have hb256 := byt_lt s j
        obtain ⟨l, g1, g2, g3, g4, g5⟩ := HR.out.step hpl hb256
        obtain ⟨k, hk⟩ : ∃ k, D.blk (byt s j) = k := ⟨_, rfl⟩
        rw [hk] at g2 g3 g4 g5 hnext
        obtain ⟨q, hq⟩ : ∃ q, D.aut.nx p k = q := ⟨_, rfl⟩
        rw [hq] at g3 g4 hnext
        have HQ := Lib.hid hnext
        have hBw : Below w.heap.size w wr := HW.out.1.trans (hB.mono HW.out.1.size)
        obtain ⟨fv, bv, nv, he, -, hb3, hn3⟩ := H.out.1.below hBw
        obtain ⟨rfl, rfl, rfl⟩ : _ ∧ _ ∧ _ := by simpa using he
        obtain ⟨ab, cb, rfl, -⟩ := id hb3
        obtain ⟨an, cn, rfl, -⟩ := id hn3
        obtain ⟨b2, o2, a2, c2, rfl, m2, n2⟩ := hn3.get g1
        obtain ⟨b3, o3, rfl, m3⟩ := hb3.get g2
        obtain ⟨b4, o4, rfl, m4⟩ := n2.get g3
        have hbl := HR.out.blk.2
        have y0' := (hB.cell (p := ⟨w.heap.size, 0, none⟩) (by show w.heap.size < w1.heap.size; omega)).trans y0
        have y2' := (hB.cell (p := ⟨w.heap.size, 2, none⟩) (by show w.heap.size < w1.heap.size; omega)).trans y2
        have y3' := (hB.cell (p := ⟨w.heap.size, 3, none⟩) (by show w.heap.size < w1.heap.size; omega)).trans y3
        clear hk hq hnext he hBw g1 g2 g3 hb3 hn3 n2 y0 y1 y2 y3
        rw [hbl] at y2'
        go_wp2_with fail
        go_quiet (fail)
        have B2 : Below w1.heap.size w1 (wr.drewN nq) := hB.trans ((below_regrownN wr nq).mono hB.size)
        generalize wr.drewN nq = w2 at *
        clear m2 m3 m4 y0' y2' y3'
        go_wp2_with fail
        go_roundw
        case rel => exact ⟨j + 1, by omega, by go_num, by rw [HQ.out], B2⟩
        case measure => simp [intOf]; omega
      · obtain rfl : j = s.size := by omega
        have hres : stateI D s = (p : Int) := by unfold stateI; rw [if_pos (rightD_iff.2 HR.out), HP2.out]
        have HRES := Lib.hid hres
        clear hres
        go_wp2_with fail
        go_ret
        exact ⟨ret_int (by rw [HRES.out]), HW.out.1.trans (hB.mono HW.out.1.size)⟩
set_option maxHeartbeats 4000000 in
set_option maxRecDepth 100000 in
theorem refrun_any (v : Value) (s : ByteArray) (D : DfaI) (w : World) (h : DfaAt w v D) (hD : D.In) (hs : s.size ≤ maxLen) : Calls Tryz.prog 17 #[v, .string s] w fun e w' => e = .returned (.bool (runD D s)) ∧ Below w.heap.size w w' := by
  have hdr := fun W => refstate_any v s D W
  obtain ⟨fv, bv, nv, rfl, hf, hb, hn⟩ := id h
  have hbw := (Below.refl w.heap.size w).alloc (Nat.le_refl _) (.cells #[.int .i64 D.start, fv, bv, nv] 26)
  have hq := Blk.new w 26 #[.int .i64 D.start, fv, bv, nv]
  obtain ⟨⟨y0, y1, y2, y3⟩, -⟩ := hq.c4
  have hz0 : (w.alloc (.cells #[.int .i64 D.start, fv, bv, nv] 26)).heap.size = w.heap.size + 1 := by simp
  have H := Lib.hid (And.intro h (And.intro hD (And.intro hbw hq)))
  clear hf hb hn hq hD h
  go_enter Tryz.func17, Tryz.ntmps17
  go_wp2_with fail
  refine (hdr _ (H.out.1.below hbw) H.out.2.1 hs).mono ?_
  rintro e w1 ⟨rfl, b1⟩
  rw [hz0] at b1
  have hz1 := b1.size
  rw [hz0] at hz1
  have HW := Lib.hid (And.intro (hbw.trans (b1.mono (by omega))) (H.out.2.2.2.below b1 (by omega)))
  clear hdr hbw b1 y0 y1 y2 y3
  obtain ⟨⟨y0, y1, y2, y3⟩, -⟩ := HW.out.2.c4
  cases hr : rightD D with
  | false =>
    have hres : stateI D s = -1 := by unfold stateI; rw [if_neg (by rw [hr]; decide)]
    have hrun : runD D s = false := by rw [runD_eq, hr]; rfl
    have HRES := Lib.hid hrun
    rw [hres]
    clear hr hres hrun
    go_wp2_with fail
    go_ret
    exact ⟨ret_bool HRES.out.symm, HW.out.1⟩
  | true =>
    have hR := rightD_iff.1 hr
    have hpl := hR.state_lt s s.size
    have hfl := hR.fin
    have hm2 := hR.m2
    obtain ⟨p, hp⟩ : ∃ p, stateD D s s.size = p := ⟨_, rfl⟩
    have hres : stateI D s = (p : Int) := by unfold stateI; rw [if_pos hr, hp]
    have hrun : runD D s = D.fin.getD p false := by rw [runD_eq, hr, hp]; rfl
    rw [hp] at hpl
    obtain ⟨fv', bv', nv', he, hf3, -, -⟩ := H.out.1.below HW.out.1
    obtain ⟨rfl, rfl, rfl⟩ : _ ∧ _ ∧ _ := by simpa using he
    obtain ⟨b1, o1, c1, rfl, m1⟩ := hf3.get (n := p) (by omega)
    obtain ⟨B, hB⟩ : ∃ B, D.fin.getD p false = B := ⟨_, rfl⟩
    have m1' : w1.cell? ⟨b1, o1 + p, none⟩ = some (.bool B) := by rw [m1]; simp only [hB]
    rw [hB] at hrun
    have HRES := Lib.hid hrun
    rw [hres]
    rw [hfl] at y1
    clear hR hr hres hrun hp he hf3 m1 hB
    go_wp2_with fail
    go_ret
    exact ⟨ret_bool HRES.out.symm, HW.out.1⟩
end Go.Proofs.YtmmlakheimfijaaGreatDoor
