/-
  The walks of Great, dfa.State and dfa.Run. Conditions: the automaton lies in memory.
-/
import Derived.Test.YtgkpgjbgcimijaaDoorAuRight
import Derived.Test.YtgkpgjbgcimijaaDoorAuSame
namespace Go.Proofs.YtgkpgjbgcimijaaDoor
set_option linter.unusedVariables false
set_option linter.unusedSimpArgs false
open Go.RowKit Go.Maps Go.Sort Go.ChangeShapes Go.WideShapes

/-- the byte at a place, as a number -/
def byt (s : ByteArray) (i : Nat) : Nat := (s.get! i).toNat
theorem byt_lt (s : ByteArray) (i : Nat) : byt s i < 256 := (s.get! i).toNat_lt
theorem get_at (s : ByteArray) (i : Nat) (h : i < s.size) : s.get! i = s[i]'h := by
  have h' : i < s.data.size := h
  show s.data[i]! = s.data[i]
  exact getElem!_pos s.data i h'
theorem byt_at (s : ByteArray) (i : Nat) (h : i < s.size) : (s[i]'h).toNat = byt s i := by rw [byt, get_at s i h]
def bytesTo (s : ByteArray) (n : Nat) : List Nat := (List.range n).map (byt s)
theorem bytesTo_succ (s : ByteArray) (n : Nat) : bytesTo s (n + 1) = bytesTo s n ++ [byt s n] := by simp [bytesTo, List.range_succ]
theorem bytesTo_in (s : ByteArray) (n : Nat) : Bytes (bytesTo s n) := fun b hb => by
  obtain ⟨i, hi, rfl⟩ := List.mem_map.1 hb
  exact byt_lt s i
def DfaI.blk (D : DfaI) : Nat → Nat := blkF D.z
def langD (D : DfaI) : Lang := D.aut.lang D.blk
def stateD (D : DfaI) (s : ByteArray) (n : Nat) : Nat := D.aut.at_ D.blk (bytesTo s n)
def stateI (D : DfaI) (s : ByteArray) : Int := if rightD D = true then ((stateD D s s.size : Nat) : Int) else -1
def runD (D : DfaI) (s : ByteArray) : Bool := rightD D && langD D (bytesTo s s.size)
theorem RightD.state_lt {D : DfaI} (h : RightD D) (s : ByteArray) (n : Nat) : stateD D s n < D.next.length := by
  have := Aut.at_lt h.ok h.blk.1.blk (bytesTo_in s n)
  unfold stateD
  rw [← D.nx_len]
  exact this
theorem RightD.step {D : DfaI} (h : RightD D) {p b : Nat} (hp : p < D.next.length) (hb : b < 256) :
    ∃ l, D.next[p]? = some l ∧ D.block[b]? = some ((D.blk b : Nat) : Int) ∧ l[D.blk b]? = some ((D.aut.nx p (D.blk b) : Nat) : Int) ∧ D.aut.nx p (D.blk b) < D.next.length ∧ D.blk b < l.length := by
  have hk := h.blk.1.blk.lt b hb
  have hz := ok_at h.blk.1.ok hb
  have hl256 := h.blk.2
  have hl : D.next[p]? = some D.next[p] := List.getElem?_eq_getElem hp
  obtain ⟨h1, h2⟩ := h.rows _ (List.mem_of_getElem? hl)
  have hw0 := h.w0
  have hkl : D.blk b < D.next[p].length := by
    have : D.blk b < (wideI D).toNat := hk
    omega
  refine ⟨_, hl, ?_, ?_, ?_, hkl⟩
  · have hzb : D.z b = D.block[b]'(by omega) := by
      unfold DfaI.z
      rw [List.getD_eq_getElem?_getD, List.getElem?_eq_getElem (by omega)]
      rfl
    rw [List.getElem?_eq_getElem (by omega), ← hzb]
    congr 1
    unfold DfaI.blk blkF
    omega
  · have e : D.aut.nx p (D.blk b) = (D.next[p][D.blk b]'hkl).toNat := by
      show nxtF D.nx p (D.blk b) = _
      unfold nxtF
      have e1 : D.nx.getD p [] = D.next[p].map Int.toNat := by
        rw [List.getD_eq_getElem?_getD, DfaI.nx, List.getElem?_map, hl]
        rfl
      rw [e1, List.getD_eq_getElem?_getD, List.getElem?_map, List.getElem?_eq_getElem hkl]
      rfl
    rw [List.getElem?_eq_getElem hkl, e]
    congr 1
    have := (h2 _ (List.getElem_mem hkl)).1
    omega
  · have := nxtF_lt h.nxt (n := p) (k := D.blk b) (by rw [D.nx_len]; exact hp) hk
    rw [D.nx_len] at this
    exact this

def greatD (D : DfaI) : Bool := (decide (60 < D.next.length) || decide (60 < D.fin.length) || decide (300 < D.block.length)) || D.next.any fun l => decide (260 < l.length)
structure SmallD (D : DfaI) : Prop where
  many : D.next.length ≤ 60
  fin : D.fin.length ≤ 60
  block : D.block.length ≤ 300
  rows : ∀ l ∈ D.next, l.length ≤ 260
theorem greatD_small {D : DfaI} (h : greatD D = false) : SmallD D := by
  simp only [greatD, Bool.or_eq_false_iff, decide_eq_false_iff_not, List.any_eq_false, decide_eq_true_eq] at h
  obtain ⟨⟨⟨h1, h2⟩, h3⟩, h4⟩ := h
  exact ⟨by omega, by omega, by omega, fun l hl => by have := h4 l hl; omega⟩

set_option maxHeartbeats 4000000 in
set_option maxRecDepth 100000 in
theorem great_any (v : Value) (D : DfaI) (w : World) (h : DfaAt w v D) (hD : D.In) : Calls Tryd.prog 6 #[v] w fun e w' => e = .returned (.bool (greatD D)) ∧ Below w.heap.size w w' := by
  obtain ⟨fv, bv, nv, rfl, hf, hb, hn⟩ := h
  obtain ⟨af, cf, rfl, -⟩ := id hf
  obtain ⟨ab, cb, rfl, -⟩ := id hb
  obtain ⟨an, cn, rfl, -⟩ := id hn
  have hF := hD.fin
  have hM := hD.many
  have hK := hD.block.1
  obtain ⟨S, hS⟩ : ∃ S, D.start = S := ⟨_, rfl⟩
  obtain ⟨M, hMe⟩ : ∃ M, D.next.length = M := ⟨_, rfl⟩
  obtain ⟨F, hFe⟩ : ∃ F, D.fin.length = F := ⟨_, rfl⟩
  obtain ⟨K, hKe⟩ : ∃ K, D.block.length = K := ⟨_, rfl⟩
  have hG : greatD D = ((decide (60 < M) || decide (60 < F) || decide (300 < K)) || D.next.any fun l => decide (260 < l.length)) := by rw [greatD, hMe, hFe, hKe]
  rw [hFe] at hF
  rw [hMe] at hM
  rw [hKe] at hK
  simp only [hS, hMe, hFe, hKe]
  have hbw := (Below.refl w.heap.size w).alloc (Nat.le_refl _) (.cells #[.int .i64 S, .slice af F cf, .slice ab K cb, .slice an M cn] 26)
  have hq := Blk.new w 26 #[.int .i64 S, .slice af F cf, .slice ab K cb, .slice an M cn]
  obtain ⟨⟨y0, y1, y2, y3⟩, -⟩ := hq.c4
  have H := Lib.hid (And.intro (hn.below hbw) (And.intro hD (And.intro hMe (And.intro hG hbw))))
  clear hf hb hn hbw hq hD hMe hFe hG hS hKe
  go_enter Tryd.func6, Tryd.ntmps6
  by_cases k1 : 60 < M
  · go_wp2_with fail
    go_ret
    exact ⟨ret_bool (by rw [H.out.2.2.2.1]; simp; try omega), H.out.2.2.2.2⟩
  by_cases k2 : 60 < F
  · go_wp2_with fail
    go_ret
    exact ⟨ret_bool (by rw [H.out.2.2.2.1]; simp; try omega), H.out.2.2.2.2⟩
  by_cases k3 : 300 < K
  · go_wp2_with fail
    go_ret
    exact ⟨ret_bool (by rw [H.out.2.2.2.1]; simp; try omega), H.out.2.2.2.2⟩
  have hG2 : greatD D = D.next.any fun l => decide (260 < l.length) := by
    rw [H.out.2.2.2.1]
    simp only [decide_eq_false k1, decide_eq_false k2, decide_eq_false k3, Bool.false_or]
  have HG := Lib.hid hG2
  clear hG2
  go_wp2_with fail
  go_loop [3] (fun c => ∃ j : Nat, j ≤ M ∧ c = .int .i64 j ∧ Hid ((D.next.take j).any (fun l => decide (260 < l.length)) = false)) (fun c => M - (intOf c).toNat)
  case atStart => exact ⟨0, by omega, rfl, Lib.hid rfl⟩
  case round =>
    obtain ⟨j, hj, rfl, hok⟩ := hrel
    have hlen := H.out.2.2.1
    by_cases hlt : j < M
    · obtain ⟨l, hl⟩ : ∃ l, D.next[j]? = some l := ⟨_, List.getElem?_eq_getElem (by omega)⟩
      have hlm := List.mem_of_getElem? hl
      have hlz := (H.out.2.1.rows l hlm).1
      obtain ⟨b, off, a, c, rfl, m0, -⟩ := H.out.1.get hl
      have HL := Lib.hid (And.intro hl hlm)
      clear hl hlm hlen
      by_cases k4 : 260 < l.length
      · go_wp2_with fail
        go_ret
        refine ⟨ret_bool ?_, H.out.2.2.2.2⟩
        rw [HG.out]
        exact (List.any_eq_true.2 ⟨l, HL.out.2, by simpa using k4⟩).symm
      · go_wp2_with fail
        go_round
        case rel =>
          refine ⟨j + 1, by omega, by go_num, Lib.hid ?_⟩
          have ht : D.next.take (j + 1) = D.next.take j ++ [l] := by rw [List.take_add_one, HL.out.1]; rfl
          rw [ht, List.any_append, hok.out]
          simp; omega
        case measure => simp [intOf]; omega
    · obtain rfl : j = M := by omega
      have hok' := hok.out
      rw [List.take_of_length_le (by omega)] at hok'
      have HOK := Lib.hid hok'
      clear hok' hok hlen
      go_wp2_with fail
      go_ret
      exact ⟨ret_bool (by rw [HG.out, HOK.out]), H.out.2.2.2.2⟩

set_option maxHeartbeats 4000000 in
set_option maxRecDepth 100000 in
theorem state_any (v : Value) (s : ByteArray) (D : DfaI) (w : World) (h : DfaAt w v D) (hD : D.In) (hs : s.size ≤ maxLen) : Calls Tryd.prog 35 #[v, .string s] w fun e w' => e = .returned (.int .i64 (stateI D s)) ∧ Below w.heap.size w w' := by
  have hdr := fun W => dright_any v D W
  obtain ⟨fv, bv, nv, rfl, hf, hb, hn⟩ := id h
  have hbw := (Below.refl w.heap.size w).alloc (Nat.le_refl _) (.cells #[.int .i64 D.start, fv, bv, nv] 26)
  have hq := Blk.new w 26 #[.int .i64 D.start, fv, bv, nv]
  obtain ⟨⟨y0, y1, y2, y3⟩, -⟩ := hq.c4
  have hz0 : (w.alloc (.cells #[.int .i64 D.start, fv, bv, nv] 26)).heap.size = w.heap.size + 1 := by simp
  have H := Lib.hid (And.intro h (And.intro hD (And.intro hbw hq)))
  clear hf hb hn hq hD h
  go_enter Tryd.func35, Tryd.ntmps35
  go_wp2_with fail
  refine (hdr _ (H.out.1.below hbw) H.out.2.1).mono ?_
  rintro e w1 ⟨rfl, b1⟩
  rw [hz0] at b1
  have hz1 := b1.size
  rw [hz0] at hz1
  have HW := Lib.hid (And.intro (hbw.trans (b1.mono (by omega))) (H.out.2.2.2.below b1 (by omega)))
  clear hdr hbw b1 y0 y1 y2 y3
  obtain ⟨⟨y0, y1, y2, y3⟩, -⟩ := HW.out.2.c4
  cases hr : rightD D with
  | false =>
    have hres : stateI D s = -1 := by unfold stateI; rw [if_neg (by rw [hr]; decide)]
    have HRES := Lib.hid hres
    clear hr hres
    go_wp2_with fail
    go_ret
    exact ⟨ret_int (by rw [HRES.out]), HW.out.1⟩
  | true =>
    have hR := rightD_iff.1 hr
    have HR := Lib.hid hR
    have hs0 := hR.s0
    have hs1 := hR.s1
    have hm2 := hR.m2
    obtain ⟨p0, hp0⟩ : ∃ p0 : Nat, D.start = (p0 : Int) := ⟨D.start.toNat, by omega⟩
    have hp00 : stateD D s 0 = p0 := by
      show D.start.toNat = p0
      omega
    have HP := Lib.hid hp00
    rw [hp0] at y0
    clear hr hR hp00 hs0 hs1 hp0
    unfold maxLen at hs
    go_wp2_with fail
    go_loopw [5, 6, 14] (fun c5 _ c wr => ∃ j : Nat, j ≤ s.size ∧ c = .int .i64 j ∧ c5 = .int .i64 (stateD D s j : Nat) ∧ Below w1.heap.size w1 wr) (fun _ _ c _ => s.size - (intOf c).toNat)
    case atStart => exact ⟨0, by omega, rfl, by rw [HP.out], Below.refl _ _⟩
    case round =>
      obtain ⟨j, hj, rfl, rfl, hB⟩ := hrel
      have hpl := HR.out.state_lt s j
      have hnext : stateD D s (j + 1) = D.aut.nx (stateD D s j) (D.blk (byt s j)) := by
        unfold stateD
        rw [bytesTo_succ, Aut.at_app]
      obtain ⟨p, hp⟩ : ∃ p, stateD D s j = p := ⟨_, rfl⟩
      rw [hp] at hpl hnext
      simp only [hp]
      have HP2 := Lib.hid hp
      clear hp
      by_cases hlt : j < s.size
      · have hbt := byt_at s j hlt
        have hb256 := byt_lt s j
        obtain ⟨l, g1, g2, g3, g4, g5⟩ := HR.out.step hpl hb256
        obtain ⟨k, hk⟩ : ∃ k, D.blk (byt s j) = k := ⟨_, rfl⟩
        rw [hk] at g2 g3 g4 g5 hnext
        obtain ⟨q, hq⟩ : ∃ q, D.aut.nx p k = q := ⟨_, rfl⟩
        rw [hq] at g3 g4 hnext
        have HQ := Lib.hid hnext
        have hBw : Below w.heap.size w wr := HW.out.1.trans (hB.mono HW.out.1.size)
        obtain ⟨fv, bv, nv, he, -, hb3, hn3⟩ := H.out.1.below hBw
        obtain ⟨rfl, rfl, rfl⟩ : _ ∧ _ ∧ _ := by simpa using he
        obtain ⟨ab, cb, rfl, -⟩ := id hb3
        obtain ⟨an, cn, rfl, -⟩ := id hn3
        obtain ⟨b2, o2, a2, c2, rfl, m2, n2⟩ := hn3.get g1
        obtain ⟨b3, o3, rfl, m3⟩ := hb3.get g2
        obtain ⟨b4, o4, rfl, m4⟩ := n2.get g3
        have hbl := HR.out.blk.2
        have y0' := (hB.cell (p := ⟨w.heap.size, 0, none⟩) (by show w.heap.size < w1.heap.size; omega)).trans y0
        have y2' := (hB.cell (p := ⟨w.heap.size, 2, none⟩) (by show w.heap.size < w1.heap.size; omega)).trans y2
        have y3' := (hB.cell (p := ⟨w.heap.size, 3, none⟩) (by show w.heap.size < w1.heap.size; omega)).trans y3
        clear hk hq hnext he hBw g1 g2 g3 hb3 hn3 n2 y0 y1 y2 y3
        rw [hbl] at y2'
        go_wp2_with fail
        go_quiet (fail)
        have B2 : Below w1.heap.size w1 (wr.drewN nq) := hB.trans ((below_regrownN wr nq).mono hB.size)
        generalize wr.drewN nq = w2 at *
        clear m2 m3 m4 y0' y2' y3'
        go_wp2_with fail
        go_roundw
        case rel => exact ⟨j + 1, by omega, by go_num, by rw [HQ.out], B2⟩
        case measure => simp [intOf]; omega
      · obtain rfl : j = s.size := by omega
        have hres : stateI D s = (p : Int) := by unfold stateI; rw [if_pos (rightD_iff.2 HR.out), HP2.out]
        have HRES := Lib.hid hres
        clear hres
        go_wp2_with fail
        go_ret
        exact ⟨ret_int (by rw [HRES.out]), HW.out.1.trans (hB.mono HW.out.1.size)⟩
theorem runD_eq (D : DfaI) (s : ByteArray) : runD D s = (rightD D && D.fin.getD (stateD D s s.size) false) := rfl
set_option maxHeartbeats 4000000 in
set_option maxRecDepth 100000 in
theorem run_any (v : Value) (s : ByteArray) (D : DfaI) (w : World) (h : DfaAt w v D) (hD : D.In) (hs : s.size ≤ maxLen) : Calls Tryd.prog 16 #[v, .string s] w fun e w' => e = .returned (.bool (runD D s)) ∧ Below w.heap.size w w' := by
  have hdr := fun W => state_any v s D W
  obtain ⟨fv, bv, nv, rfl, hf, hb, hn⟩ := id h
  have hbw := (Below.refl w.heap.size w).alloc (Nat.le_refl _) (.cells #[.int .i64 D.start, fv, bv, nv] 26)
  have hq := Blk.new w 26 #[.int .i64 D.start, fv, bv, nv]
  obtain ⟨⟨y0, y1, y2, y3⟩, -⟩ := hq.c4
  have hz0 : (w.alloc (.cells #[.int .i64 D.start, fv, bv, nv] 26)).heap.size = w.heap.size + 1 := by simp
  have H := Lib.hid (And.intro h (And.intro hD (And.intro hbw hq)))
  clear hf hb hn hq hD h
  go_enter Tryd.func16, Tryd.ntmps16
  go_wp2_with fail
  refine (hdr _ (H.out.1.below hbw) H.out.2.1 hs).mono ?_
  rintro e w1 ⟨rfl, b1⟩
  rw [hz0] at b1
  have hz1 := b1.size
  rw [hz0] at hz1
  have HW := Lib.hid (And.intro (hbw.trans (b1.mono (by omega))) (H.out.2.2.2.below b1 (by omega)))
  clear hdr hbw b1 y0 y1 y2 y3
  obtain ⟨⟨y0, y1, y2, y3⟩, -⟩ := HW.out.2.c4
  cases hr : rightD D with
  | false =>
    have hres : stateI D s = -1 := by unfold stateI; rw [if_neg (by rw [hr]; decide)]
    have hrun : runD D s = false := by rw [runD_eq, hr]; rfl
    have HRES := Lib.hid hrun
    rw [hres]
    clear hr hres hrun
    go_wp2_with fail
    go_ret
    exact ⟨ret_bool HRES.out.symm, HW.out.1⟩
  | true =>
    have hR := rightD_iff.1 hr
    have hpl := hR.state_lt s s.size
    have hfl := hR.fin
    have hm2 := hR.m2
    obtain ⟨p, hp⟩ : ∃ p, stateD D s s.size = p := ⟨_, rfl⟩
    have hres : stateI D s = (p : Int) := by unfold stateI; rw [if_pos hr, hp]
    have hrun : runD D s = D.fin.getD p false := by rw [runD_eq, hr, hp]; rfl
    rw [hp] at hpl
    obtain ⟨fv', bv', nv', he, hf3, -, -⟩ := H.out.1.below HW.out.1
    obtain ⟨rfl, rfl, rfl⟩ : _ ∧ _ ∧ _ := by simpa using he
    obtain ⟨b1, o1, c1, rfl, m1⟩ := hf3.get (n := p) (by omega)
    obtain ⟨B, hB⟩ : ∃ B, D.fin.getD p false = B := ⟨_, rfl⟩
    have m1' : w1.cell? ⟨b1, o1 + p, none⟩ = some (.bool B) := by rw [m1]; simp only [hB]
    rw [hB] at hrun
    have HRES := Lib.hid hrun
    rw [hres]
    rw [hfl] at y1
    clear hR hr hres hrun hp he hf3 m1 hB
    go_wp2_with fail
    go_ret
    exact ⟨ret_bool HRES.out.symm, HW.out.1⟩
end Go.Proofs.YtgkpgjbgcimijaaDoor
