/-
  The walk of DiskPlays. Conditions: the inputs lie as Go's.
-/
import Derived.Test.YtmjhomhganaceaaDkPlay
import Derived.Test.YtmjhomhganaceaaDkTorn
import Derived.Test.YtmjhomhganaceaaSplit
import Derived.Deep.DeepCutAuto
import Derived.Deep.LoopGhost
namespace Go.Proofs.Ytmjhomhganaceaa
set_option linter.unusedVariables false
set_option linter.unusedSimpArgs false
open Go.RowKit Go.Maps Go.Sort

/-- acts that came in -/
structure IsActs (w : World) (B : Nat) (A : Option Addr) (l : List (Int × Int × ByteArray)) : Prop where
  place : l = [] ∨ ∃ b off, A = some ⟨b, off, none⟩ ∧ b < B ∧ ∀ j x, l[j]? = some x → w.cell? ⟨b, off + j * 3, none⟩ = some (.int .i64 x.1) ∧ w.cell? ⟨b, off + (j * 3 + 1), none⟩ = some (.int .i64 x.2.1) ∧ w.cell? ⟨b, off + (j * 3 + 2), none⟩ = some (.string x.2.2)
  ins : ∀ x ∈ l, (Lit.int .i64 x.1).wf = true ∧ (Lit.int .i64 x.2.1).wf = true ∧ x.2.2.size ≤ maxLen
theorem IsCr.below {w w' : World} {B : Nat} {A : Option Addr} {cs : List (Int × Int)} (h : IsCr w B A cs) (hb : Below B w w') {B' : Nat} (hB : B ≤ B') : IsCr w' B' A cs :=
  ⟨h.place.imp id fun ⟨b, off, e, hbB, hc⟩ => ⟨b, off, e, by omega, fun j x hj => ⟨(hb.cell (p := ⟨b, _, none⟩) hbB).trans (hc j x hj).1, (hb.cell (p := ⟨b, _, none⟩) hbB).trans (hc j x hj).2⟩⟩, h.ins⟩

/-- what holds between two acts -/
structure PlayAt (B n : Nat) (A : Option Addr) (cap : Nat) (cs : List (Int × Int)) (r : Nat) (w w' : World) (d g m : Nat) (F : List UInt8) (wr : Nat) (dn : Bool) (v : Value) : Prop where
  disk : DiskAt d g m n F (crashAt cs) wr dn w'
  ref : Blk w' r 44 #[v, .slice A cs.length cap, .int .i64 wr, .bool dn]
  str : StrAt w' v n (bsOf n F)
  below : Below B w w'
  hd : B ≤ d
  hg : B ≤ g
theorem PlayAt.grow {B n : Nat} {A : Option Addr} {cap : Nat} {cs : List (Int × Int)} {r : Nat} {w w' w'' : World} {d g m : Nat} {F : List UInt8} {wr : Nat} {dn : Bool} {v : Value}
    (h : PlayAt B n A cap cs r w w' d g m F wr dn v) (hB : B ≤ w'.heap.size) (hb : Below w'.heap.size w' w'') : PlayAt B n A cap cs r w w'' d g m F wr dn v :=
  ⟨h.disk.keep hb, h.ref.below hb h.ref.lt, h.str.below hb, h.below.trans (hb.mono hB), h.hd, h.hg⟩
theorem DiskAt.row {d g m n : Nat} {F : List UInt8} {cf : Int → Option Nat} {wr : Nat} {dn : Bool} {w : World} (h : DiskAt d g m n F cf wr dn w) : Blk w g 54 (byteCells F).toArray := by
  obtain ⟨k, D, h0, h4, h5, h6, h7, h8⟩ := h
  exact h6
/-- the disk alone turns -/
theorem PlayAt.turn {B n : Nat} {A : Option Addr} {cap : Nat} {cs : List (Int × Int)} {r : Nat} {w w' w'' : World} {d g m : Nat} {F F' : List UInt8} {wr wr' : Nat} {dn dn' : Bool} {v : Value}
    (h : PlayAt B n A cap cs r w w' d g m F wr dn v) (hB : B ≤ w'.heap.size) (hd : DiskAt d g m n F' (crashAt cs) wr' dn' w'') (ho : Only [d, g] w' w'') :
    DiskAt d g m n F' (crashAt cs) wr' dn' w'' ∧ Blk w'' r 44 #[v, .slice A cs.length cap, .int .i64 wr, .bool dn] ∧ StrAt w'' v n (bsOf n F) ∧ Below B w w'' := by
  refine ⟨hd, h.ref.only ho ?_, h.str.only ho ?_, h.below.trans (ho.below hB (by have := h.hd; have := h.hg; simp; omega))⟩
  · have h1 := Blk.ne_ h.ref h.disk.head (by decide)
    have h2 := Blk.ne_ h.ref h.disk.row (by decide)
    simp [h1, h2]
  · intro b cs' hm hb
    simp at hm
    rcases hm with rfl | rfl
    · exact Blk.ne_ hb h.disk.head (by decide) rfl
    · exact Blk.ne_ hb h.disk.row (by decide) rfl
theorem set4_only (w : World) (g : Nat) (v0 v1 v2 v3 : Value) : Only [g] w ((((w.setCell ⟨g, 0, none⟩ v0).setCell ⟨g, 1, none⟩ v1).setCell ⟨g, 2, none⟩ v2).setCell ⟨g, 3, none⟩ v3) :=
  ((((Only.refl [g] w).setCell (a := ⟨g, 0, none⟩) (by simp) _).setCell (a := ⟨g, 1, none⟩) (by simp) _).setCell (a := ⟨g, 2, none⟩) (by simp) _).setCell (a := ⟨g, 3, none⟩) (by simp) _
theorem DiskAt.map {d g m n : Nat} {F : List UInt8} {cf : Int → Option Nat} {wr : Nat} {dn : Bool} {w : World} (h : DiskAt d g m n F cf wr dn w) : ∃ (k : Nat) (D : DataW Unit), w.ownsMap Try.prog 3 (plainElem Try.prog 3) m k D := by
  obtain ⟨k, D, h0, h4, h5, h6, h7, h8⟩ := h
  exact ⟨k, D, h7⟩
theorem DiskAt.off {d g m n : Nat} {F : List UInt8} {cf : Int → Option Nat} {wr : Nat} {dn : Bool} {w : World} {r : Nat} {cs : Array Value} (h : DiskAt d g m n F cf wr dn w) (hr : Blk w r 44 cs) : d ≠ r ∧ g ≠ r ∧ m ≠ r := by
  obtain ⟨k, D, h7⟩ := h.map
  exact ⟨Blk.ne_ h.head hr (by decide), Blk.ne_ h.row hr (by decide), blk_map_ne h7 hr⟩
theorem PlayAt.wrote {B n : Nat} {A : Option Addr} {cap : Nat} {cs : List (Int × Int)} {r : Nat} {w w1 w2 w3 : World} {d g m : Nat} {F F' : List UInt8} {q q' : Nat} {dn dn' : Bool} {v v' : Value}
    (h : PlayAt B n A cap cs r w w1 d g m F q dn v) (hB : B ≤ w1.heap.size) (hr : B ≤ r) (hb : Below w1.heap.size w1 w2) (hs : StrAt w2 v' n (bsOf n F')) (hw : DiskAt d g m n F' (crashAt cs) q' dn' w3) (ho : Only [d, g] w2 w3) :
    PlayAt B n A cap cs r w ((((w3.setCell ⟨r, 0, none⟩ v').setCell ⟨r, 1, none⟩ (.slice A cs.length cap)).setCell ⟨r, 2, none⟩ (.int .i64 q')).setCell ⟨r, 3, none⟩ (.bool dn')) d g m F' q' dn' v' := by
  have r2 := h.ref.below hb h.ref.lt
  have d2 := h.disk.keep hb
  obtain ⟨n1, n2, n3⟩ := d2.off r2
  have r3 := r2.only ho (by simp; omega)
  have b2 : Below B w w2 := h.below.trans (hb.mono hB)
  have b3 : Below B w w3 := b2.trans (ho.below (by have := hb.size; omega) (by have := h.hd; have := h.hg; simp; omega))
  have s3 : StrAt w3 v' n (bsOf n F') := hs.only ho (fun k cs' hm hk => by
    simp at hm
    rcases hm with rfl | rfl
    · exact Blk.ne_ hk d2.head (by decide) rfl
    · exact Blk.ne_ hk d2.row (by decide) rfl)
  have hso := set4_only w3 r v' (.slice A cs.length cap) (.int .i64 q') (.bool dn')
  exact ⟨hw.only hso (by simp; omega) (by simp; omega) (by simp; omega), blk_set4 r3 _ _ _ _, s3.only hso (fun k cs' hm hk => by
    simp at hm
    subst hm
    exact Blk.ne_ hk r3 (by decide) rfl), below_set4 hr b3 _ _ _ _, h.hd, h.hg⟩

def zeroD (_ : TypeId) : Array Value := #[.slice none 0 0, .slice none 0 0, .int .i64 0, .bool false]
/-- what the first of both left -/
def Wrote (B n : Nat) (A : Option Addr) (cap : Nat) (cs : List (Int × Int)) (r : Nat) (w : World) (d g m : Nat) (F : List UInt8) (q : Nat) (dn : Bool) (a : Int) (s : ByteArray) (v s11 s12 : Value) (W : World) : Prop :=
  ∃ (p : Nat) (gv' cv' : Nat) (w1 : World), s11 = .pointer (some ⟨p, 0, none⟩) ∧ s12 = .int .i64 (writeE n dn (crashAt cs) q a s) ∧ PlayAt B n A cap cs r w w1 d g m F q dn v ∧ B ≤ w1.heap.size ∧ w1.heap.size ≤ p ∧ Below w1.heap.size w1 W ∧
    Blk W p 44 #[.slice (some ⟨gv', 0, none⟩) n cv', .slice A cs.length cap, .int .i64 (writeN n dn q a s), .bool (writeD n dn (crashAt cs) q a s)] ∧
    StrAt W (.slice (some ⟨gv', 0, none⟩) n cv') n (bsOf n (writeF n F dn (crashAt cs) q a s))

/-- what holds between two parts of a round -/
def PInv (B n : Nat) (A : Option Addr) (cap : Nat) (cs : List (Int × Int)) (r : Nat) (w : World) (j : Nat) (c7 : Value) (W : World) : Prop :=
  ∃ (d g m : Nat) (F : List UInt8) (q : Nat) (dn : Bool) (gv cv : Nat), q ≤ j + 1 ∧ c7 = .pointer (some ⟨d, 0, none⟩) ∧ Hid (PlayAt B n A cap cs r w W d g m F q dn (.slice (some ⟨gv, 0, none⟩) n cv))
theorem PlayAt.power {B n : Nat} {A : Option Addr} {cap : Nat} {cs : List (Int × Int)} {r : Nat} {w w1 : World} {d g m : Nat} {F : List UInt8} {q : Nat} {dn : Bool} {v : Value}
    (h : PlayAt B n A cap cs r w w1 d g m F q dn v) (hB : B ≤ w1.heap.size) (hr : B ≤ r) :
    PlayAt B n A cap cs r w ((w1.setCell ⟨d, 3, none⟩ (.bool false)).setCell ⟨r, 3, none⟩ (.bool false)) d g m F q false v := by
  obtain ⟨n1, n2, n3⟩ := h.disk.off h.ref
  have ho := (Only.refl [d] w1).setCell (a := ⟨d, 3, none⟩) (by simp) (.bool false)
  have ho2 := (Only.refl [r] (w1.setCell ⟨d, 3, none⟩ (.bool false))).setCell (a := ⟨r, 3, none⟩) (by simp) (.bool false)
  have d1 := h.disk.power
  have r1 := h.ref.only ho (by simp; omega)
  have r2 := r1.set_ 3 (.bool false)
  have s1 := h.str.only ho (fun k cs' hm hk => by
    simp at hm
    subst hm
    exact Blk.ne_ hk h.disk.head (by decide) rfl)
  refine ⟨d1.only ho2 (by simp; omega) (by simp; omega) (by simp; omega), by simpa using r2, s1.only ho2 (fun k cs' hm hk => ?_), (h.below.setCell h.hd _).setCell hr _, h.hd, h.hg⟩
  simp at hm
  subst hm
  exact Blk.ne_ hk r1 (by decide) rfl
/-- what holds in the last loop -/
structure FinAt (B n : Nat) (A : Option Addr) (cap : Nat) (cs : List (Int × Int)) (r : Nat) (w : World) (d g m : Nat) (F : List UInt8) (q : Nat) (dn : Bool) (v : Value) (W : World) : Prop where
  disk : DiskAt d g m n F (crashAt cs) q false W
  ref : Blk W r 44 #[v, .slice A cs.length cap, .int .i64 q, .bool dn]
  str : StrAt W v n (bsOf n F)
  below : Below B w W
  room : B ≤ W.heap.size
theorem FinAt.grow {B n : Nat} {A : Option Addr} {cap : Nat} {cs : List (Int × Int)} {r : Nat} {w : World} {d g m : Nat} {F : List UInt8} {q : Nat} {dn : Bool} {v : Value} {W W' : World}
    (h : FinAt B n A cap cs r w d g m F q dn v W) (hb : Below W.heap.size W W') : FinAt B n A cap cs r w d g m F q dn v W' :=
  ⟨h.disk.keep hb, h.ref.below hb h.ref.lt, h.str.below hb, h.below.trans (hb.mono h.room), by have := hb.size; have := h.room; omega⟩
theorem PlayAt.fin {B n : Nat} {A : Option Addr} {cap : Nat} {cs : List (Int × Int)} {r : Nat} {w w1 w2 : World} {d g m : Nat} {F : List UInt8} {q : Nat} {dn : Bool} {v : Value}
    (h : PlayAt B n A cap cs r w w1 d g m F q dn v) (hB : B ≤ w1.heap.size) (hd : DiskAt d g m n F (crashAt cs) q false w2) (ho : Only [d, g] w1 w2) : FinAt B n A cap cs r w d g m F q dn v w2 := by
  obtain ⟨n1, n2, n3⟩ := h.disk.off h.ref
  refine ⟨hd, h.ref.only ho (by simp; omega), h.str.only ho (fun k cs' hm hk => ?_), h.below.trans (ho.below hB (by have := h.hd; have := h.hg; simp; omega)), by have := ho.size; omega⟩
  simp at hm
  rcases hm with rfl | rfl
  · exact Blk.ne_ hk h.disk.head (by decide) rfl
  · exact Blk.ne_ hk h.disk.row (by decide) rfl
theorem readE_at (n i : Nat) (hi : i < n) : readyE n false (i : Int) = 0 := by simp [readyE]; omega
theorem readS_at (n : Nat) (F : List UInt8) (i : Nat) (hi : i < n) : readS n F false (i : Int) = blk F i := by
  rw [readS, readE_at n i hi, if_pos rfl]
  congr 1
theorem StrAt.cellAt {w : World} {g c n : Nat} {bs : List ByteArray} (h : StrAt w (.slice (some ⟨g, 0, none⟩) n c) n bs) (i : Nat) (s : ByteArray) (hi : bs[i]? = some s) : w.cell? ⟨g, i, none⟩ = some (.string s) := by
  obtain ⟨gx, cx, hgx, -, -, hcx⟩ := h.at_
  simp only [Value.slice.injEq, Option.some.injEq, Addr.mk.injEq, and_true] at hgx
  rw [hgx.1]
  exact hcx i s hi
theorem other_size : (txt [111, 116, 104, 101, 114]).size = 5 := rfl

set_option maxHeartbeats 8000000 in
set_option maxRecDepth 100000 in
theorem plays_some (n : Nat) (A : Option Addr) (cap : Nat) (cs : List (Int × Int)) (LA : Option Addr) (lcap : Nat) (acts : List (Int × Int × ByteArray)) (w : World)
    (hn1 : 1 ≤ n) (hn : n ≤ 30) (hl : cs.length ≤ 20) (hl2 : acts.length ≤ 60) (hcr : IsCr w w.heap.size A cs) (hac : IsActs w w.heap.size LA acts) :
    Calls Try.prog 4 #[.int .i64 n, .slice A cs.length cap, .slice LA acts.length lcap] w fun e w' => e = .returned (.bool true) ∧ Below w.heap.size w w' := by
  have HCR := Lib.hid hcr
  have HAC := Lib.hid hac
  clear hcr hac
  have g1 : decide (20 < (cs.length : Int)) = false := decide_eq_false (by omega)
  have g2 : decide (60 < (acts.length : Int)) = false := decide_eq_false (by omega)
  have g3 : decide (30 < (n : Int)) = false := decide_eq_false (by omega)
  have g4 : decide ((n : Int) < 1) = false := decide_eq_false (by omega)
  have g5 : decide (4096 < (n : Int)) = false := decide_eq_false (by omega)
  go_enter Try.func4, Try.ntmps4
  go_wp2_with fail
  refine (new_any n A cap cs w hn1 (by omega) (by omega) HCR.out).mono ?_
  rintro e w1 ⟨d0, g0, m0, rfl, hd0, hg0, hm0, hdisk, hb1⟩
  obtain ⟨B, hB⟩ : ∃ B, w.heap.size = B := ⟨_, rfl⟩
  rw [hB] at hd0 hg0 hm0 hb1
  have P1 := Lib.hid (And.intro hdisk hb1)
  clear hdisk hb1
  go_wp2_with fail
  refine (refnew_any n A cs.length cap w1 hn1 (by omega)).mono ?_
  rintro e w2 ⟨v0, rfl, hst, hb2⟩
  obtain ⟨gv0, cv0, rfl, -, -, -⟩ := hst.at_
  have P2 := Lib.hid (And.intro (P1.out.1.keep hb2) (And.intro hst (P1.out.2.trans (hb2.mono (by have := P1.out.2.size; omega)))))
  clear hst hb2 P1
  go_wp2_with fail
  have P3 : Hid (PlayAt B n A cap cs w2.heap.size w (w2.alloc (.cells #[.slice (some ⟨gv0, 0, none⟩) n cv0, .slice A cs.length cap, .int .i64 0, .bool false] 44)) d0 g0 m0 (noB n) 0 false (.slice (some ⟨gv0, 0, none⟩) n cv0)) := Lib.hid
    ⟨P2.out.1.keep ((Below.refl _ _).alloc (Nat.le_refl _) _), Blk.new w2 _ _, by
      have := P2.out.2.1.below (w' := w2.alloc (.cells #[.slice (some ⟨gv0, 0, none⟩) n cv0, .slice A cs.length cap, .int .i64 0, .bool false] 44)) ((Below.refl _ _).alloc (Nat.le_refl _) _)
      rw [bsOf_new] at this
      exact this, P2.out.2.2.alloc (by have := P2.out.2.2.size; omega) _, hd0, hg0⟩
  have hr2 : B ≤ w2.heap.size := by have := P2.out.2.2.size; omega
  obtain ⟨r, hr⟩ : ∃ r, w2.heap.size = r := ⟨_, rfl⟩
  rw [hr] at P3 hr2
  rw [hr]
  generalize w2.alloc (.cells #[.slice (some ⟨gv0, 0, none⟩) n cv0, .slice A cs.length cap, .int .i64 0, .bool false] 44) = w3 at *
  clear P2 hr
  go_loopg [7, 10] acts.length (fun k c7 c10 wr => ∃ (j d g m : Nat) (F : List UInt8) (q : Nat) (dn : Bool) (gv cv : Nat), j ≤ acts.length ∧ k = acts.length - j ∧ q ≤ j ∧ c7 = .pointer (some ⟨d, 0, none⟩) ∧ c10 = .int .i64 j ∧ Hid (PlayAt B n A cap cs r w wr d g m F q dn (.slice (some ⟨gv, 0, none⟩) n cv)))
  case atStart => exact ⟨0, d0, g0, m0, noB n, 0, false, gv0, cv0, by omega, by omega, by omega, rfl, rfl, P3⟩
  case round =>
    clear P3
    obtain ⟨j, d, g, m, F, q, dn, gv, cv, hj, rfl, hq, rfl, rfl, hp⟩ := hrel
    by_cases hlt : j < acts.length
    · obtain ⟨⟨kd, at', s⟩, hx⟩ : ∃ x, acts[j]? = some x := ⟨_, List.getElem?_eq_getElem hlt⟩
      obtain ⟨hw1, hw2, hw3⟩ := HAC.out.ins _ (List.mem_of_getElem? hx)
      rcases HAC.out.place with h0 | ⟨b, off, hA, hbB, hcs⟩
      · rw [h0] at hlt; simp at hlt
      · obtain ⟨p0, p1, p2⟩ := hcs j _ hx
        subst hA
        have cell0 : ∀ W, Below B w W → W.cell? ⟨b, off + j * 3, none⟩ = some (.int .i64 kd) := fun W hb => (hb.cell (p := ⟨b, off + j * 3, none⟩) (by show b < B; omega)).trans p0
        have cell1 : ∀ W, Below B w W → W.cell? ⟨b, off + j * 3 + 1, none⟩ = some (.int .i64 at') := fun W hb => (hb.cell (p := ⟨b, off + (j * 3 + 1), none⟩) (by show b < B; omega)).trans p1
        have cell2 : ∀ W, Below B w W → W.cell? ⟨b, off + j * 3 + 2, none⟩ = some (.string s) := fun W hb => (hb.cell (p := ⟨b, off + (j * 3 + 2), none⟩) (by show b < B; omega)).trans p2
        have CC := Lib.hid (And.intro cell0 (And.intro cell1 cell2))
        have m0 := cell0 wr hp.out.below
        have hpl := hp.out
        clear cell0 cell1 cell2 p0 p1 p2 hcs hx
        clear hpl
        go_upto_if 79 with (fail)
        go_cut [7] (fun c7 W => PInv B n A cap cs r w j c7 W)
        case first =>
          clear m0
          by_cases k0 : kd = 0
          · subst k0
            go_upto_region 13 with (fail)
            have hBr : B ≤ wr.heap.size := by have := hp.out.below.size; omega
            go_cut [11, 12] (fun s11 s12 W => Wrote B n A cap cs r w d g m F q dn at' (blockS s) (.slice (some ⟨gv, 0, none⟩) n cv) s11 s12 W)
            case first =>
              have G : ∀ w1 : World, Below wr.heap.size wr w1 → PlayAt B n A cap cs r w w1 d g m F q dn (.slice (some ⟨gv, 0, none⟩) n cv) := fun w1 h1 => hp.out.grow hBr h1
              have HG := Lib.hid G
              clear G
              refine wp_region_split [0, 1, 2, 3, 4, 5, 6, 7, 8, 9, 10, 11] 16 12 [13, 14, 15] [17, 18] 44 (zeroD 0) 11 _ _ ?_ (by kernel_rfl) (by kernel_rfl) (by kernel_rfl) (by kernel_rfl) (by kernel_rfl) (by kernel_rfl) rfl rfl rfl rfl rfl (by decide) (by decide) (by kernel_rfl) (by kernel_rfl) (by kernel_rfl) ?_ ?_ ?_
              case refine_2 =>
                intro ρ w1
                simp [execOp, go_sem, zeroD]
              case refine_3 =>
                intro w1 b1
                have bg : ∀ d os, Below wr.heap.size wr (Sort.grow (redrawn w1 d) os) := fun d os => b1.trans ((below_regrown w1 d os).mono b1.size)
                have m1 := fun d os => CC.out.2.1 _ (HG.out _ (bg d os)).below
                have m2 := fun d os => CC.out.2.2 _ (HG.out _ (bg d os)).below
                have m0 := fun d os => (HG.out _ (bg d os)).ref.cell 0
                have m3 := fun d os => (HG.out _ (bg d os)).ref.cell 1
                have m4 := fun d os => (HG.out _ (bg d os)).ref.cell 2
                have m5 := fun d os => (HG.out _ (bg d os)).ref.cell 3
                simp only [List.getElem?_toArray, List.getElem?_cons_zero, List.getElem?_cons_succ] at m0 m3 m4 m5
                clear bg
                simp only [atIdx, List.filterMap_cons, List.filterMap_nil, List.getElem?_toArray, List.getElem?_cons_zero, List.getElem?_cons_succ]
                iterate 11 (show wpQuiet _ _ _ _ (_ :: _) _; go_big_quiet_step (fail))
                show wpQuiet _ _ _ _ (_ :: _) _
                go_big_quiet_step ((go_at_call 6; exact Calls.regrown_of (block_any s _ hw3)))
                refine wpQuiet_nil ?_
                rfl
              case refine_4 =>
                intro w1 b1
                have hpw := HG.out w1 b1
                refine callAt_enter (f := 14) (args := #[.agg #[.slice (some ⟨gv, 0, none⟩) n cv, .slice A cs.length cap, .int .i64 q, .bool dn], .int .i64 at', .string (blockS s)]) ?hrun ?_
                case hrun =>
                  simp only [List.getElem?_toArray, List.getElem_toArray, List.getElem_cons_zero, List.getElem_cons_succ]
                  simp [execOp, go_sem]
                refine (refwrite_any (.slice (some ⟨gv, 0, none⟩) n cv) A cap n q dn F cs at' (blockS s) w1 hpw.str hpw.disk.len (IsCr.below (B := w.heap.size) HCR.out (hB ▸ hpw.below) (by have := hpw.below.size; omega)) hn1 (by omega) (by omega) (by omega) (blockS_le s hw3)).mono ?_
                rintro e w2 ⟨v', rfl, hst, hb2⟩
                obtain ⟨gv', cv', rfl, -, -, -⟩ := hst.at_
                refine ⟨_, rfl, hb2, ?_, ?_⟩
                · intro p h1 h2 h3
                  simp only [atIdx, List.cons_append, List.nil_append, List.filterMap_cons, List.filterMap_nil, List.getElem?_toArray, List.getElem?_cons_zero, List.getElem?_cons_succ]
                  show wpList _ _ _ (_ :: _) _ _
                  have hpz : Blk w2 p 44 (zeroD 0) := h3
                  have y0 := hpz.cell 0
                  have y1 := hpz.cell 1
                  have y2 := hpz.cell 2
                  have y3 := hpz.cell 3
                  have x0 := hpz.frozen 0
                  have x1 := hpz.frozen 1
                  have x2 := hpz.frozen 2
                  have x3 := hpz.frozen 3
                  simp only [zeroD, List.getElem?_toArray, List.getElem?_cons_zero, List.getElem?_cons_succ] at y0 y1 y2 y3
                  go_wp2_with (fail)
                  refine onlyNormal_ok ?_
                  go_wp2_with (fail)
                  go_meet
                  case rel =>
                    have bw : Below wr.heap.size wr w2 := b1.trans (hb2.mono b1.size)
                    exact ⟨p, gv', cv', wr, rfl, rfl, hp.out, hBr, h1, below_set4 h1 bw _ _ _ _, blk_set4 hpz _ _ _ _, hst.only (set4_only w2 p _ _ _ _) (fun k cs' hm hk => by
                      simp at hm
                      subst hm
                      exact Blk.ne_ hk hpz (by decide) rfl)⟩
                · simp only [atIdx, List.cons_append, List.nil_append, List.filterMap_cons, List.filterMap_nil, List.getElem?_toArray, List.getElem?_cons_zero, List.getElem?_cons_succ]
                  show wpList _ _ _ (_ :: _) _ _
                  go_wp2_with (fail)
                  refine onlyNormal_ok ?_
                  go_wp2_with (fail)
                  go_meet
                  case rel =>
                    have bw : Below wr.heap.size wr w2 := b1.trans (hb2.mono b1.size)
                    exact ⟨w2.heap.size, gv', cv', wr, rfl, rfl, hp.out, hBr, bw.size, bw.alloc bw.size _, Blk.new w2 _ _, hst.below ((Below.refl _ _).alloc (Nat.le_refl _) _)⟩
            case rest =>
              obtain ⟨p, gv', cv', w1, rfl, rfl, hp1, hB1, h1p, hb1, hP, hS⟩ := hcut
              have HP := Lib.hid (And.intro hp1 (And.intro hb1 (And.intro hP hS)))
              clear hp1 hb1 hP hS hp
              have bg : ∀ d os, Below w1.heap.size w1 (Sort.grow (redrawn wc d) os) := fun d os => HP.out.2.1.trans ((below_regrown wc d os).mono HP.out.2.1.size)
              have m1 := fun d os => CC.out.2.1 _ (HP.out.1.below.trans ((bg d os).mono hB1))
              have m2 := fun d os => CC.out.2.2 _ (HP.out.1.below.trans ((bg d os).mono hB1))
              clear bg
              go_wp2_with (fail)
              refine wp_region_pick1 13 _ (.int .i64 (writeE n dn (crashAt cs) q at' (blockS s))) [0, 1, 2, 3, 4, 5, 6, 7, 8, 9, 10, 11] 12 [14] (by kernel_rfl) rfl (by kernel_rfl) (by kernel_rfl) (by kernel_rfl) ?hv (by kernel_rfl) (by kernel_rfl) ?_
              case hv =>
                intro w'
                simp only [List.getElem?_toArray, List.getElem_toArray, List.getElem_cons_zero, List.getElem_cons_succ]
                simp [execOp, go_sem]
              simp only [atIdx, List.filterMap_cons, List.filterMap_nil, List.getElem?_toArray, List.getElem_toArray, List.getElem?_cons_zero, List.getElem?_cons_succ, List.getElem_cons_zero, List.getElem_cons_succ]
              simp only [Act.put, List.setIfInBounds_toArray, List.set_cons_succ, List.set_cons_zero]
              iterate 11 (show wpQuiet _ _ _ _ (_ :: _) _; go_big_quiet_step (fail))
              show wpQuiet _ _ _ _ (_ :: _) _
              go_big_quiet_step ((go_at_call 6; exact Calls.regrown_of (block_any s _ hw3)))
              refine wpQuiet_nil ?_
              intro w2 hw2'
              obtain ⟨⟨dq, osq⟩, hw2''⟩ := hw2'
              have b2 : Below wc.heap.size wc w2 := by rw [hw2'']; exact below_regrown wc dq osq
              clear hw2'' m1 m2
              have B2 : Below w1.heap.size w1 w2 := HP.out.2.1.trans (b2.mono HP.out.2.1.size)
              have P2 := HP.out.2.2.1.below b2 HP.out.2.2.1.lt
              have S2 := HP.out.2.2.2.below b2
              have D2 := HP.out.1.disk.keep B2
              have H2 := Lib.hid (And.intro HP.out.1 (And.intro B2 (And.intro P2 (And.intro S2 D2))))
              clear HP B2 P2 S2 D2 b2
              show wpList _ _ _ (_ :: _) _ _
              go_wp2_with (fail)
              refine (write_any d g m n F (crashAt cs) q dn at' (blockS s) w2 H2.out.2.2.2.2 (by omega) (by omega) (fun t k h => crashAt_le h) (blockS_le s hw3)).mono ?_
              rintro e w3 ⟨rfl, hd3, ho3⟩
              have hpt := H2.out.2.2.1.only ho3 (by
                have h1 := Blk.ne_ H2.out.2.2.2.2.head H2.out.2.2.1 (by decide)
                have h2 := Blk.ne_ H2.out.2.2.2.2.row H2.out.2.2.1 (by decide)
                simp
                omega)
              have hrt := (H2.out.1.ref.below H2.out.2.1 H2.out.1.ref.lt).only ho3 (by
                have h1 := H2.out.2.2.2.2.off (H2.out.1.ref.below H2.out.2.1 H2.out.1.ref.lt)
                simp
                omega)
              have hfin := H2.out.1.wrote hB1 hr2 H2.out.2.1 H2.out.2.2.2.1 hd3 ho3
              have y0 := hpt.cell 0
              have y1 := hpt.cell 1
              have y2 := hpt.cell 2
              have y3 := hpt.cell 3
              simp only [List.getElem?_toArray, List.getElem?_cons_zero, List.getElem?_cons_succ] at y0 y1 y2 y3
              have z0 := hrt.cell 0
              have z1 := hrt.cell 1
              have z2 := hrt.cell 2
              have z3 := hrt.cell 3
              have x0 := hrt.frozen 0
              have x1 := hrt.frozen 1
              have x2 := hrt.frozen 2
              have x3 := hrt.frozen 3
              simp only [List.getElem?_toArray, List.getElem?_cons_zero, List.getElem?_cons_succ] at z0 z1 z2 z3
              have HF := Lib.hid hfin
              clear hfin hpt hrt hd3 ho3 H2
              have hqn := writeN_le n dn q at' (blockS s)
              go_wp2_with (fail)
              refine onlyNormal_ok ?_
              go_wp2_with (fail)
              go_meet
              case rel => exact ⟨d, g, m, _, _, _, gv', cv', by omega, rfl, HF⟩
          · go_wp2_with (fail)
            go_meet
            case rel => exact ⟨d, g, m, F, q, dn, gv, cv, by omega, rfl, hp⟩
        case rest =>
          obtain ⟨d, g, m, F, q, dn, gv, cv, hq1, rfl, hp⟩ := hcut
          clear m0
          have m0 := CC.out.1 wc hp.out.below
          go_upto_if 117 with (fail)
          go_cut [7] (fun c7 W => PInv B n A cap cs r w j c7 W)
          case first =>
            clear m0
            by_cases k1 : kd = 1
            · subst k1
              have hBr : B ≤ wc.heap.size := by have := hp.out.below.size; omega
              have m1 := CC.out.2.1 wc hp.out.below
              go_wp2_with (fail)
              clear m1
              refine (read_any d g m n F (crashAt cs) q dn at' wc hp.out.disk (by omega)).mono ?_
              rintro e w2 ⟨rfl, x, hx⟩
              have bw : Below wc.heap.size wc w2 := by rw [hx]; exact below_drewN (Below.refl _ _) _
              clear hx
              have P2 := hp.out.grow hBr bw
              have HP := Lib.hid P2
              clear hp bw P2
              have hB2 : B ≤ w2.heap.size := by have := HP.out.below.size; omega
              have G : ∀ d' os, PlayAt B n A cap cs r w (Sort.grow (redrawn w2 d') os) d g m F q dn (.slice (some ⟨gv, 0, none⟩) n cv) := fun d' os => HP.out.grow hB2 (below_regrown w2 d' os)
              have m1 := fun d os => CC.out.2.1 _ (G d os).below
              have m0 := fun d os => (G d os).ref.cell 0
              have m3 := fun d os => (G d os).ref.cell 1
              have m4 := fun d os => (G d os).ref.cell 2
              have m5 := fun d os => (G d os).ref.cell 3
              simp only [List.getElem?_toArray, List.getElem?_cons_zero, List.getElem?_cons_succ] at m0 m3 m4 m5
              have HG := Lib.hid G
              clear G
              go_wp2_with (fail)
              refine wp_region_quiet_below (by kernel_rfl) (by kernel_rfl) ?_
              repeat (go_big_quiet_step (fail))
              go_big_quiet_step ((go_at_call 15; exact Calls.regrown_of (refread_any (.slice (some ⟨gv, 0, none⟩) n cv) (.slice A cs.length cap) n q dn (bsOf n F) at' _ (HG.out _ _).str (by omega))))
              repeat (go_big_quiet_step (fail))
              refine wpQuiet_nil ?_
              intro w3 hw'
              obtain ⟨⟨dq, osq⟩, hw''⟩ := hw'
              have hP3 : PlayAt B n A cap cs r w w3 d g m F q dn (.slice (some ⟨gv, 0, none⟩) n cv) := by rw [hw'']; exact HG.out dq osq
              have H3 := Lib.hid hP3
              clear hw'' m0 m1 m3 m4 m5 HG hP3
              have hbr := bsOf_read n F dn at'
              go_wp2_with (fail)
              go_meet
              case rel => exact ⟨d, g, m, F, q, dn, gv, cv, hq1, rfl, H3⟩
            · go_wp2_with (fail)
              go_meet
              case rel => exact ⟨d, g, m, F, q, dn, gv, cv, hq1, rfl, hp⟩
          case rest =>
            obtain ⟨d, g, m, F, q, dn, gv, cv, hq1, rfl, hp⟩ := hcut
            clear m0
            have m0 := CC.out.1 wc hp.out.below
            go_upto_if 151 with (fail)
            go_cut [7] (fun c7 W => PInv B n A cap cs r w j c7 W)
            case first =>
              clear m0
              by_cases k1 : kd = 2
              · subst k1
                have hBr : B ≤ wc.heap.size := by have := hp.out.below.size; omega
                have ht := hp.out.ref.cell 3
                have hf := hp.out.ref.frozen 3
                have hne := (hp.out.disk.off hp.out.ref).1
                simp only [List.getElem?_toArray, List.getElem?_cons_zero, List.getElem?_cons_succ] at ht
                go_wp2_with (fail)
                refine (power_any d g m n q dn wc hp.out.disk.head).mono ?_
                rintro e w2 ⟨rfl, rfl⟩
                go_wp2_with (fail)
                go_meet
                case rel => exact ⟨d, g, m, F, q, false, gv, cv, hq1, rfl, Lib.hid (hp.out.power hBr hr2)⟩
              · go_wp2_with (fail)
                go_meet
                case rel => exact ⟨d, g, m, F, q, dn, gv, cv, hq1, rfl, hp⟩
            case rest =>
              obtain ⟨d, g, m, F, q, dn, gv, cv, hq1, rfl, hp⟩ := hcut
              clear m0
              have m0 := CC.out.1 wc hp.out.below
              go_upto_if 160 with (fail)
              go_cut [7] (fun c7 W => PInv B n A cap cs r w j c7 W)
              case first =>
                clear m0
                by_cases k1 : kd = 3
                · subst k1
                  have hBr : B ≤ wc.heap.size := by have := hp.out.below.size; omega
                  go_wp2_with (fail)
                  refine (copy_any d g m n F (crashAt cs) q dn wc hp.out.disk (by omega)).mono ?_
                  rintro e w2 ⟨d', g', m', rfl, ld, lg, lm, hd2, hb2⟩
                  have P2 := Lib.hid (And.intro hp.out (And.intro hd2 hb2))
                  clear hp hd2 hb2
                  have ho := other_size
                  have HO := Lib.hid ho
                  clear ho
                  go_wp2_with (fail)
                  refine (block_any (txt [111, 116, 104, 101, 114]) w2 (by rw [HO.out]; unfold maxLen; omega)).mono ?_
                  rintro e w3 ⟨rfl, hb3⟩
                  have hb3' : Below wc.heap.size wc w3 := P2.out.2.2.trans (hb3.mono P2.out.2.2.size)
                  have D3 := P2.out.1.disk.keep hb3'
                  have P3 := P2.out.1.grow hBr hb3'
                  have E3 := P2.out.2.1.keep hb3
                  have L3 := P2.out.1.disk.low
                  have A3 := Lib.hid (And.intro D3 (And.intro P3 (And.intro E3 (And.intro hb3' L3))))
                  clear hb3 hb3' D3 P3 E3 P2 L3
                  go_wp2_with (fail)
                  refine (write_any d g m n F (crashAt cs) q dn 0 (blockS (txt [111, 116, 104, 101, 114])) w3 A3.out.1 (by omega) (by omega) (fun t k h => crashAt_le h) (blockS_le _ (by rw [HO.out]; unfold maxLen; omega))).mono ?_
                  rintro e w4 ⟨rfl, hd4, ho4⟩
                  go_wp2_with (fail)
                  go_meet
                  case rel =>
                    obtain ⟨a1, a2, a3, a4, l1, l2, l3⟩ := A3.out
                    obtain ⟨n1, n2, n3⟩ := a1.off a2.ref
                    refine ⟨d', g', m', F, q, dn, gv, cv, hq1, rfl, Lib.hid ⟨a3.only ho4 (by simp; omega) (by simp; omega) (by simp; omega), a2.ref.only ho4 (by simp; omega), a2.str.only ho4 (fun k cs' hm hk => ?_), a2.below.trans (ho4.below (by have := a2.below.size; omega) (by have := a2.hd; have := a2.hg; simp; omega)), by omega, by omega⟩⟩
                    simp at hm
                    rcases hm with rfl | rfl
                    · exact Blk.ne_ hk a1.head (by decide) rfl
                    · exact Blk.ne_ hk a1.row (by decide) rfl
                · go_wp2_with (fail)
                  go_meet
                  case rel => exact ⟨d, g, m, F, q, dn, gv, cv, hq1, rfl, hp⟩
              case rest =>
                obtain ⟨d, g, m, F, q, dn, gv, cv, hq1, rfl, hp⟩ := hcut
                clear m0
                have hBr : B ≤ wc.heap.size := by have := hp.out.below.size; omega
                have G : ∀ d' os, PlayAt B n A cap cs r w (Sort.grow (redrawn wc d') os) d g m F q dn (.slice (some ⟨gv, 0, none⟩) n cv) := fun d' os => hp.out.grow hBr (below_regrown wc d' os)
                have m4 := fun d os => (G d os).ref.cell 2
                have m5 := fun d os => (G d os).ref.cell 3
                simp only [List.getElem?_toArray, List.getElem?_cons_zero, List.getElem?_cons_succ] at m4 m5
                have HG := Lib.hid G
                clear G
                go_wp2_with (fail)
                refine wp_region_quiet_below (by kernel_rfl) (by kernel_rfl) ?_
                repeat (go_big_quiet_step (first | (go_at_call 16; exact Calls.regrown_of (same_below (down_any d g m n q dn _ (HG.out _ _).disk.head))) | (go_at_call 17; exact Calls.regrown_of (same_below (writes_any d g m n q dn _ (HG.out _ _).disk.head))) | (go_at_call 12; exact Calls.regrown_of (same_below (blocks_any d g m n q dn _ (HG.out _ _).disk.head)))))
                refine wpQuiet_nil ?_
                intro w3 hw'
                obtain ⟨⟨dq, osq⟩, hw''⟩ := hw'
                have hP3 : PlayAt B n A cap cs r w w3 d g m F q dn (.slice (some ⟨gv, 0, none⟩) n cv) := by rw [hw'']; exact HG.out dq osq
                have H3 := Lib.hid hP3
                clear hw'' m4 m5 HG hP3 hp
                go_wp2_with (fail)
                go_roundg (acts.length - (j + 1))
                case measure => omega
                case rel => exact ⟨j + 1, d, g, m, F, q, dn, gv, cv, by omega, rfl, hq1, rfl, by go_num, H3⟩
    · have hBr : B ≤ wr.heap.size := by have := hp.out.below.size; omega
      go_wp2_with (fail)
      refine (power_disk d g m n F (crashAt cs) q dn wr hp.out.disk).mono ?_
      rintro e w1' ⟨rfl, hd1, ho1⟩
      have hfin : FinAt B n A cap cs r w d g m F q dn (.slice (some ⟨gv, 0, none⟩) n cv) w1' := hp.out.fin hBr hd1 ho1
      have HF := Lib.hid hfin
      clear hfin hd1 ho1 hp
      go_wp2_with (fail)
      go_loopg [18] n (fun k c18 wr => ∃ i : Nat, i ≤ n ∧ k = n - i ∧ c18 = .int .i64 i ∧ Hid (FinAt B n A cap cs r w d g m F q dn (.slice (some ⟨gv, 0, none⟩) n cv) wr))
      case atStart => exact ⟨0, by omega, by omega, rfl, HF⟩
      case round =>
        clear HF
        obtain ⟨i, hi, rfl, rfl, hf⟩ := hrel
        by_cases hin : i < n
        · have hin' : decide (i < n) = true := decide_eq_true hin
          have hin'' : decide ((i : Int) < (n : Int)) = true := decide_eq_true (by omega)
          go_wp2_with (fail)
          refine (read_any d g m n F (crashAt cs) q false i wr hf.out.disk (by omega)).mono ?_
          rintro e w2 ⟨rfl, x, hx⟩
          have bw : Below wr.heap.size wr w2 := by rw [hx]; exact below_drewN (Below.refl _ _) _
          clear hx
          have F2 := hf.out.grow bw
          have HF2 := Lib.hid F2
          have c0 := F2.ref.cell 0
          simp only [List.getElem?_toArray, List.getElem?_cons_zero, List.getElem?_cons_succ] at c0
          have hci := F2.str.cellAt i (blk F i) (bsOf_get n F i hin)
          have hre := readE_at n i hin
          have hrs := readS_at n F i hin
          rw [hre, hrs]
          clear F2 hf bw hre hrs
          go_wp2_with (fail)
          go_roundg (n - (i + 1))
          case measure => omega
          case rel => exact ⟨i + 1, by omega, rfl, by go_num, HF2⟩
        · have hin'' : decide ((i : Int) < (n : Int)) = false := decide_eq_false (by omega)
          have hin' : decide (i < n) = false := decide_eq_false hin
          go_wp2_with (fail)
          refine (works_any wr).mono ?_
          rintro e w2 ⟨rfl, hb2⟩
          go_wp2_with (fail)
          go_ret
          exact ⟨rfl, by rw [hB]; exact hf.out.below.trans (hb2.mono (by have := hf.out.below.size; omega))⟩
end Go.Proofs.Ytmjhomhganaceaa
