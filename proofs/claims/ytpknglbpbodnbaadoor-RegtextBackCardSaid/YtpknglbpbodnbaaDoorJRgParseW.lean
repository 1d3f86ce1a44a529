/-
  The reader's methods together; the walks of Parse and of what it defers.
-/
import Derived.Test.YtpknglbpbodnbaaDoorJRgAlt
import Derived.Defers
import Derived.Recover
namespace Go.Proofs.YtpknglbpbodnbaaDoor
set_option linter.unusedVariables false
set_option linter.unusedSimpArgs false
open Go.RowKit Go.Sort Cs Rg Go.ChangeShapes Go.WideShapes

theorem steps_all (rb : Nat) (s : ByteArray) (hs : s.size ≤ 256) (f : Nat) : ALT rb s f ∧ CAT rb s f ∧ PIECE rb s f ∧ ATOM rb s f := by
  induction f using Nat.strongRecOn with
  | ind f ih => exact ⟨alt_step rb s hs f fun g hg => (ih g hg).2.1, cat_step rb s hs f fun g hg => (ih g hg).2.2.1, piece_step rb s hs f fun g hg => (ih g hg).2.2.2, atom_step rb s hs f fun g hg => (ih g hg).1⟩
theorem alt_any (rb : Nat) (s : ByteArray) (hs : s.size ≤ 256) (f : Nat) : ALT rb s f := (steps_all rb s hs f).1

theorem broken_yes (v : Value) (xT : TypeId) (w : World) : (Instr.typeAssert (.iface 69 v) xT 69 true).run Tryd.prog w = .ok (.tuple #[v, .bool true]) w := by kernel_rfl
theorem catch_idle (pb qb : Nat) (w : World) :
    CallsD Tryd.prog 39 #[vPtr pb, vPtr qb] .returning w fun e u' w' => e = .returned (.tuple #[]) ∧ u' = .returning ∧ w' = w := by
  refine callsD_of_wpS Tryd.func39 rfl fun c₀ cs hu => ?_
  simp only [Tryd.ntmps39, List.size_toArray, List.length_cons, List.length_nil, Nat.reduceAdd, Nat.reduceSub, Array.replicate_succ, Array.replicate_zero, List.push_toArray, List.append_toArray, List.nil_append, List.cons_append]
  apply wpS_seq
  apply wpS_region
  simp [wpOpsS, go_sem, recoverD, hu, Exit.thenS]
  refine wpS_of_wp ?_
  go_wp2_with fail
  exact ⟨rfl, .returning, by cases c₀; simp_all, .tuple #[], by simp [results, Tryd.results39, go_sem], rfl, rfl, rfl⟩
theorem catch_panic (pb qb : Nat) (E x : Int) (older : List PanicEntry) (w : World) (a0 a1 a2 a3 a4 a5 a6 a7 : Value) (hp : Blk w pb 27 #[a0, a1, a2, a3, a4, a5, a6, a7]) (hq : Blk w qb 38 #[.int .i64 0, .int .i64 0]) (hne : pb ≠ qb) :
    CallsD Tryd.prog 39 #[vPtr pb, vPtr qb] (.panicking ({ v := .iface 69 (.agg #[.int .i64 E, .int .i64 x]), recovered := false } :: older)) w fun e u' w' =>
      e = .returned (.tuple #[]) ∧ u' = .panicking ({ v := .iface 69 (.agg #[.int .i64 E, .int .i64 x]), recovered := true } :: older) ∧
      Blk w' pb 27 #[.int .i64 0, .int .u64 0, .int .u64 0, .int .u64 0, .int .u64 0, .slice none 0 0, .int .i64 0, .int .i64 0] ∧ Blk w' qb 38 #[.int .i64 E, .int .i64 x] ∧ Only [pb, qb] w w' := by
  refine callsD_of_wpS Tryd.func39 rfl fun c₀ cs hu => ?_
  simp only [Tryd.ntmps39, List.size_toArray, List.length_cons, List.length_nil, Nat.reduceAdd, Nat.reduceSub, Array.replicate_succ, Array.replicate_zero, List.push_toArray, List.append_toArray, List.nil_append, List.cons_append]
  apply wpS_seq
  apply wpS_region
  simp [wpOpsS, go_sem, recoverD, hu, Exit.thenS]
  refine wpS_of_wp ?_
  have hta := fun (v : Value) (xT : TypeId) (w : World) => broken_yes v xT w
  have HP := Lib.hid (And.intro hp (And.intro hq hne))
  have HU := Lib.hid hu
  obtain ⟨⟨x0, x1, x2, x3, x4, x5, x6, x7⟩, z0, z1, z2, z3, z4, z5, z6, z7⟩ := hp.c8
  obtain ⟨⟨y0, y1⟩, v0, v1⟩ := hq.c2
  have e1 : ¬ pb = qb := hne
  have e2 : ¬ qb = pb := fun e => hne e.symm
  clear hu hp hq hne
  obtain ⟨QQ, hQQ⟩ : ∃ QQ, (fun e a' w' => bodyPostS Tryd.prog Tryd.f39 c₀ cs
        (fun e u' w' => e = .returned (.tuple #[]) ∧ u' = .panicking ({ v := .iface 69 (.agg #[.int .i64 E, .int .i64 x]), recovered := true } :: older) ∧
      Blk w' pb 27 #[.int .i64 0, .int .u64 0, .int .u64 0, .int .u64 0, .int .u64 0, .slice none 0 0, .int .i64 0, .int .i64 0] ∧ Blk w' qb 38 #[.int .i64 E, .int .i64 x] ∧ Only [pb, qb] w w') e a'
        ({ fn := c₀.fn, tmps := c₀.tmps, todo := c₀.todo, defers := c₀.defers, mode := FrameMode.panicking ({ v := .iface 69 (.agg #[.int .i64 E, .int .i64 x]), recovered := true } :: older), kind := c₀.kind, roundOf := c₀.roundOf } :: cs) w') = QQ := ⟨_, rfl⟩
  rw [hQQ]
  have HQ := Lib.hid hQQ
  clear hQQ
  go_upto_region 7 with (fail)
  clear x0 x1 x2 x3 x4 x5 x6 x7 z0 z1 z2 z3 z4 z5 z6 z7 y0 y1 v0 v1
  have hb := (Below.refl w.heap.size w).alloc (Nat.le_refl _) (.cells #[.int .i64 E, .int .i64 x] 69)
  have nb := Blk.new w 69 #[.int .i64 E, .int .i64 x]
  obtain ⟨nk, hnk⟩ : ∃ nk, w.heap.size = nk := ⟨_, rfl⟩
  have e3 : ¬ pb = nk := by have := HP.out.1.lt; omega
  have e4 : ¬ qb = nk := by have := HP.out.2.1.lt; omega
  have e5 : ¬ nk = pb := fun e => e3 e.symm
  have e6 : ¬ nk = qb := fun e => e4 e.symm
  have hp := HP.out.1.below hb HP.out.1.lt
  have hq := HP.out.2.1.below hb HP.out.2.1.lt
  have HB := Lib.hid (And.intro hb (And.intro hp hq))
  clear hb
  generalize w.alloc (.cells #[.int .i64 E, .int .i64 x] 69) = w1 at *
  rw [hnk] at nb ⊢
  obtain ⟨⟨x0, x1, x2, x3, x4, x5, x6, x7⟩, z0, z1, z2, z3, z4, z5, z6, z7⟩ := hp.c8
  obtain ⟨⟨y0, y1⟩, v0, v1⟩ := hq.c2
  obtain ⟨⟨n0, n1⟩, m0, m1⟩ := nb.c2
  clear hp hq nb
  go_region
  show QQ _ _ _
  rw [← HQ.out]
  have o1 := only_set8 w1 pb (.int .i64 0) (.int .u64 0) (.int .u64 0) (.int .u64 0) (.int .u64 0) (.slice none 0 0) (.int .i64 0) (.int .i64 0)
  have b1 := blk_set8 HB.out.2.1 (.int .i64 0) (.int .u64 0) (.int .u64 0) (.int .u64 0) (.int .u64 0) (.slice none 0 0) (.int .i64 0) (.int .i64 0)
  generalize ((((((((w1.setCell ⟨pb, 0, none⟩ (.int .i64 0)).setCell ⟨pb, 1, none⟩ (.int .u64 0)).setCell ⟨pb, 2, none⟩ (.int .u64 0)).setCell ⟨pb, 3, none⟩ (.int .u64 0)).setCell ⟨pb, 4, none⟩ (.int .u64 0)).setCell ⟨pb, 5, none⟩ (.slice none 0 0)).setCell ⟨pb, 6, none⟩ (.int .i64 0)).setCell ⟨pb, 7, none⟩ (.int .i64 0)) = w2 at *
  have q2 := HB.out.2.2.only o1 (by simpa using e2)
  have o2 := only_set2 w2 qb (.int .i64 E) (.int .i64 x)
  have q3 := blk_set2 q2 (.int .i64 E) (.int .i64 x)
  have b3 := b1.only o2 (by simpa using e1)
  have hB := HB.out.1
  exact ⟨rfl, _, rfl, .tuple #[], by simp [results, Tryd.results39, go_sem], rfl, rfl, b3, q3, ((((Only.of_below hB).trans (o1.more (by simp))).trans (o2.more (by simp))).drew)⟩
/-- what Parse tells -/
def ParseTold (s : ByteArray) (w : World) (e : Ending) (w' : World) : Prop :=
  Below w.heap.size w w' ∧ ∃ v E x, e = .returned (.tuple #[v, .agg #[.int .i64 E, .int .i64 x]]) ∧ NdV (fun b => w.heap.size ≤ b) w' v ((parseN (natsOf s)).getD zeroN) ∧
    ((parseN (natsOf s)).isSome = true → E = 0 ∧ x = 0) ∧ (parseN (natsOf s) = none → E ≠ 0)
theorem ndv_zero (P : Nat → Prop) (w : World) : NdV P w (.agg #[.int .i64 0, .int .u64 0, .int .u64 0, .int .u64 0, .int .u64 0, .slice none 0 0, .int .i64 0, .int .i64 0]) zeroN := ⟨none, 0, rfl, by unfold zeroN; rw [NdP]; exact ⟨by unfold maxLen; simp, .inl rfl⟩⟩
theorem parseN_none {l : List Nat} (h : ¬ 256 < l.length) (h2 : altP (4 * l.length + 4) 0 l = none) : parseN l = none := by unfold parseN; rw [if_neg h, h2]
theorem parseN_all {l : List Nat} {n : Nd} (h : ¬ 256 < l.length) (h2 : altP (4 * l.length + 4) 0 l = some (n, [])) : parseN l = some n := by unfold parseN; rw [if_neg h, h2]
theorem parseN_more {l : List Nat} {n : Nd} {b : Nat} {r : List Nat} (h : ¬ 256 < l.length) (h2 : altP (4 * l.length + 4) 0 l = some (n, b :: r)) : parseN l = none := by unfold parseN; rw [if_neg h, h2]
/-- Parse's own variables -/
structure Pz (w w' : World) (s : ByteArray) (i o : Nat) (cs : Array Value) : Prop where
  bel : Below w.heap.size w w'
  nd : Blk w' w.heap.size 27 cs
  ft : Blk w' (w.heap.size + 1) 38 #[.int .i64 0, .int .i64 0]
  rd : Rd w' (w.heap.size + 2) s i o
section
variable {w w' w2 : World} {s : ByteArray} {i o : Nat} {cs : Array Value}
theorem Pz.new (w : World) (s : ByteArray) : Pz w (((w.alloc (.cells #[.int .i64 0, .int .u64 0, .int .u64 0, .int .u64 0, .int .u64 0, .slice none 0 0, .int .i64 0, .int .i64 0] 27)).alloc (.cells #[.int .i64 0, .int .i64 0] 38)).alloc (.cells #[.string s, .int .i64 0, .int .i64 0] 72)) s 0 0 #[.int .i64 0, .int .u64 0, .int .u64 0, .int .u64 0, .int .u64 0, .slice none 0 0, .int .i64 0, .int .i64 0] := by
  have b0 := (Below.refl w.heap.size w).alloc (Nat.le_refl _) (.cells #[.int .i64 0, .int .u64 0, .int .u64 0, .int .u64 0, .int .u64 0, .slice none 0 0, .int .i64 0, .int .i64 0] 27)
  have n0 := Blk.new w 27 #[.int .i64 0, .int .u64 0, .int .u64 0, .int .u64 0, .int .u64 0, .slice none 0 0, .int .i64 0, .int .i64 0]
  have s0 : (w.alloc (.cells #[.int .i64 0, .int .u64 0, .int .u64 0, .int .u64 0, .int .u64 0, .slice none 0 0, .int .i64 0, .int .i64 0] 27)).heap.size = w.heap.size + 1 := by simp
  generalize w.alloc (.cells #[.int .i64 0, .int .u64 0, .int .u64 0, .int .u64 0, .int .u64 0, .slice none 0 0, .int .i64 0, .int .i64 0] 27) = w1 at *
  have b1 := (Below.refl w1.heap.size w1).alloc (Nat.le_refl _) (.cells #[.int .i64 0, .int .i64 0] 38)
  have n1 := Blk.new w1 38 #[.int .i64 0, .int .i64 0]
  have s1 : (w1.alloc (.cells #[.int .i64 0, .int .i64 0] 38)).heap.size = w1.heap.size + 1 := by simp
  generalize w1.alloc (.cells #[.int .i64 0, .int .i64 0] 38) = w2 at *
  have b2 := (Below.refl w2.heap.size w2).alloc (Nat.le_refl _) (.cells #[.string s, .int .i64 0, .int .i64 0] 72)
  have n2 := Blk.new w2 72 #[.string s, .int .i64 0, .int .i64 0]
  rw [s0] at n1
  rw [s1, s0] at n2
  exact ⟨b0.trans ((b1.mono (by omega)).trans (b2.mono (by omega))), (n0.below b1 n0.lt).below b2 (by omega), n1.below b2 n1.lt, n2⟩
theorem Pz.on (h : Pz w w' s i o cs) {j o2 : Nat} (h2 : RdGo w' (w.heap.size + 2) s j o2 w2) : Pz w w2 s j o2 cs :=
  ⟨h.bel.trans (h2.2.below h.bel.size (by simp)), h.nd.only h2.2 (by simp), h.ft.only h2.2 (by simp), h2.1⟩
theorem Pz.off (h : Pz w w' s i o cs) (h2 : Only [w.heap.size + 2] w' w2) : Below w.heap.size w w2 ∧ Blk w2 w.heap.size 27 cs ∧ Blk w2 (w.heap.size + 1) 38 #[.int .i64 0, .int .i64 0] :=
  ⟨h.bel.trans (h2.below h.bel.size (by simp)), h.nd.only h2 (by simp), h.ft.only h2 (by simp)⟩
theorem Pz.set {a0 a1 a2 a3 a4 a5 a6 a7 : Value} (h : Pz w w' s i o #[a0, a1, a2, a3, a4, a5, a6, a7]) (u0 u1 u2 u3 u4 u5 u6 u7 : Value) :
    Pz w ((((((((w'.setCell ⟨w.heap.size, 0, none⟩ u0).setCell ⟨w.heap.size, 1, none⟩ u1).setCell ⟨w.heap.size, 2, none⟩ u2).setCell ⟨w.heap.size, 3, none⟩ u3).setCell ⟨w.heap.size, 4, none⟩ u4).setCell ⟨w.heap.size, 5, none⟩ u5).setCell ⟨w.heap.size, 6, none⟩ u6).setCell ⟨w.heap.size, 7, none⟩ u7) s i o #[u0, u1, u2, u3, u4, u5, u6, u7] := by
  have ho := only_set8 w' w.heap.size u0 u1 u2 u3 u4 u5 u6 u7
  exact ⟨h.bel.trans (ho.below h.bel.size (by simp)), blk_set8 h.nd u0 u1 u2 u3 u4 u5 u6 u7, h.ft.only ho (by simp), Blk.only h.rd ho (by simp)⟩
end
set_option maxHeartbeats 8000000 in
set_option maxRecDepth 1000000 in
theorem parse_any (s : ByteArray) (w : World) (hT : TabIn w) : Calls Tryd.prog 14 #[.string s] w (ParseTold s w) := by
  have hmf : ∀ (fn : Fn) (first cap : Array Value) (w : World), (Instr.makeFunc fn first cap).run Tryd.prog w = .ok (.func fn first cap) w := fun _ _ _ _ => rfl
  by_cases hlen : 256 < s.size
  · have k1 : decide ((256 : Int) < (s.size : Int)) = true := decide_eq_true (by omega)
    have k1' : decide (256 < s.size) = true := decide_eq_true (by omega)
    have HP := Lib.hid (show parseN (natsOf s) = none by unfold parseN; rw [if_pos (by rw [natsOf_len]; exact hlen)])
    clear hlen hT
    go_enter_defers Tryd.func14, Tryd.ntmps14
    go_wp2_with fail
    show Leaves _ _ _ _ [] .returning _
    have b0 := (Below.refl w.heap.size w).alloc (Nat.le_refl _) (.cells #[.int .i64 0, .int .u64 0, .int .u64 0, .int .u64 0, .int .u64 0, .slice none 0 0, .int .i64 0, .int .i64 0] 27)
    have n0 := Blk.new w 27 #[.int .i64 0, .int .u64 0, .int .u64 0, .int .u64 0, .int .u64 0, .slice none 0 0, .int .i64 0, .int .i64 0]
    have s0 : (w.alloc (.cells #[.int .i64 0, .int .u64 0, .int .u64 0, .int .u64 0, .int .u64 0, .slice none 0 0, .int .i64 0, .int .i64 0] 27)).heap.size = w.heap.size + 1 := by simp
    generalize w.alloc (.cells #[.int .i64 0, .int .u64 0, .int .u64 0, .int .u64 0, .int .u64 0, .slice none 0 0, .int .i64 0, .int .i64 0] 27) = w1 at *
    have b1 := (Below.refl w1.heap.size w1).alloc (Nat.le_refl _) (.cells #[.int .i64 3, .int .i64 256] 38)
    have n1 := Blk.new w1 38 #[.int .i64 3, .int .i64 256]
    have n2 := n0.below b1 n0.lt
    rw [s0] at n1
    generalize w1.alloc (.cells #[.int .i64 3, .int .i64 256] 38) = w2 at *
    obtain ⟨⟨x0, x1, x2, x3, x4, x5, x6, x7⟩, -⟩ := n2.c8
    obtain ⟨⟨y0, y1⟩, -⟩ := n1.c2
    refine ⟨.tuple #[.agg #[.int .i64 0, .int .u64 0, .int .u64 0, .int .u64 0, .int .u64 0, .slice none 0 0, .int .i64 0, .int .i64 0], .agg #[.int .i64 3, .int .i64 256]], by simp [results, Tryd.results14, go_sem, x0, x1, x2, x3, x4, x5, x6, x7, y0, y1], b0.trans (b1.mono (by omega)), .agg #[.int .i64 0, .int .u64 0, .int .u64 0, .int .u64 0, .int .u64 0, .slice none 0 0, .int .i64 0, .int .i64 0], 3, 256, rfl, ?_, ?_, ?_⟩
    · rw [HP.out]; exact ndv_zero _ _
    · rw [HP.out]; intro h; cases h
    · intro _; omega
  · have k1 : decide ((256 : Int) < (s.size : Int)) = false := decide_eq_false (by omega)
    have k1' : decide (256 < s.size) = false := decide_eq_false (by omega)
    have hs : s.size ≤ 256 := by omega
    have P0 := Lib.hid (Pz.new w s)
    have hl0 := restL_len s 0
    have hcall := alt_any (w.heap.size + 2) s hs (4 * (natsOf s).length + 4) 0 0 _ P0.out.rd (by omega) (by omega) (hT.below P0.out.bel) (by rw [natsOf_len, restL_len]; omega)
    have e0 : restL s 0 = natsOf s := rfl
    rw [e0] at hcall
    have HC := Lib.hid hcall
    have HQ := Lib.hid (show ¬ 256 < (natsOf s).length by rw [natsOf_len]; omega)
    clear hlen hT hcall hl0 e0
    go_enter_defers Tryd.func14, Tryd.ntmps14
    go_upto_region 5 with (fail)
    generalize ((w.alloc (.cells #[.int .i64 0, .int .u64 0, .int .u64 0, .int .u64 0, .int .u64 0, .slice none 0 0, .int .i64 0, .int .i64 0] 27)).alloc (.cells #[.int .i64 0, .int .i64 0] 38)).alloc (.cells #[.string s, .int .i64 0, .int .i64 0] 72) = w1 at *
    obtain ⟨⟨x0, x1, x2, x3, x4, x5, x6, x7⟩, z0, z1, z2, z3, z4, z5, z6, z7⟩ := P0.out.nd.c8
    clear x0 x1 x2 x3 x4 x5 x6 x7 z0 z1 z2 z3 z4 z5 z6 z7
    go_wp2_with fail
    refine HC.out.mono ?_
    intro e w2 ht
    rcases ht.elim with ⟨hn, ⟨E, x, rfl, hE⟩, ho⟩ | ⟨n, j, v, hn, rfl, ⟨a', c', rfl, hnp⟩, hij, hj, hg⟩
    · have hoff := P0.out.off ho
      have HP := Lib.hid (parseN_none HQ.out hn)
      refine leaves_cons (f := 39) (args := #[vPtr w.heap.size, vPtr (w.heap.size + 1)]) (by simp) (by simp [go_sem]) ?_
      refine (catch_panic w.heap.size (w.heap.size + 1) E x [] _ _ _ _ _ _ _ _ _ hoff.2.1 hoff.2.2 (by omega)).mono ?_
      rintro e u' w9 ⟨rfl, rfl, p1, q1, o1⟩
      obtain ⟨⟨x0, x1, x2, x3, x4, x5, x6, x7⟩, -⟩ := p1.c8
      obtain ⟨⟨y0, y1⟩, -⟩ := q1.c2
      show Leaves _ _ _ _ [] .returning _
      refine ⟨.tuple #[.agg #[.int .i64 0, .int .u64 0, .int .u64 0, .int .u64 0, .int .u64 0, .slice none 0 0, .int .i64 0, .int .i64 0], .agg #[.int .i64 E, .int .i64 x]], by simp [results, Tryd.results14, go_sem, x0, x1, x2, x3, x4, x5, x6, x7, y0, y1], hoff.1.trans (o1.below hoff.1.size (by simp)), .agg #[.int .i64 0, .int .u64 0, .int .u64 0, .int .u64 0, .int .u64 0, .slice none 0 0, .int .i64 0, .int .i64 0], E, x, rfl, ?_, ?_, ?_⟩
      · rw [HP.out]; exact ndv_zero _ _
      · rw [HP.out]; intro h; cases h
      · intro _; omega
    have P1 := Lib.hid (P0.out.on hg)
    have HN := Lib.hid (And.intro hn hnp)
    have hw1 := P0.out.bel.size
    have hw1' := P0.out.rd.lt
    clear hn hnp hg ht HC P0
    unfold nodeV
    obtain ⟨⟨x0, x1, x2, x3, x4, x5, x6, x7⟩, z0, z1, z2, z3, z4, z5, z6, z7⟩ := P1.out.nd.c8
    go_upto_region 6 with (fail)
    have P2 := Lib.hid (P1.out.set (.int .i64 n.kind) (.int .u64 n.set.a) (.int .u64 n.set.b) (.int .u64 n.set.c) (.int .u64 n.set.d) (.slice a' n.kids.length c') (.int .i64 n.lo) (.int .i64 n.hi))
    have hoo := only_set8 w2 w.heap.size (.int .i64 n.kind) (.int .u64 n.set.a) (.int .u64 n.set.b) (.int .u64 n.set.c) (.int .u64 n.set.d) (.slice a' n.kids.length c') (.int .i64 n.lo) (.int .i64 n.hi)
    have ND := Lib.hid (NdP.keep (Q := fun b => w.heap.size + 3 ≤ b) hoo.size (fun b hb hp => ⟨by have : w1.heap.size ≤ b := hp; omega, hoo.block b hb (by have : w1.heap.size ≤ b := hp; simp; omega)⟩) n HN.out.2)
    clear x0 x1 x2 x3 x4 x5 x6 x7 z0 z1 z2 z3 z4 z5 z6 z7 P1 hoo
    generalize (((((((w2.setCell ⟨w.heap.size, 0, none⟩ (.int .i64 n.kind)).setCell ⟨w.heap.size, 1, none⟩ (.int .u64 n.set.a)).setCell ⟨w.heap.size, 2, none⟩ (.int .u64 n.set.b)).setCell ⟨w.heap.size, 3, none⟩ (.int .u64 n.set.c)).setCell ⟨w.heap.size, 4, none⟩ (.int .u64 n.set.d)).setCell ⟨w.heap.size, 5, none⟩ (.slice a' n.kids.length c')).setCell ⟨w.heap.size, 6, none⟩ (.int .i64 n.lo)).setCell ⟨w.heap.size, 7, none⟩ (.int .i64 n.hi) = w3 at *
    obtain ⟨⟨x0, x1, x2⟩, -⟩ := P2.out.rd.c3
    by_cases hjs : j < s.size
    · have k2 : decide ((j : Int) < (s.size : Int)) = true := decide_eq_true (by omega)
      have k2' : decide (j < s.size) = true := decide_eq_true hjs
      have HP := Lib.hid (parseN_more HQ.out (HN.out.1.trans (by rw [restL_at hjs])))
      clear hjs
      go_wp2_with fail
      refine (wrong_any (w.heap.size + 2) s j 0 _ P2.out.rd hs).mono ?_
      rintro e w4 ⟨⟨E, x, rfl, hE⟩, bx⟩
      have hoff := P2.out.off (Only.of_below bx)
      refine leaves_cons (f := 39) (args := #[vPtr w.heap.size, vPtr (w.heap.size + 1)]) (by simp) (by simp [go_sem]) ?_
      refine (catch_panic w.heap.size (w.heap.size + 1) E x [] _ _ _ _ _ _ _ _ _ hoff.2.1 hoff.2.2 (by omega)).mono ?_
      rintro e u' w9 ⟨rfl, rfl, p1, q1, o1⟩
      obtain ⟨⟨x0, x1, x2, x3, x4, x5, x6, x7⟩, -⟩ := p1.c8
      obtain ⟨⟨y0, y1⟩, -⟩ := q1.c2
      show Leaves _ _ _ _ [] .returning _
      refine ⟨.tuple #[.agg #[.int .i64 0, .int .u64 0, .int .u64 0, .int .u64 0, .int .u64 0, .slice none 0 0, .int .i64 0, .int .i64 0], .agg #[.int .i64 E, .int .i64 x]], by simp [results, Tryd.results14, go_sem, x0, x1, x2, x3, x4, x5, x6, x7, y0, y1], hoff.1.trans (o1.below hoff.1.size (by simp)), .agg #[.int .i64 0, .int .u64 0, .int .u64 0, .int .u64 0, .int .u64 0, .slice none 0 0, .int .i64 0, .int .i64 0], E, x, rfl, ?_, ?_, ?_⟩
      · rw [HP.out]; exact ndv_zero _ _
      · rw [HP.out]; intro h; cases h
      · intro _; omega
    · have k2 : decide ((j : Int) < (s.size : Int)) = false := decide_eq_false (by omega)
      have k2' : decide (j < s.size) = false := decide_eq_false hjs
      have HP := Lib.hid (parseN_all HQ.out (HN.out.1.trans (by rw [restL_end (by omega)])))
      clear hjs
      obtain ⟨⟨y0, y1, y2, y3, y4, y5, y6, y7⟩, z0, z1, z2, z3, z4, z5, z6, z7⟩ := P2.out.nd.c8
      obtain ⟨⟨v0, v1⟩, t0, t1⟩ := P2.out.ft.c2
      go_wp2_with fail
      refine leaves_cons (f := 39) (args := #[vPtr w.heap.size, vPtr (w.heap.size + 1)]) (by simp) (by simp [go_sem]) ?_
      refine (catch_idle w.heap.size (w.heap.size + 1) _).mono ?_
      rintro e u' w9 ⟨rfl, rfl, rfl⟩
      show Leaves _ _ _ _ [] .returning _
      have ho := only_set8 w3 w.heap.size (.int .i64 n.kind) (.int .u64 n.set.a) (.int .u64 n.set.b) (.int .u64 n.set.c) (.int .u64 n.set.d) (.slice a' n.kids.length c') (.int .i64 n.lo) (.int .i64 n.hi)
      have hq := P2.out.set (.int .i64 n.kind) (.int .u64 n.set.a) (.int .u64 n.set.b) (.int .u64 n.set.c) (.int .u64 n.set.d) (.slice a' n.kids.length c') (.int .i64 n.lo) (.int .i64 n.hi)
      clear x0 x1 x2 y0 y1 y2 y3 y4 y5 y6 y7 z0 z1 z2 z3 z4 z5 z6 z7 v0 v1 t0 t1
      generalize (((((((w3.setCell ⟨w.heap.size, 0, none⟩ (.int .i64 n.kind)).setCell ⟨w.heap.size, 1, none⟩ (.int .u64 n.set.a)).setCell ⟨w.heap.size, 2, none⟩ (.int .u64 n.set.b)).setCell ⟨w.heap.size, 3, none⟩ (.int .u64 n.set.c)).setCell ⟨w.heap.size, 4, none⟩ (.int .u64 n.set.d)).setCell ⟨w.heap.size, 5, none⟩ (.slice a' n.kids.length c')).setCell ⟨w.heap.size, 6, none⟩ (.int .i64 n.lo)).setCell ⟨w.heap.size, 7, none⟩ (.int .i64 n.hi) = w4 at *
      have ho2 := only_set2 w4 (w.heap.size + 1) (.int .i64 0) (.int .i64 0)
      have hf2 := blk_set2 hq.ft (.int .i64 0) (.int .i64 0)
      have hn2 := hq.nd.only ho2 (by simp)
      have hd1 := NdP.keep (Q := fun b => w.heap.size + 3 ≤ b) ho.size (fun b hb hp => ⟨hp, ho.block b hb (by simp; omega)⟩) n ND.out
      have hd2 := NdP.keep (Q := fun b => w.heap.size ≤ b) ho2.size (fun b hb hp => ⟨by omega, ho2.block b hb (by simp; omega)⟩) n hd1
      have hbel := hq.bel.trans (ho2.below hq.bel.size (by simp))
      generalize (w4.setCell ⟨w.heap.size + 1, 0, none⟩ (.int .i64 0)).setCell ⟨w.heap.size + 1, 1, none⟩ (.int .i64 0) = w5 at *
      obtain ⟨⟨x0, x1, x2, x3, x4, x5, x6, x7⟩, -⟩ := hn2.c8
      obtain ⟨⟨y0, y1⟩, -⟩ := hf2.c2
      refine ⟨.tuple #[nodeV n.kind n.set (.slice a' n.kids.length c') n.lo n.hi, .agg #[.int .i64 0, .int .i64 0]], by simp [results, Tryd.results14, go_sem, nodeV, x0, x1, x2, x3, x4, x5, x6, x7, y0, y1], hbel, _, 0, 0, rfl, ?_, fun _ => ⟨rfl, rfl⟩, ?_⟩
      · rw [HP.out]; exact ⟨a', c', rfl, hd2⟩
      · rw [HP.out]; intro h; cases h
end Go.Proofs.YtpknglbpbodnbaaDoor
