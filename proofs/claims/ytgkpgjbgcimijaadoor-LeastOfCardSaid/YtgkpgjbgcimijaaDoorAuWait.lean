/-
  The walk of least's (*parts).wait. Conditions: the classes lie in memory; the class is one of them.
-/
import Derived.Test.YtgkpgjbgcimijaaDoorAuMem
namespace Go.Proofs.YtgkpgjbgcimijaaDoor
set_option linter.unusedVariables false
set_option linter.unusedSimpArgs false
open Go.RowKit Go.Maps Go.Sort Go.ChangeShapes Go.WideShapes

theorem infoInt : (Tryd.prog.info? 3).map (fun i => (i.zero, i.size, i.bytes)) = some (some (.int .i64 0), 1, 8) := by kernel_rfl
theorem one_at {w : World} {u : Value} {t : TypeId} : ∀ j v, [u][j]? = some v → (w.alloc (.cells #[u] t)).cell? ((⟨w.heap.size, 0, none⟩ : Addr).add j) = some v := by
  intro j v hj
  have h0 := (List.getElem?_eq_some_iff.1 hj).1
  obtain rfl : j = 0 := by simp at h0; omega
  rw [Addr.add_lit, (Blk.new w t #[u]).cell 0]
  exact hj

theorem wait_end {w w3 : World} {B p M : Nat} {P : Parts} {cv mv kv : Value} {ms : List Value} {gw capw c g cap : Nat} (h : PartsAt w B p M P cv mv (.slice (some ⟨gw, 0, none⟩) P.wai.length capw) kv ms) (hc : c < P.wai.length)
    (hown : w3.ownsRow B 3 1 (.slice (some ⟨g, 0, none⟩) (P.work.length + 1) cap) (P.work.length + 1) (natCells P.work ++ [.int .i64 (c : Int)]))
    (hgrow : ((w.setCell ⟨gw, c, none⟩ (.bool true)).alloc (.cells #[.int .i64 (c : Int)] 3)).grownBy w3 kv.ownBlock) (hat : kv.ownBlock = some g ∨ g = ((w.setCell ⟨gw, c, none⟩ (.bool true)).alloc (.cells #[.int .i64 (c : Int)] 3)).heap.size) :
    PartsAt (w3.setCell ⟨p, 3, none⟩ (.slice (some ⟨g, 0, none⟩) (P.work.length + 1) cap)) B p M { P with wai := P.wai.set c true, work := P.work ++ [c] } cv mv (.slice (some ⟨gw, 0, none⟩) P.wai.length capw) (.slice (some ⟨g, 0, none⟩) (P.work.length + 1) cap) ms ∧
      Only (partS p cv mv (.slice (some ⟨gw, 0, none⟩) P.wai.length capw) kv) w (w3.setCell ⟨p, 3, none⟩ (.slice (some ⟨g, 0, none⟩) (P.work.length + 1) cap)) ∧ Moved w kv (.slice (some ⟨g, 0, none⟩) (P.work.length + 1) cap) := by
  have o1 := only_set1 w ⟨gw, c, none⟩ (.bool true)
  have o2 := only_alloc (w.setCell ⟨gw, c, none⟩ (.bool true)) (.cells #[.int .i64 (c : Int)] 3)
  have o3 := only_grown hgrow
  have o4 := only_set1 w3 ⟨p, 3, none⟩ (.slice (some ⟨g, 0, none⟩) (P.work.length + 1) cap)
  have hz : ((w.setCell ⟨gw, c, none⟩ (.bool true)).alloc (.cells #[.int .i64 (c : Int)] 3)).heap.size = w.heap.size + 1 := by simp
  rw [hz] at hat
  have hwv : (Value.slice (some ⟨gw, 0, none⟩) P.wai.length capw).ownBlock = some gw := rfl
  -- what turned behind the first store, and in all
  have t1 : Only (kv.ownBlock.toList ++ [p]) (w.setCell ⟨gw, c, none⟩ (.bool true)) (w3.setCell ⟨p, 3, none⟩ (.slice (some ⟨g, 0, none⟩) (P.work.length + 1) cap)) :=
    ((o2.more (by simp)).trans (o3.more fun k hk => List.mem_append_left _ hk)).trans (o4.more (by simp))
  have t0 : Only (gw :: (kv.ownBlock.toList ++ [p])) w (w3.setCell ⟨p, 3, none⟩ (.slice (some ⟨g, 0, none⟩) (P.work.length + 1) cap)) :=
    (o1.more (by simp)).trans (t1.more fun k hk => List.mem_cons_of_mem _ hk)
  have offc : ∀ k, cv.ownBlock = some k → k ∉ gw :: (kv.ownBlock.toList ++ [p]) := fun k hk hm => by
    have h1 := h.offc k hk
    simp at hm
    rcases hm with e | e | e
    · exact h1 (.slice (some ⟨gw, 0, none⟩) P.wai.length capw) (by simp) (by rw [hwv, e])
    · exact h1 kv (by simp) e
    · exact h.offp cv (by simp) (by rw [hk, e])
  have offm : ∀ k, mv.ownBlock = some k → k ∉ gw :: (kv.ownBlock.toList ++ [p]) := fun k hk hm => by
    have h1 := h.offm k hk
    simp at hm
    rcases hm with e | e | e
    · exact h1 (.slice (some ⟨gw, 0, none⟩) P.wai.length capw) (by simp) (by rw [hwv, e])
    · exact h1 kv (by simp) e
    · exact h.offp mv (by simp) (by rw [hk, e])
  have offw : ∀ k, (Value.slice (some ⟨gw, 0, none⟩) P.wai.length capw).ownBlock = some k → k ∉ kv.ownBlock.toList ++ [p] := fun k hk hm => by
    have h1 := h.offw k hk
    simp at hm
    rcases hm with e | e
    · exact h1 kv (by simp) e
    · exact h.offp (.slice (some ⟨gw, 0, none⟩) P.wai.length capw) (by simp) (hk.trans (by rw [e]))
  have gne : ∀ k, k < w.heap.size → kv.ownBlock ≠ some k → g ≠ k := fun k hk hn e => by
    rcases hat with h1 | h1
    · exact hn (by rw [h1, e])
    · omega
  have hgp : g ≠ p := gne p h.blk.lt (h.offp kv (by simp))
  have hb3 : Blk w3 p 59 #[cv, mv, .slice (some ⟨gw, 0, none⟩) P.wai.length capw, kv] :=
    ((h.blk.far (p := ⟨gw, c, none⟩) (fun e => h.offp (.slice (some ⟨gw, 0, none⟩) P.wai.length capw) (by simp) (by rw [hwv]; exact congrArg some e.symm)) (.bool true)).alloc _).grown hgrow fun e => h.offp kv (by simp) e.symm
  have hb4 := hb3.set_ 3 (.slice (some ⟨g, 0, none⟩) (P.work.length + 1) cap)
  refine ⟨⟨by simpa using hb4, h.base, own_only h.cls t0 offc, own_only h.mem t0 offm, ?_, ?_, ?_, ?_, ?_, ?_, ?_⟩, t0.more fun k hk => ?_, ?_⟩
  · have h1 := own_only (h.wai.stored c (.bool true)).1 t1 offw
    simp only [List.length_set, List.map_set]
    exact h1
  · have h1 := own_set hown (a := ⟨p, 3, none⟩) (.slice (some ⟨g, 0, none⟩) (P.work.length + 1) cap) (fun e => hgp (Option.some.inj e))
    rw [natCells_snoc, List.length_append]
    exact h1
  · exact .mk4 (h.offp cv (by simp)) (h.offp mv (by simp)) (h.offp (.slice (some ⟨gw, 0, none⟩) P.wai.length capw) (by simp)) fun e => hgp (Option.some.inj e)
  · intro k hk
    exact .mk3 (h.offc k hk mv (by simp)) (h.offc k hk (.slice (some ⟨gw, 0, none⟩) P.wai.length capw) (by simp)) fun e => gne k (own_lt h.cls hk) (h.offc k hk kv (by simp)) (Option.some.inj e)
  · intro k hk
    exact .mk2 (h.offm k hk (.slice (some ⟨gw, 0, none⟩) P.wai.length capw) (by simp)) fun e => gne k (own_lt h.mem hk) (h.offm k hk kv (by simp)) (Option.some.inj e)
  · intro k hk
    exact .mk1 fun e => gne k (own_lt h.wai hk) (h.offw k hk kv (by simp)) (Option.some.inj e)
  · intro x s hx
    obtain ⟨v, hv, hn, ho⟩ := h.rows x s hx
    refine ⟨v, hv, hn.only t0 fun k hk hm => ?_, fun k hk => ?_⟩
    · obtain ⟨h1, h2, h3⟩ := ho k hk
      simp at hm
      rcases hm with e | e | e
      · exact h3 (.slice (some ⟨gw, 0, none⟩) P.wai.length capw) (by simp) (by rw [hwv, e])
      · exact h3 kv (by simp) e
      · exact h2 e
    · obtain ⟨h1, h2, h3⟩ := ho k hk
      refine ⟨Nat.lt_of_lt_of_le h1 t0.size, h2, .mk4 (h3 cv (by simp)) (h3 mv (by simp)) (h3 (.slice (some ⟨gw, 0, none⟩) P.wai.length capw) (by simp)) fun e => gne k h1 (h3 kv (by simp)) (Option.some.inj e)⟩
  · rw [partS_mem]
    simp at hk
    rcases hk with e | e | e
    · exact .inr (.inr (.inr (.inl (by rw [hwv, e]))))
    · exact .inr (.inr (.inr (.inr e)))
    · exact .inl e
  · rcases hat with h1 | h1
    · exact .inl h1.symm
    · exact .inr ⟨g, rfl, by omega⟩

set_option maxRecDepth 100000 in
set_option maxHeartbeats 4000000 in
theorem wait_any (w : World) (B p M : Nat) (P : Parts) (cv mv wv kv : Value) (ms : List Value) (h : PartsAt w B p M P cv mv wv kv ms) (c : Nat) (hc : c < P.wai.length) (hk : P.work.length ≤ 1000000) (hB : B ≤ w.heap.size) :
    Calls Tryd.prog 36 #[.pointer (some ⟨p, 0, none⟩), .int .i64 c] w fun e w' => e = .returned (.tuple #[]) ∧ ∃ kv', PartsAt w' B p M (P.wait c) cv mv wv kv' ms ∧ Only (partS p cv mv wv kv) w w' ∧ Moved w kv kv' := by
  obtain ⟨gw, capw, rfl, hgB, hgw⟩ := h.wai.form (by omega)
  have hwl : P.wai.length ≤ maxLen := by
    rcases h.wai.2 with ⟨h0, -⟩ | ⟨g, cap, cur, hv, -, -, h3, h4, -⟩
    · cases h0
    · omega
  have hcell := h.wai.cellAt c (by omega)
  obtain ⟨⟨b0, b1, b2, b3⟩, z0, z1, z2, z3⟩ := h.blk.c4
  cases hw : P.wai.getD c false with
  | true =>
    have hcs : (P.wai.map Value.bool)[c]? = some (.bool true) := by
      rw [List.getElem?_map, getD_true.1 hw]; rfl
    rw [hcs] at hcell
    have HW : Hid (P.wait c = P) := Lib.hid (by unfold Parts.wait; rw [if_pos hw])
    have H := Lib.hid h
    clear h hw hcs
    go_enter Tryd.func36, Tryd.ntmps36
    go_wp2_with fail
    go_end0
    refine ⟨rfl, kv, ?_, Only.refl _ _, Moved.same _ _⟩
    rw [HW.out]; exact H.out
  | false =>
    have hcs : (P.wai.map Value.bool)[c]? = some (.bool false) := by
      rw [List.getElem?_map, List.getElem?_eq_getElem hc]
      rw [List.getD_eq_getElem?_getD, List.getElem?_eq_getElem hc] at hw
      simp at hw
      simp [hw]
    rw [hcs] at hcell
    have HW : Hid (P.wait c = { P with wai := P.wai.set c true, work := P.work ++ [c] }) := Lib.hid (by unfold Parts.wait; rw [if_neg (by rw [hw]; simp)])
    have hfz := h.wai.frozenAt c
    obtain ⟨i0, hi0, hz00, hz01, hz02⟩ := info_parts infoInt
    have offw := h.offw gw rfl kv (by simp)
    have hpw : p ≠ gw := h.offp.at_ (v := .slice (some ⟨gw, 0, none⟩) P.wai.length capw) (by simp) rfl
    have hown2 : ((w.setCell ⟨gw, c, none⟩ (.bool true)).alloc (.cells #[.int .i64 (c : Int)] 3)).ownsRow B 3 1 kv P.work.length (natCells P.work) := (own_set h.work (a := ⟨gw, c, none⟩) _ offw).alloc _
    have hone : ∀ j v, [Value.int .i64 (c : Int)][j]? = some v → ((w.setCell ⟨gw, c, none⟩ (.bool true)).alloc (.cells #[.int .i64 (c : Int)] 3)).cell? ((⟨w.heap.size, 0, none⟩ : Addr).add j) = some v := by
      have := one_at (w := w.setCell ⟨gw, c, none⟩ (.bool true)) (u := .int .i64 (c : Int)) (t := 3)
      simpa using this
    have hblk2 := (h.blk.far (p := ⟨gw, c, none⟩) hpw (.bool true)).alloc (.cells #[.int .i64 (c : Int)] 3)
    have H := Lib.hid h
    have hkp : some p ≠ kv.ownBlock := fun e => h.offp kv (by simp) e.symm
    clear h hw hcs
    go_enter Tryd.func36, Tryd.ntmps36
    go_wp2_with (at_builtin; refine wpList_append_lies _ rfl _ _ 23 rfl B 3 i0 (.int .i64 0) 1 8 Tryd.underlying23 hi0 hz00 hz01 hz02 rfl (by decide) _ _ _ rfl hown2 ⟨w.heap.size, 0, none⟩ 1 1 [.int .i64 (c : Int)] rfl rfl hone (fun u hu => by simp at hu; subst hu; rfl) (by decide) (by unfold maxLen; omega) (by omega) (by simp; omega) _ rfl ?_; intro g cap w3 hown3 hgrow3 hat3 hlt3; obtain ⟨⟨y0, y1, y2, y3⟩, x0, x1, x2, x3⟩ := (hblk2.grown hgrow3 hkp).c4)
    go_end0
    have HE := wait_end H.out hc hown3 hgrow3 hat3
    rw [HW.out]
    exact ⟨rfl, _, HE⟩
end Go.Proofs.YtgkpgjbgcimijaaDoor
