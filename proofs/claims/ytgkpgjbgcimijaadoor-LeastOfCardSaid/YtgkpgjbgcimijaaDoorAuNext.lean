/-
  The closures of least.Of: what comes of a class. Conditions: the classes, the table and the rows lie in memory.
-/
import Derived.Test.YtgkpgjbgcimijaaDoorAuKey
import Derived.Test.YtgkpgjbgcimijaaDoorAuTabs
import Derived.Test.YtgkpgjbgcimijaaDoorAuReach
namespace Go.Proofs.YtgkpgjbgcimijaaDoor
set_option linter.unusedVariables false
set_option linter.unusedSimpArgs false
open Go.RowKit Go.Maps Go.Sort Go.ChangeShapes Go.WideShapes

/-- what the closure next reads -/
structure Env (w : World) (dB cB mB m n : Nat) (st fv bv nv cv : Value) (nxt : List (List Nat)) (cls one : Nat → Nat) (B : Nat) : Prop where
  box : Blk w dB 26 #[st, fv, bv, nv]
  rows : RowsAt w nv nxt fun _ => True
  cvar : Blk w cB 23 #[cv]
  cls : w.ownsRow B 3 1 cv nxt.length (clsCells cls nxt.length)
  mvar : Blk w mB 41 #[.map (some m)]
  tab : TabAt w m n one
theorem Env.below {w w' : World} {dB cB mB m n : Nat} {st fv bv nv cv : Value} {nxt : List (List Nat)} {cls one : Nat → Nat} {B : Nat} (h : Env w dB cB mB m n st fv bv nv cv nxt cls one B) (hb : Below w.heap.size w w') : Env w' dB cB mB m n st fv bv nv cv nxt cls one B where
  box := h.box.below hb h.box.lt
  rows := h.rows.below hb
  cvar := h.cvar.below hb h.cvar.lt
  cls := own_only h.cls (Only.of_below (S := []) hb) (by simp)
  mvar := h.mvar.below hb h.mvar.lt
  tab := h.tab.below hb h.tab.lt
theorem clsCells_at {f : Nat → Nat} {M x : Nat} (h : x < M) : (clsCells f M)[x]? = some (.int .i64 (f x : Int)) := by simp [clsCells, h]

set_option maxHeartbeats 8000000 in
set_option maxRecDepth 100000 in
theorem onext_any (w : World) (dB cB mB m n : Nat) (st fv bv nv cv : Value) (nxt : List (List Nat)) (cls one : Nat → Nat) (B wide c k : Nat) (h : Env w dB cB mB m n st fv bv nv cv nxt cls one B) (ho : NxtOk nxt wide) (h1 : one c < nxt.length) (h2 : k < wide) (h3 : nxt.length ≤ 1000000) (h4 : wide ≤ 1000000) (h5 : c ≤ 1000000) :
    Calls Tryd.prog 21 #[.int .i64 c, .int .i64 k, .pointer (some ⟨cB, 0, none⟩), .pointer (some ⟨dB, 0, none⟩), .pointer (some ⟨mB, 0, none⟩)] w fun e w' => e = .returned (.int .i64 (cls (nxtF nxt (one c) k))) ∧ Below w.heap.size w w' := by
  obtain ⟨x, hx⟩ : ∃ x, one c = x := ⟨_, rfl⟩
  rw [hx] at h1
  obtain ⟨l, hl⟩ : ∃ l, nxt[x]? = some l := ⟨_, List.getElem?_eq_getElem h1⟩
  obtain ⟨b, off, cap, a, cc, rfl, m0, hla⟩ := h.rows.get hl
  have hlw := (ho.row x l hl).1
  obtain ⟨y, hy⟩ : ∃ y, l[k]? = some y := ⟨_, List.getElem?_eq_getElem (by omega)⟩
  have hyn := (ho.row x l hl).2 y (List.mem_of_getElem? hy)
  obtain ⟨b2, o2, rfl, m1⟩ := hla.get hy
  have he : nxtF nxt (one c) k = y := by
    have e1 : nxt.getD x [] = l := by rw [List.getD_eq_getElem?_getD, hl]; rfl
    rw [hx]
    unfold nxtF
    rw [e1, List.getD_eq_getElem?_getD, hy]; rfl
  rw [he]
  obtain ⟨ac, kc, rfl⟩ := own_shape h.cls
  obtain ⟨gc, capc, hec, -, hgc⟩ := h.cls.form (by omega)
  have hec' : ac = some ⟨gc, 0, none⟩ := by simpa using (Value.slice.inj hec).1
  subst hec'
  have m2 := h.cls.cellAt y (by omega)
  rw [clsCells_at hyn] at m2
  have y3 := h.box.c4.1.2.2.2
  have v0 := h.cvar.cell 0
  have v1 := h.mvar.cell 0
  simp only [List.getElem?_toArray, List.getElem?_cons_zero] at v0 v1
  have hlook : ∀ d os, (Instr.lookup 41 (.map (some m)) (.int .i64 (c : Int)) false).run Tryd.prog (Sort.grow (redrawn w d) os) = .ok (.int .i64 (x : Int)) (Sort.grow (redrawn w d) os) := fun d os => by
    have := (h.tab.below (below_regrown w d os) h.tab.lt).look (x := c) (by unfold maxLen; omega)
    rw [hx] at this
    exact this
  have lc : ∀ {p : Addr} {v : Value}, w.cell? p = some v → ∀ d os, (Sort.grow (redrawn w d) os).cell? p = some v := fun {p v} hp d os => ((below_regrown w d os).cell (World.block_lt_of_cell? w p hp)).trans hp
  have q0 := lc m0
  have q1 := lc m1
  have q2 := lc m2
  have q3 := lc y3
  have q4 := lc v0
  have q5 := lc v1
  rw [hlw] at q0
  clear lc m0 m1 m2 y3 v0 v1 hl hy he hx hla h ho hec
  obtain ⟨z, hz⟩ : ∃ z, cls y = z := ⟨_, rfl⟩
  rw [hz] at q2
  rw [hz]
  clear hz
  go_enter Tryd.func21, Tryd.ntmps21
  go_wp2_with fail
  refine wp_region_quiet_below (by kernel_rfl) (by kernel_rfl) ?_
  repeat (go_big_quiet_step (fail))
  refine wpQuiet_nil ?_
  intro _ hw'
  obtain ⟨⟨dq, osq⟩, hw''⟩ := hw'
  subst hw''
  have bb : Below w.heap.size w (Sort.grow (redrawn w dq) osq) := below_regrown w dq osq
  generalize Sort.grow (redrawn w dq) osq = w2 at *
  clear q0 q1 q2 q3 q4 q5 hlook
  go_wp2_with fail
  go_ret
  exact ⟨rfl, bb⟩
set_option maxHeartbeats 8000000 in
set_option maxRecDepth 100000 in
/-- the closure Of$2 -/
theorem ostep_any (w : World) (dB cB mB nB bB c k x z : Nat) (av : Option Addr) (bl : List Nat) (cap : Nat) (hk : bl[k]? = some x) (hc : c ≤ 1000000) (hl : bl.length ≤ 1000000) (hx : x ≤ 1000000)
    (hn : Blk w nB 42 #[.func (.func 21) #[] #[.pointer (some ⟨cB, 0, none⟩), .pointer (some ⟨dB, 0, none⟩), .pointer (some ⟨mB, 0, none⟩)]])
    (hb : Blk w bB 23 #[.slice av bl.length cap]) (hbl : NatsAt w (.slice av bl.length cap) bl)
    (hnext : ∀ d os, Calls Tryd.prog 21 #[.int .i64 c, .int .i64 x, .pointer (some ⟨cB, 0, none⟩), .pointer (some ⟨dB, 0, none⟩), .pointer (some ⟨mB, 0, none⟩)] (Sort.grow (redrawn w d) os) fun e w' => e = .returned (.int .i64 z) ∧ Below (Sort.grow (redrawn w d) os).heap.size (Sort.grow (redrawn w d) os) w') :
    Calls Tryd.prog 25 #[.int .i64 c, .int .i64 k, .pointer (some ⟨nB, 0, none⟩), .pointer (some ⟨bB, 0, none⟩)] w fun e w' => e = .returned (.int .i64 z) ∧ Below w.heap.size w w' := by
  have hkl := (List.getElem?_eq_some_iff.1 hk).1
  obtain ⟨b2, o2, rfl, m1⟩ := hbl.get hk
  have v0 := hn.cell 0
  have v1 := hb.cell 0
  simp only [List.getElem?_toArray, List.getElem?_cons_zero] at v0 v1
  have lc : ∀ {p : Addr} {v : Value}, w.cell? p = some v → ∀ d os, (Sort.grow (redrawn w d) os).cell? p = some v := fun {p v} hp d os => ((below_regrown w d os).cell (World.block_lt_of_cell? w p hp)).trans hp
  have q0 := lc m1
  have q1 := lc v0
  have q2 := lc v1
  clear lc m1 v0 v1 hn hb hbl hk
  go_enter Tryd.func25, Tryd.ntmps25
  go_wp2_with fail
  refine wp_region_quiet_below (by kernel_rfl) (by kernel_rfl) ?_
  repeat (go_big_quiet_step (fail))
  go_big_quiet_step ((go_at_call 21; exact Calls.regrown_of (hnext _ _)))
  repeat (go_big_quiet_step (fail))
  refine wpQuiet_nil ?_
  intro _ hw'
  obtain ⟨⟨dq, osq⟩, hw''⟩ := hw'
  subst hw''
  have bb : Below w.heap.size w (Sort.grow (redrawn w dq) osq) := below_regrown w dq osq
  generalize Sort.grow (redrawn w dq) osq = w2 at *
  clear q0 q1 q2 hnext
  go_wp2_with fail
  go_ret
  exact ⟨rfl, bb⟩
end Go.Proofs.YtgkpgjbgcimijaaDoor
