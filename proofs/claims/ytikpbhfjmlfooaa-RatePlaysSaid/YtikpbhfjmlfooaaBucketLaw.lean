/-
  The example of layer 45 and the walk of the law BucketTells: each returns true. Conditions: none but what each says.
-/
import Derived.Test.YtikpbhfjmlfooaaBucketTake
import Derived.Lib.SmallJoins
import Derived.BigQuiet
namespace Go.Proofs.Ytikpbhfjmlfooaa
set_option linter.unusedVariables false
open Go.RowKit Go.Sort

theorem new_any (s : ByteArray) (c f now : Int) (w : World) :
    Calls Try.prog 14 #[.agg #[.string s, .int .i64 c, .int .i64 f], .int .i64 now] w fun e w' =>
      e = .returned (.agg #[.int .i64 c, .int .i64 f, .int .i64 0, .int .i64 now]) ∧ Below w.heap.size w w' := by
  go_enter Try.func14, Try.ntmps14
  go_wp2_with fail
  exact bodyPost_ret (v := .agg #[.int .i64 c, .int .i64 f, .int .i64 0, .int .i64 now]) (by simp [results, Try.results14, go_sem]) rfl ⟨rfl, below2 _ _ _⟩

theorem take_lit (c f y t now Y T : Int) (b : Bool) (w : World) (hY : takeH c f y t now = Y) (hT : takeT c f y t now = T) (hb : takeOk c f y t now = b) :
    Calls Try.prog 12 #[.agg #[.int .i64 c, .int .i64 f, .int .i64 y, .int .i64 t], .int .i64 now] w fun e w' =>
      e = .returned (.tuple #[.agg #[.int .i64 c, .int .i64 f, .int .i64 Y, .int .i64 T], .bool b]) ∧ Below w.heap.size w w' := by
  subst hY hT hb; exact take_any c f y t now w
theorem reftake_lit (c f y t now Y T : Int) (b : Bool) (w : World) (hY : takeH c f y t now = Y) (hT : takeT c f y t now = T) (hb : takeOk c f y t now = b) :
    Calls Try.prog 13 #[.agg #[.int .i64 c, .int .i64 f, .int .i64 y, .int .i64 t], .int .i64 now] w fun e w' =>
      e = .returned (.tuple #[.agg #[.int .i64 c, .int .i64 f, .int .i64 Y, .int .i64 T], .bool b]) ∧ Below w.heap.size w w' := by
  subst hY hT hb; exact reftake_any c f y t now w

set_option maxHeartbeats 1000000 in
set_option maxRecDepth 100000 in
theorem bworks_any (w : World) : Calls Try.prog 19 #[] w fun e w' => e = .returned (.bool true) ∧ Below w.heap.size w w' := by
  have hfld : ∀ wx, (Instr.field 23 (.agg #[.int .i64 3, .int .i64 2, .int .i64 3, .int .i64 9]) 2).run Try.prog wx = .ok (.int .i64 3) wx := fun _ => by kernel_rfl
  go_enter Try.func19, Try.ntmps19
  go_wp2_with fail
  refine (new_any _ _ _ _ _).mono ?_
  rintro e w1 ⟨rfl, b1⟩
  go_wp2_with fail
  refine (take_lit 3 2 0 0 0 0 0 false _ (by decide) (by decide) (by decide)).mono ?_
  rintro e w2 ⟨rfl, b2⟩
  have q1 := keepB b2 (newB w1 _ _) (by simp)
  have z2 : w1.heap.size < w2.heap.size := by have := b2.size; simp at this; omega
  have B2 : Below w.heap.size w w2 := (b1.alloc b1.size _).trans (b2.mono (by have := b1.size; simp; omega))
  clear b2
  go_wp2_with fail
  refine (take_lit 3 2 0 0 1 1 1 true _ (by decide) (by decide) (by decide)).mono ?_
  rintro e w3 ⟨rfl, b3⟩
  have q2 := keepB b3 (oldB _ q1 z2) (by simp; omega)
  have z3 : w2.heap.size < w3.heap.size := by have := b3.size; simp at this; omega
  have B3 : Below w.heap.size w w3 := (B2.alloc B2.size _).trans (b3.mono (by have := B2.size; simp; omega))
  clear b3 q1
  go_wp2_with fail
  refine (take_lit 3 2 1 1 1 0 1 true _ (by decide) (by decide) (by decide)).mono ?_
  rintro e w4 ⟨rfl, b4⟩
  have q3 := keepB b4 (oldB _ q2 (by omega)) (by simp; omega)
  have z4 : w3.heap.size < w4.heap.size := by have := b4.size; simp at this; omega
  have B4 : Below w.heap.size w w4 := (B3.alloc B3.size _).trans (b4.mono (by have := B3.size; simp; omega))
  clear b4 q2
  go_wp2_with fail
  refine (take_lit 3 2 0 1 1 0 1 false _ (by decide) (by decide) (by decide)).mono ?_
  rintro e w5 ⟨rfl, b5⟩
  have q4 := keepB b5 (oldB _ q3 (by omega)) (by simp; omega)
  have r4 := keepB b5 (newB w4 _ _) (by simp)
  have z5 : w4.heap.size < w5.heap.size := by have := b5.size; simp at this; omega
  have B5 : Below w.heap.size w w5 := (B4.alloc B4.size _).trans (b5.mono (by have := B4.size; simp; omega))
  clear b5 q3
  go_wp2_with fail
  refine (at_lit 3 2 0 1 9 3 9 _ (by decide) (by decide)).mono ?_
  rintro e w6 ⟨rfl, b6⟩
  have q5 := keepB b6 (oldB _ q4 (by omega)) (by simp; omega)
  have B6 : Below w.heap.size w w6 := (B5.alloc B5.size _).trans (b6.mono (by have := B5.size; simp; omega))
  clear b6 q4 r4
  go_wp2_with fail
  refine (right_lit 3 2 0 0 _ true (by decide)).mono ?_
  rintro e w7 ⟨rfl, b7⟩
  go_wp2_with fail
  go_ret
  exact ⟨rfl, B6.trans (b7.mono B6.size)⟩

theorem open_bucket {H : Type} {enc : TypeId × Value → H} {W : World} {base : Nat} {sp : Nat → Bool} {held : Bool} {r : Reach} {b0 : Nat} {v : Value} {d : DataW H} {ps : List MemPlace}
    (hv : Value.okWide Try.prog W r b0 23 v) (h : DataW.Trod enc Try.prog W base sp held 23 v d ps) :
    ∃ c f y t, v = .agg #[.int .i64 c, .int .i64 f, .int .i64 y, .int .i64 t] ∧ In c ∧ In f ∧ In y ∧ In t := by
  obtain ⟨v0, v1, v2, v3, y0, y1, y2, y3, n, rfl, _, _, h0, h1, h2, h3⟩ := Joins.open_agg4 Try.underlying23 (by kernel_rfl) (by kernel_rfl) hv h
  obtain ⟨a0, e0, _, w0⟩ := DataW.trod_int Try.underlying3 h0
  obtain ⟨a1, e1, _, w1⟩ := DataW.trod_int Try.underlying3 h1
  obtain ⟨a2, e2, _, w2⟩ := DataW.trod_int Try.underlying3 h2
  obtain ⟨a3, e3, _, w3⟩ := DataW.trod_int Try.underlying3 h3
  simp at e0 e1 e2 e3
  subst e0 e1 e2 e3
  exact ⟨a0, a1, a2, a3, rfl, wf_in w0, wf_in w1, wf_in w2, wf_in w3⟩

namespace bucketTellsW
set_option maxHeartbeats 2000000 in
set_option maxRecDepth 100000 in
theorem walk (c f y t now : Int) (w : World) :
    Calls Try.prog 3 #[.agg #[.int .i64 c, .int .i64 f, .int .i64 y, .int .i64 t], .int .i64 now] w fun e w' => e = .returned (.bool true) ∧ Below w.heap.size w w' := by
  obtain ⟨Y, hY⟩ : ∃ Y, takeH c f y t now = Y := ⟨_, rfl⟩
  obtain ⟨T, hT⟩ : ∃ T, takeT c f y t now = T := ⟨_, rfl⟩
  obtain ⟨B, hB⟩ : ∃ B, takeOk c f y t now = B := ⟨_, rfl⟩
  obtain ⟨Y1, hY1⟩ : ∃ Y, atH c f y t now = Y := ⟨_, rfl⟩
  obtain ⟨T1, hT1⟩ : ∃ T, atT c f y t now = T := ⟨_, rfl⟩
  obtain ⟨R, hR⟩ : ∃ R, rightB c f y t = R := ⟨_, rfl⟩
  have EY := Lib.hid hY
  have ET := Lib.hid hT
  have EB := Lib.hid hB
  have EY1 := Lib.hid hY1
  have ET1 := Lib.hid hT1
  have ER := Lib.hid hR
  clear hY hT hB hY1 hT1 hR
  go_enter Try.func3, Try.ntmps3
  go_wp2_with fail
  refine (take_lit c f y t now Y T B _ EY.out ET.out EB.out).mono ?_
  rintro e w1 ⟨rfl, b1⟩
  have q1 := keepB b1 (newB w _ _) (by simp)
  have z1 : w.heap.size < w1.heap.size := by have := b1.size; simp at this; omega
  have B1 : Below w.heap.size w w1 := ((Below.refl w.heap.size w).alloc (Nat.le_refl _) _).trans (b1.mono (by simp))
  clear b1
  go_wp2_with fail
  refine (reftake_lit c f y t now Y T B _ EY.out ET.out EB.out).mono ?_
  rintro e w2 ⟨rfl, b2⟩
  have q2 := keepB b2 (oldB _ q1 z1) (by simp; omega)
  have p2 := keepB b2 (newB w1 _ _) (by simp)
  have z2 : w1.heap.size < w2.heap.size := by have := b2.size; simp at this; omega
  have z12 : w.heap.size < w2.heap.size := by omega
  have B2 : Below w.heap.size w w2 := (B1.alloc B1.size _).trans (b2.mono (by have := B1.size; simp; omega))
  clear b2 q1
  go_wp2_with fail
  refine (new_any _ _ _ _ _).mono ?_
  rintro e w3 ⟨rfl, b3⟩
  have q3 := keepB b3 (oldB _ q2 (by omega)) (by simp; omega)
  have p3 := keepB b3 (oldB _ p2 (by omega)) (by simp; omega)
  have n3 := keepB b3 (newB w2 _ _) (by simp)
  have z3 : w2.heap.size < w3.heap.size := by have := b3.size; simp at this; omega
  have B3 : Below w.heap.size w w3 := (B2.alloc B2.size _).trans (b3.mono (by have := B2.size; simp; omega))
  clear b3 q2 p2
  go_upto_region 4 with (fail)
  have B4 := B3.alloc B3.size (.cells #[.int .i64 c, .int .i64 f, .int .i64 0, .int .i64 now] 23)
  have q4 := oldB (.cells #[.int .i64 c, .int .i64 f, .int .i64 0, .int .i64 now] 23) q3 (by omega)
  have p4 := oldB (.cells #[.int .i64 c, .int .i64 f, .int .i64 0, .int .i64 now] 23) p3 (by omega)
  have n4 := oldB (.cells #[.int .i64 c, .int .i64 f, .int .i64 0, .int .i64 now] 23) n3 z3
  have m4 := newB w3 #[.int .i64 c, .int .i64 f, .int .i64 0, .int .i64 now] 23
  have z4 : w3.heap.size < (w3.alloc (.cells #[.int .i64 c, .int .i64 f, .int .i64 0, .int .i64 now] 23)).heap.size := by simp
  generalize w3.alloc (.cells #[.int .i64 c, .int .i64 f, .int .i64 0, .int .i64 now] 23) = w4 at *
  have q5 := regB q4 (by omega)
  have p5 := regB p4 (by omega)
  have n5 := regB n4 (by omega)
  have m5 := regB m4 (by omega)
  clear q3 p3 n3 q4 p4 n4 m4 B1 B2 B3
  refine wp_region_quiet_below (by kernel_rfl) (by kernel_rfl) ?_
  repeat (go_big_quiet_step ((first
    | (go_at_call 15; exact Calls.regrown_of (right_lit _ _ _ _ _ _ ER.out))
    | (go_at_call 16; exact Calls.regrown_of (refright_lit _ _ _ _ _ _ ER.out))
    | (go_at_call 17; exact Calls.regrown_of (at_lit _ _ _ _ _ _ _ _ EY1.out ET1.out))
    | (go_at_call 18; exact Calls.regrown_of (refat_lit _ _ _ _ _ _ _ _ EY1.out ET1.out))
    | (go_at_call 19; exact Calls.regrown_of (bworks_any _)))))
  refine wpQuiet_nil ?_
  intro _ hw'
  obtain ⟨⟨dq, osq⟩, hw''⟩ := hw'
  subst hw''
  have b5 := below_regrown w4 dq osq
  generalize grow (redrawn w4 dq) osq = w5 at *
  go_wp2_with fail
  go_ret
  exact ⟨rfl, B4.trans (b5.mono B4.size)⟩

theorem walkRaw {H : Type} (enc : TypeId × Value → H) (v0 : Value) (a1 : Int) (W : World) {base : Nat} {d0 : DataW H} {p0 : List MemPlace}
    (wv0 : Value.okWide Try.prog W .any base 23 v0) (h0 : DataW.Trod enc Try.prog W 0 (fun _ => true) true 23 v0 d0 p0) (_lt0 : ∀ x ∈ p0, x.block < W.heap.size)
    (_w1 : (Lit.int .i64 a1).wf = true) :
    Calls Try.prog 3 #[v0, .int .i64 a1] W fun e w' => e = .returned (.bool true) ∧ Below W.heap.size W w' := by
  obtain ⟨c, f, y, t, rfl, _, _, _, _⟩ := open_bucket wv0 h0
  exact walk c f y t a1 W
end bucketTellsW
end Go.Proofs.Ytikpbhfjmlfooaa
