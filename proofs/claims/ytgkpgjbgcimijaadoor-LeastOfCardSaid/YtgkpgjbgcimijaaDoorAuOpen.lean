/-
  The walk of least's (*parts).open. Conditions: the classes lie in memory; the states are right.
-/
import Derived.Test.YtgkpgjbgcimijaaDoorAuPut
import Derived.Test.YtgkpgjbgcimijaaDoorAuWait
namespace Go.Proofs.YtgkpgjbgcimijaaDoor
set_option linter.unusedVariables false
set_option linter.unusedSimpArgs false
open Go.RowKit Go.Maps Go.Sort Go.ChangeShapes Go.WideShapes

theorem infoRow : (Tryd.prog.info? 23).map (fun i => (i.zero, i.size, i.bytes)) = some (some (.slice none 0 0), 1, 24) := by kernel_rfl
theorem infoBool : (Tryd.prog.info? 4).map (fun i => (i.zero, i.size, i.bytes)) = some (some (.bool false), 1, 1) := by kernel_rfl
theorem own_shape {w : World} {B : Nat} {e : TypeId} {size n : Nat} {v : Value} {xs : List Value} (h : w.ownsRow B e size v n xs) : ∃ a c, v = .slice a n c := by
  rcases h.2 with ⟨rfl, rfl⟩ | ⟨g, cap, cur, rfl, -⟩
  · exact ⟨none, 0, rfl⟩
  · exact ⟨_, cap, rfl⟩

theorem app_mem {w w3 : World} {B p M : Nat} {P : Parts} {cv mv wv kv : Value} {ms : List Value} {sv : Value} {s : List Nat} {g cap : Nat} (h : PartsAt w B p M P cv mv wv kv ms) (hsv : NatsAt w sv s) (hso : ∀ k, sv.ownBlock = some k → k < w.heap.size ∧ k ≠ p ∧ Off k [cv, mv, wv, kv]) 
    (hown : w3.ownsRow B 23 1 (.slice (some ⟨g, 0, none⟩) (P.mem.length + 1) cap) (P.mem.length + 1) (ms ++ [sv])) (hgrow : (w.alloc (.cells #[sv] 23)).grownBy w3 mv.ownBlock) (hat : mv.ownBlock = some g ∨ g = (w.alloc (.cells #[sv] 23)).heap.size) :
    PartsAt (w3.setCell ⟨p, 1, none⟩ (.slice (some ⟨g, 0, none⟩) (P.mem.length + 1) cap)) B p M { P with mem := P.mem ++ [s] } cv (.slice (some ⟨g, 0, none⟩) (P.mem.length + 1) cap) wv kv (ms ++ [sv]) ∧ Only (p :: mv.ownBlock.toList) w (w3.setCell ⟨p, 1, none⟩ (.slice (some ⟨g, 0, none⟩) (P.mem.length + 1) cap)) ∧ Moved w mv (.slice (some ⟨g, 0, none⟩) (P.mem.length + 1) cap) := by
  have hz : (w.alloc (.cells #[sv] 23)).heap.size = w.heap.size + 1 := by simp
  rw [hz] at hat
  have o2 := only_alloc w (.cells #[sv] 23)
  have o3 := only_grown hgrow
  have o4 := only_set1 w3 ⟨p, 1, none⟩ (.slice (some ⟨g, 0, none⟩) (P.mem.length + 1) cap)
  have t0 : Only (p :: mv.ownBlock.toList) w (w3.setCell ⟨p, 1, none⟩ (.slice (some ⟨g, 0, none⟩) (P.mem.length + 1) cap)) := ((o2.more (by simp)).trans (o3.more fun k hk => List.mem_cons_of_mem _ hk)).trans (o4.more (by simp))
  have hgp : g ≠ p := fun e => by
    rcases hat with h1 | h1
    · exact h.offp mv (by simp) (by rw [h1, e])
    · have := h.blk.lt; omega
  have hb3 : Blk w3 p 59 #[cv, mv, wv, kv] := (h.blk.alloc _).grown hgrow fun e => h.offp mv (by simp) e.symm
  have hb4 := hb3.set_ 1 (.slice (some ⟨g, 0, none⟩) (P.mem.length + 1) cap)
  have hown4 := own_set hown (a := ⟨p, 1, none⟩) (.slice (some ⟨g, 0, none⟩) (P.mem.length + 1) cap) (fun e => hgp (Option.some.inj e))
  have hq := put_mem h hsv hso t0 (by simpa using hb4) hown4 (fun k hk => by
    obtain rfl : g = k := Option.some.inj hk
    rcases hat with h1 | h1
    · exact .inl h1
    · exact .inr (by omega))
  refine ⟨hq, t0, ?_⟩
  rcases hat with h1 | h1
  · exact .inl h1.symm
  · exact .inr ⟨g, rfl, by omega⟩
theorem app_wai {w w3 : World} {B p M : Nat} {P : Parts} {cv mv wv kv : Value} {ms : List Value} {b : Bool} {g cap : Nat} (h : PartsAt w B p M P cv mv wv kv ms) 
    (hown : w3.ownsRow B 4 1 (.slice (some ⟨g, 0, none⟩) (P.wai.length + 1) cap) (P.wai.length + 1) ((P.wai.map .bool) ++ [.bool b])) (hgrow : (w.alloc (.cells #[.bool b] 4)).grownBy w3 wv.ownBlock) (hat : wv.ownBlock = some g ∨ g = (w.alloc (.cells #[.bool b] 4)).heap.size) :
    PartsAt (w3.setCell ⟨p, 2, none⟩ (.slice (some ⟨g, 0, none⟩) (P.wai.length + 1) cap)) B p M { P with wai := P.wai ++ [b] } cv mv (.slice (some ⟨g, 0, none⟩) (P.wai.length + 1) cap) kv ms ∧ Only (p :: wv.ownBlock.toList) w (w3.setCell ⟨p, 2, none⟩ (.slice (some ⟨g, 0, none⟩) (P.wai.length + 1) cap)) ∧ Moved w wv (.slice (some ⟨g, 0, none⟩) (P.wai.length + 1) cap) := by
  have hz : (w.alloc (.cells #[.bool b] 4)).heap.size = w.heap.size + 1 := by simp
  rw [hz] at hat
  have o2 := only_alloc w (.cells #[.bool b] 4)
  have o3 := only_grown hgrow
  have o4 := only_set1 w3 ⟨p, 2, none⟩ (.slice (some ⟨g, 0, none⟩) (P.wai.length + 1) cap)
  have t0 : Only (p :: wv.ownBlock.toList) w (w3.setCell ⟨p, 2, none⟩ (.slice (some ⟨g, 0, none⟩) (P.wai.length + 1) cap)) := ((o2.more (by simp)).trans (o3.more fun k hk => List.mem_cons_of_mem _ hk)).trans (o4.more (by simp))
  have hgp : g ≠ p := fun e => by
    rcases hat with h1 | h1
    · exact h.offp wv (by simp) (by rw [h1, e])
    · have := h.blk.lt; omega
  have hb3 : Blk w3 p 59 #[cv, mv, wv, kv] := (h.blk.alloc _).grown hgrow fun e => h.offp wv (by simp) e.symm
  have hb4 := hb3.set_ 2 (.slice (some ⟨g, 0, none⟩) (P.wai.length + 1) cap)
  have hown4 := own_set hown (a := ⟨p, 2, none⟩) (.slice (some ⟨g, 0, none⟩) (P.wai.length + 1) cap) (fun e => hgp (Option.some.inj e))
  have hq := put_wai (l := P.wai ++ [b]) h t0 (by simpa using hb4) (by rw [List.length_append, List.map_append]; exact hown4) (fun k hk => by
    obtain rfl : g = k := Option.some.inj hk
    rcases hat with h1 | h1
    · exact .inl h1
    · exact .inr (by omega))
  refine ⟨hq, t0, ?_⟩
  rcases hat with h1 | h1
  · exact .inl h1.symm
  · exact .inr ⟨g, rfl, by omega⟩

set_option maxRecDepth 100000 in
set_option maxHeartbeats 8000000 in
theorem open_any (w : World) (B p M : Nat) (P : Parts) (cv mv wv kv sv : Value) (ms : List Value) (s : List Nat) (h : PartsAt w B p M P cv mv wv kv ms) (hsv : NatsAt w sv s) (hso : ∀ k, sv.ownBlock = some k → k < w.heap.size ∧ k ≠ p ∧ Off k [cv, mv, wv, kv])
    (hs : ∀ n ∈ s, n < M) (hm : P.mem.length ≤ 1000000) (hw : P.wai.length ≤ 1000000) (hM : M ≤ maxLen) (hsl : s.length ≤ 1000000) (hB : B ≤ w.heap.size) :
    Calls Tryd.prog 37 #[.pointer (some ⟨p, 0, none⟩), sv] w fun e w' => e = .returned (.int .i64 P.mem.length) ∧ ∃ mv' wv', PartsAt w' B p M (P.opens s) cv mv' wv' kv (ms ++ [sv]) ∧ Only (partS p cv mv wv kv) w w' ∧ Moved w mv mv' ∧ Moved w wv wv' := by
  obtain ⟨am, capm, rfl⟩ := own_shape h.mem
  obtain ⟨asv, caps, rfl, hsc⟩ := id hsv
  obtain ⟨⟨b0, b1, b2, b3⟩, z0, z1, z2, z3⟩ := h.blk.c4
  obtain ⟨i0, hi0, hz00, hz01, hz02⟩ := info_parts infoRow
  obtain ⟨j0, hj0, hy00, hy01, hy02⟩ := info_parts infoBool
  have hone := one_at (w := w) (u := .slice asv s.length caps) (t := 23)
  have hown2 := h.mem.alloc (.cells #[.slice asv s.length caps] 23)
  have hblk2 := h.blk.alloc (.cells #[.slice asv s.length caps] 23)
  have hpm : some p ≠ (Value.slice am P.mem.length capm).ownBlock := fun e => h.offp (.slice am P.mem.length capm) (by simp) e.symm
  have H := Lib.hid (And.intro h (And.intro hsv hso))
  clear h hsv hso hsc
  go_enter Tryd.func37, Tryd.ntmps37
  go_wp2_with (first
    | (at_builtin; refine wpList_append_lies _ rfl _ _ 24 rfl B 23 i0 (.slice none 0 0) 1 24 Tryd.underlying24 hi0 hz00 hz01 hz02 rfl (by decide) _ _ _ rfl hown2 ⟨w.heap.size, 0, none⟩ 1 1 [.slice asv s.length caps] rfl rfl hone (fun u hu => by simp at hu; subst hu; rfl) (by decide) (by unfold maxLen; omega) (by omega) (by simp; omega) _ rfl ?_; intro g cap w3 hown3 hgrow3 hat3 hlt3; obtain ⟨⟨y0, y1, y2, y3⟩, x0, x1, x2, x3⟩ := (hblk2.grown hgrow3 hpm).c4)
    | (at_builtin; obtain ⟨hQ, oQ, mQ⟩ := app_mem H.out.1 H.out.2.1 H.out.2.2 hown3 hgrow3 hat3; refine wpList_append_lies _ rfl _ _ 22 rfl B 4 j0 (.bool false) 1 1 Tryd.underlying22 hj0 hy00 hy01 hy02 rfl (by decide) _ _ _ rfl (hQ.wai.alloc (.cells #[.bool false] 4)) ⟨w3.heap.size, 0, none⟩ 1 1 [.bool false] rfl rfl (by have := one_at (w := w3.setCell ⟨p, 1, none⟩ (.slice (some ⟨g, 0, none⟩) (P.mem.length + 1) cap)) (u := .bool false) (t := 4); simpa using this) (fun u hu => by simp at hu; subst hu; rfl) (by decide) (by show P.wai.length + 1 ≤ maxLen; unfold maxLen; omega) (by show (P.wai.length + 1) * 1 ≤ 140737488355328; omega) (by have := oQ.size; simp at this; simp; omega) _ rfl ?_; intro g2 cap2 w5 hown5 hgrow5 hat5 hlt5; obtain ⟨⟨v0, v1, v2, v3⟩, u0, u1, u2, u3⟩ := ((hQ.blk.alloc (.cells #[.bool false] 4)).grown hgrow5 (fun e => hQ.offp wv (by simp) e.symm)).c4))
  obtain ⟨hQ2, oQ2, mQ2⟩ := app_wai (b := false) hQ hown5 hgrow5 hat5
  have H2 := Lib.hid (And.intro oQ (And.intro mQ (And.intro oQ2 mQ2)))
  have hpl : P.mem.length < 9223372036854775807 := by omega
  clear oQ mQ oQ2 mQ2 hQ hown5 hgrow5 hat5 hown3 hgrow3 hat3 hown2 hone hblk2 hpm v0 v1 v2 v3 u0 u1 u2 u3 y0 y1 y2 y3 x0 x1 x2 x3 b0 b1 b2 b3 z0 z1 z2 z3
  generalize w5.setCell ⟨p, 2, none⟩ (.slice (some ⟨g2, 0, none⟩) (P.wai.length + 1) cap2) = W at *
  have hQ3 : PartsAt W B p M { cls := fun n => if n ∈ s.take 0 then P.mem.length else P.cls n, mem := P.mem ++ [s], wai := P.wai ++ [false], work := P.work } cv (.slice (some ⟨g, 0, none⟩) (P.mem.length + 1) cap) (.slice (some ⟨g2, 0, none⟩) (P.wai.length + 1) cap2) kv (ms ++ [.slice asv s.length caps]) := by
    simpa using hQ2
  clear hQ2
  go_loopw [7, 34] (fun c7 c34 wr => ∃ j : Nat, j ≤ s.length ∧ c34 = .int .i64 j ∧ Hid (PartsAt wr B p M { cls := fun n => if n ∈ s.take j then P.mem.length else P.cls n, mem := P.mem ++ [s], wai := P.wai ++ [false], work := P.work } cv (.slice (some ⟨g, 0, none⟩) (P.mem.length + 1) cap) (.slice (some ⟨g2, 0, none⟩) (P.wai.length + 1) cap2) kv (ms ++ [.slice asv s.length caps]) ∧ Only cv.ownBlock.toList W wr)) (fun _ c _ => s.length - (intOf c).toNat)
  case atStart => exact ⟨0, by omega, rfl, Lib.hid ⟨hQ3, Only.refl _ _⟩⟩
  case round =>
    clear hQ3
    obtain ⟨j, hj, rfl, hr⟩ := hrel
    by_cases hlt : j < s.length
    · have hml : ms.length = P.mem.length := by have := H.out.1.mem.1; omega
      obtain ⟨v, hv, hn, -⟩ := hr.out.1.rows P.mem.length s (by rw [List.getElem?_append_right (Nat.le_refl _), Nat.sub_self]; rfl)
      rw [← hml, List.getElem?_append_right (Nat.le_refl _), Nat.sub_self] at hv
      obtain rfl := Option.some.inj hv
      obtain ⟨n, hx⟩ : ∃ n, s[j]? = some n := ⟨_, List.getElem?_eq_getElem hlt⟩
      have hnM := hs n (List.mem_of_getElem? hx)
      obtain ⟨a, cp, he, h0 | ⟨bs, off, rfl, hbs, hcell⟩⟩ := hn
      · rw [h0] at hlt; cases hlt
      obtain ⟨rfl, rfl⟩ : asv = some ⟨bs, off, none⟩ ∧ caps = cp := by simpa using he
      have m0 := hcell j n hx
      obtain ⟨gc, capc, rfl, -, -⟩ := hr.out.1.cls.form (by omega)
      have k0 := hr.out.1.cls.cellAt n (by omega)
      have k1 := hr.out.1.cls.frozenAt n
      have k2 := hr.out.1.blk.c4.1.1
      have k3 : (clsCells (fun n => if n ∈ s.take j then P.mem.length else P.cls n) M)[n]? = some (.int .i64 (((if n ∈ s.take j then P.mem.length else P.cls n) : Nat) : Int)) := by
        simp [clsCells, List.getElem?_range hnM]
      rw [k3] at k0
      have hnM' : n < M := hnM
      have hMi : M ≤ 9223372036854775807 := hM
      obtain ⟨z, hz⟩ : ∃ z : Nat, (if n ∈ s.take j then P.mem.length else P.cls n) = z := ⟨_, rfl⟩
      rw [hz] at k0
      obtain ⟨hput, hpo⟩ := put_cls (c := P.mem.length) hr.out.1 hnM
      have hcls : (fun m => if m = n then P.mem.length else if m ∈ s.take j then P.mem.length else P.cls m) = fun m => if m ∈ s.take (j + 1) then P.mem.length else P.cls m := by
        funext m
        have ht : s.take (j + 1) = s.take j ++ [n] := by rw [List.take_add_one, hx]; rfl
        rw [ht]
        by_cases e : m = n
        · subst e; simp
        · simp [e]
      simp only [hcls] at hput
      have HP := Lib.hid (And.intro hput (hr.out.2.trans (hpo.more (T := (Value.slice (some ⟨gc, 0, none⟩) M capc).ownBlock.toList) (fun k hk => hk))))
      clear hcell hput hpo hcls hz k3 he hnM
      go_wp2_with fail
      go_roundw
      case rel => exact ⟨j + 1, by omega, by go_num, HP⟩
      case measure => simp [intOf]; omega
    · obtain rfl : j = s.length := by omega
      go_wp2_with fail
      go_ret
      refine ⟨rfl, _, _, by have := hr.out.1; rw [List.take_length] at this; exact this, ?_, H2.out.2.1, ?_⟩
      · refine ((H2.out.1.more fun k hk => ?_).trans (H2.out.2.2.1.more fun k hk => ?_)).trans (hr.out.2.more fun k hk => ?_)
        all_goals
          rw [partS_mem]
          simp at hk
        · rcases hk with e | e
          · exact .inl e
          · exact .inr (.inr (.inl e))
        · rcases hk with e | e
          · exact .inl e
          · exact .inr (.inr (.inr (.inl e)))
        · exact .inr (.inl hk)
      · rcases H2.out.2.2.2 with e | ⟨k, e1, e2⟩
        · exact .inl e
        · exact .inr ⟨k, e1, by have := H2.out.1.size; omega⟩
end Go.Proofs.YtgkpgjbgcimijaaDoor
