/-
  The walk of least's (*parts).apart. Conditions: the classes lie in memory; the states are right.
-/
import Derived.Test.YtgkpgjbgcimijaaDoorAuOpen
import Derived.Test.YtgkpgjbgcimijaaDoorAuPut2
namespace Go.Proofs.YtgkpgjbgcimijaaDoor
set_option linter.unusedVariables false
set_option linter.unusedSimpArgs false
open Go.RowKit Go.Maps Go.Sort Go.ChangeShapes Go.WideShapes

set_option maxRecDepth 100000 in
set_option maxHeartbeats 8000000 in
theorem apart_any (w : World) (B p M : Nat) (P : Parts) (cv mv wv kv sv : Value) (ms : List Value) (s t : List Nat) (c : Nat) (h : PartsAt w B p M P cv mv wv kv ms) (hsv : NatsAt w sv s) (hso : ∀ k, sv.ownBlock = some k → k < w.heap.size ∧ k ≠ p ∧ Off k [cv, mv, wv, kv])
    (hs : ∀ n ∈ s, n < M) (ht : P.mem[c]? = some t) (htM : ∀ n ∈ t, n < M) (hlen : P.wai.length = P.mem.length) (hm : P.mem.length < 1000000) (hM : M ≤ maxLen) (hsl : s.length ≤ 1000000) (htl : t.length ≤ 1000000) (hk : P.work.length ≤ 1000000) (hB : B ≤ w.heap.size) :
    Calls Tryd.prog 40 #[.pointer (some ⟨p, 0, none⟩), .int .i64 c, sv] w fun e w' => e = .returned (.tuple #[]) ∧ ∃ mv' wv' kv' ms', PartsAt w' B p M (P.apart c s) cv mv' wv' kv' ms' ∧ Only (partS p cv mv wv kv) w w' ∧ Moved w mv mv' ∧ Moved w wv wv' ∧ Moved w kv kv' := by
  have hcl : c < P.mem.length := (List.getElem?_eq_some_iff.1 ht).1
  have hgd : P.mem.getD c [] = t := by rw [List.getD_eq_getElem?_getD, ht]; rfl
  obtain ⟨gm, capm, rfl, hgB, hgl⟩ := h.mem.form (by omega)
  obtain ⟨v, hv, hn, hoff⟩ := h.rows c t ht
  obtain ⟨at_, capt, rfl, hct⟩ := id hn
  obtain ⟨asv, caps, rfl, hcs⟩ := id hsv
  obtain ⟨⟨b0, b1, b2, b3⟩, z0, z1, z2, z3⟩ := h.blk.c4
  have m0 := h.mem.cellAt c (by omega)
  rw [hv] at m0
  have hmm : P.mem.length ≤ 9223372036854775807 := by omega
  by_cases heq : s.length = t.length
  · have k1 : ((s.length : Int) == (t.length : Int)) = true := by simp [heq]
    have HA : Hid (P.apart c s = P) := Lib.hid (by unfold Parts.apart; rw [if_pos (by rw [hgd]; exact heq)])
    have H := Lib.hid h
    clear h hsv hso hct hcs hn heq
    go_enter Tryd.func40, Tryd.ntmps40
    go_wp2_with fail
    refine bodyPost_ret (results_none rfl _ _ _) rfl ⟨rfl, _, _, _, _, by rw [HA.out]; exact H.out, Only.refl _ _, Moved.same _ _, Moved.same _ _, Moved.same _ _⟩
  have k1 : ((s.length : Int) == (t.length : Int)) = false := by simp; omega
  have hop := open_any w B p M P cv _ wv kv _ ms s h hsv hso hs (by omega) (by omega) hM hsl hB
  have HT := Lib.hid heq
  have H := Lib.hid (And.intro h (And.intro hn hoff))
  obtain ⟨i0, hi0, hz00, hz01, hz02⟩ := info_parts infoInt
  clear h hsv hso hct hcs hn heq hoff
  go_enter Tryd.func40, Tryd.ntmps40
  go_wp2_with fail
  refine hop.mono ?_
  rintro e w1 ⟨rfl, mv1, wv1, hP1, o1, mo1, mo2⟩
  have hQm : (P.opens s).mem.length = P.mem.length + 1 := by simp [Parts.opens]
  have hQw : (P.opens s).wai = P.wai ++ [false] := rfl
  have hQt : (P.opens s).mem[c]? = some t := by
    show (P.mem ++ [s])[c]? = _
    rw [List.getElem?_append_left hcl]; exact ht
  have hQk : (P.opens s).work = P.work := rfl
  have hml : ms.length = P.mem.length := by have := H.out.1.mem.1; omega
  have hv1 : (ms ++ [Value.slice asv s.length caps])[c]? = some (.slice at_ t.length capt) := by rw [List.getElem?_append_left (by omega)]; exact hv
  obtain ⟨Q, hQ⟩ : ∃ Q, P.opens s = Q := ⟨_, rfl⟩
  have HQ := Lib.hid hQ
  rw [hQ] at hP1 hQm hQw hQt hQk
  obtain ⟨gm1, capm1, rfl, hg1B, hg1l⟩ := hP1.mem.form (by omega)
  obtain ⟨gw1, capw1, rfl, hw1B, hw1l⟩ := hP1.wai.form (by rw [hQw]; simp)
  obtain ⟨⟨y0, y1, y2, y3⟩, x0, x1, x2, x3⟩ := hP1.blk.c4
  have m1 := hP1.mem.cellAt c (by omega)
  rw [hv1] at m1
  have H1 := Lib.hid (And.intro hP1 (And.intro o1 (And.intro mo1 mo2)))
  have hQl : Q.mem.length ≤ 9223372036854775807 := by omega
  have hcQ : c < Q.mem.length := by omega
  clear hP1 o1 mo1 mo2 hop hQ b0 b1 b2 b3 z0 z1 z2 z3 m0 hv1
  go_wp2_with fail
  have HY := Lib.hid (And.intro y0 (And.intro y1 (And.intro y2 (And.intro y3 m1))))
  clear y1 y2 y3 m1 x0 x1 x2 x3
  go_loopw [7, 9, 32] (fun c7 _ c32 wr => ∃ j : Nat, j ≤ t.length ∧ c32 = .int .i64 j ∧ wr.ownsRow w1.heap.size 3 1 c7 ((t.take j).filter fun m => decide (Q.cls m = c)).length (natCells ((t.take j).filter fun m => decide (Q.cls m = c))) ∧ Below w1.heap.size w1 wr) (fun _ _ x _ => t.length - (intOf x).toNat)
  case atStart => exact ⟨0, by omega, rfl, World.ownsRow_nil _ _ _ _, Below.refl _ _⟩
  case round =>
    clear y0
    obtain ⟨j, hj, rfl, hown, hb⟩ := hrel
    by_cases hlt : j < t.length
    · have hPr := H1.out.1.below hb
      obtain ⟨v2, hv2, hn2, -⟩ := hPr.rows c t hQt
      rw [List.getElem?_append_left (by omega), hv] at hv2
      obtain rfl := Option.some.inj hv2
      obtain ⟨n, hx⟩ : ∃ n, t[j]? = some n := ⟨_, List.getElem?_eq_getElem hlt⟩
      have hnM := htM n (List.mem_of_getElem? hx)
      obtain ⟨a, cp, he, h0 | ⟨bs, off, rfl, hbs, hcell⟩⟩ := hn2
      · rw [h0] at hlt; cases hlt
      obtain ⟨rfl, rfl⟩ : at_ = some ⟨bs, off, none⟩ ∧ capt = cp := by simpa using he
      have m2 := hcell j n hx
      obtain ⟨gc, capc, rfl, -, -⟩ := hPr.cls.form (by omega)
      have k0 := hPr.cls.cellAt n (by omega)
      have k2 := hPr.blk.c4.1.1
      have k3 : (clsCells Q.cls M)[n]? = some (.int .i64 (Q.cls n : Int)) := by simp [clsCells, List.getElem?_range hnM]
      rw [k3] at k0
      have hMi : M ≤ 9223372036854775807 := hM
      have hfil : (t.take (j + 1)).filter (fun m => decide (Q.cls m = c)) = (t.take j).filter (fun m => decide (Q.cls m = c)) ++ if Q.cls n = c then [n] else [] := by
        have ht : t.take (j + 1) = t.take j ++ [n] := by rw [List.take_add_one, hx]; rfl
        rw [ht, List.filter_append]
        congr 1
        by_cases e : Q.cls n = c <;> simp [e]
      have HF := Lib.hid hfil
      have hfl : ((t.take j).filter fun m => decide (Q.cls m = c)).length ≤ j := Nat.le_trans (List.length_filter_le _ _) (by rw [List.length_take]; omega)
      obtain ⟨F, hF⟩ : ∃ F, (t.take j).filter (fun m => decide (Q.cls m = c)) = F := ⟨_, rfl⟩
      rw [hF] at hown hfl HF
      obtain ⟨z, hz⟩ : ∃ z : Nat, Q.cls n = z := ⟨_, rfl⟩
      rw [hz] at k0 HF
      clear hcell hz k3 he hfil hF hPr hv2
      by_cases hzc : z = c
      · have q1 : ((z : Int) == (c : Int)) = true := by simp [hzc]
        have HZ := Lib.hid hzc
        have hown2 := hown.alloc (.cells #[.int .i64 (n : Int)] 3)
        have hone := one_at (w := wr) (u := .int .i64 (n : Int)) (t := 3)
        have hbz := hb.size
        have HO := Lib.hid hown
        clear hzc hown
        go_wp2_with (at_builtin; refine wpList_append_own _ rfl _ _ 23 rfl w1.heap.size 3 i0 (.int .i64 0) 1 8 Tryd.underlying23 hi0 hz00 hz01 hz02 rfl (by decide) _ _ _ rfl hown2 ⟨wr.heap.size, 0, none⟩ 1 1 [.int .i64 (n : Int)] rfl rfl hone (fun u hu => by simp at hu; subst hu; rfl) (by unfold maxLen; omega) (by omega) (by simp; omega) ?_; intro v' w7 hown7 hgrow7 _)
        go_roundw
        case rel =>
          refine ⟨j + 1, by omega, by go_num, ?_, (hb.alloc (o := .cells #[.int .i64 (n : Int)] 3) (by omega)).grown hgrow7 (by simp; omega) (fun k e => (HO.out.lt k e).1)⟩
          rw [HF.out, if_pos HZ.out, natCells_snoc, List.length_append]
          exact hown7
        case measure => simp [intOf]; omega
      · have q1 : ((z : Int) == (c : Int)) = false := by simp; omega
        have HZ := Lib.hid hzc
        clear hzc
        go_wp2_with fail
        go_roundw
        case rel =>
          refine ⟨j + 1, by omega, by go_num, ?_, hb⟩
          rw [HF.out, if_neg HZ.out, List.append_nil]
          exact hown
        case measure => simp [intOf]; omega
    · obtain rfl : j = t.length := by omega
      have hrest : (t.take t.length).filter (fun m => decide (Q.cls m = c)) = P.restOf c s := by
        rw [List.take_length, Parts.restOf, hgd, HQ.out]
      rw [hrest] at hown
      have hrl : (P.restOf c s).length ≤ t.length := by rw [Parts.restOf, hgd]; exact List.length_filter_le _ _
      obtain ⟨R, hR⟩ : ∃ R, P.restOf c s = R := ⟨_, rfl⟩
      rw [hR] at hown hrl
      obtain ⟨ar, capr, rfl⟩ := own_shape hown
      have hPr := H1.out.1.below hb
      have hro : ∀ k, (Value.slice ar R.length capr).ownBlock = some k → k < wr.heap.size ∧ k ≠ p ∧ Off k [cv, .slice (some ⟨gm1, 0, none⟩) Q.mem.length capm1, .slice (some ⟨gw1, 0, none⟩) Q.wai.length capw1, kv] := fun k hk => by
        obtain ⟨h1, h2⟩ := hown.lt k hk
        have hlt := H1.out.1.lt
        have hne : k ∉ partS p cv (.slice (some ⟨gm1, 0, none⟩) Q.mem.length capm1) (.slice (some ⟨gw1, 0, none⟩) Q.wai.length capw1) kv := fun hm => by have := hlt k hm; omega
        rw [partS_mem] at hne
        exact ⟨h2, fun e => hne (.inl e), .mk4 (fun e => hne (.inr (.inl e))) (fun e => hne (.inr (.inr (.inl e)))) (fun e => hne (.inr (.inr (.inr (.inl e))))) (fun e => hne (.inr (.inr (.inr (.inr e)))))⟩
      obtain ⟨hP3, o3⟩ := put_memat hPr hcQ (.of_own hown) hro
      have hpar : ({ Q with mem := Q.mem.set c R } : Parts) = P.parted c s := by rw [Parts.parted, HQ.out, hR]
      rw [hpar] at hP3
      obtain ⟨⟨y0, y1, y2, y3⟩, x0, x1, x2, x3⟩ := hPr.blk.c4
      have f1 := hPr.mem.frozenAt c
      have m1 := hPr.mem.cellAt c (by omega)
      rw [List.getElem?_append_left (by omega), hv] at m1
      have hpg : p ≠ gm1 := hPr.offp.at_ (v := .slice (some ⟨gm1, 0, none⟩) Q.mem.length capm1) (by simp) rfl
      have hpg' : gm1 ≠ p := fun e => hpg e.symm
      have hgg : gm1 ≠ gw1 := (hPr.offm gm1 rfl).at_ (v := .slice (some ⟨gw1, 0, none⟩) Q.wai.length capw1) (by simp) rfl
      have hgg' : gw1 ≠ gm1 := fun e => hgg e.symm
      have hwl : c < Q.wai.length := by rw [hQw]; simp; omega
      have u0 := hPr.wai.cellAt c (by omega)
      obtain ⟨bw, hbw⟩ : ∃ bw, Q.wai[c]? = some bw := ⟨_, List.getElem?_eq_getElem hwl⟩
      rw [List.getElem?_map, hbw] at u0
      simp only [Option.map_some] at u0
      have hpw : (P.parted c s).wai = Q.wai := by rw [← hpar]
      have hpk : (P.parted c s).work = P.work := rfl
      have hpm : (P.parted c s).mem.length = P.mem.length + 1 := parted_len
      have hwb : Q.wai.length = P.mem.length + 1 := by rw [hQw, List.length_append, hlen]; rfl
      have hb3 : B ≤ (wr.setCell ⟨gm1, c, none⟩ (.slice ar R.length capr)).heap.size := by have := hb.size; have := H1.out.2.1.size; simp; omega
      have hwi : Q.wai.length ≤ 9223372036854775807 := by omega
      have hR9 : R.length ≤ 9223372036854775807 := by omega
      have hs9 : s.length ≤ 9223372036854775807 := by omega
      have fin : ∀ (w5 : World) (P' : Parts) (kv' : Value), P.apart c s = P' → PartsAt w5 B p M P' cv (.slice (some ⟨gm1, 0, none⟩) Q.mem.length capm1) (.slice (some ⟨gw1, 0, none⟩) Q.wai.length capw1) kv' ((ms ++ [Value.slice asv s.length caps]).set c (Value.slice ar R.length capr)) →
          Only (partS p cv (.slice (some ⟨gm1, 0, none⟩) Q.mem.length capm1) (.slice (some ⟨gw1, 0, none⟩) Q.wai.length capw1) kv) (wr.setCell ⟨gm1, c, none⟩ (.slice ar R.length capr)) w5 → Moved (wr.setCell ⟨gm1, c, none⟩ (.slice ar R.length capr)) kv kv' →
          ∃ mv' wv' kv' ms', PartsAt w5 B p M (P.apart c s) cv mv' wv' kv' ms' ∧ Only (partS p cv (.slice (some ⟨gm, 0, none⟩) P.mem.length capm) wv kv) w w5 ∧ Moved w (.slice (some ⟨gm, 0, none⟩) P.mem.length capm) mv' ∧ Moved w wv wv' ∧ Moved w kv kv' := fun w5 P' kv' e1 h5 h6 h7 => by
        have hz1 := H1.out.2.1.size
        have hz2 := hb.size
        have new : ∀ {v v' : Value} {k : Nat}, Moved w v v' → v'.ownBlock = some k → v.ownBlock = some k ∨ w.heap.size ≤ k := fun {v v' k} hmv hk => by
          rcases hmv with e | ⟨g, e, hg⟩
          · exact .inl (e ▸ hk)
          · rw [e] at hk
            obtain rfl := Option.some.inj hk
            exact .inr hg
        refine ⟨_, _, kv', _, e1 ▸ h5, ?_, H1.out.2.2.1, H1.out.2.2.2, ?_⟩
        · have q1 : Only (partS p cv (.slice (some ⟨gm, 0, none⟩) P.mem.length capm) wv kv) w wr := H1.out.2.1.moved (Only.of_below (S := []) hb) (by simp)
          have q2 := q1.moved o3 fun k hk => by
            have hk' : k = gm1 := by simpa using hk
            rw [hk']
            rcases new H1.out.2.2.1 (k := gm1) rfl with e | e
            · exact .inl (partS_mem.2 (.inr (.inr (.inl e))))
            · exact .inr e
          refine q2.moved h6 fun k hk => ?_
          rcases partS_mem.1 hk with e | e | e | e | e
          · exact .inl (partS_mem.2 (.inl e))
          · exact .inl (partS_mem.2 (.inr (.inl e)))
          · rcases new H1.out.2.2.1 e with e | e
            · exact .inl (partS_mem.2 (.inr (.inr (.inl e))))
            · exact .inr e
          · rcases new H1.out.2.2.2 e with e | e
            · exact .inl (partS_mem.2 (.inr (.inr (.inr (.inl e)))))
            · exact .inr e
          · exact .inl (partS_mem.2 (.inr (.inr (.inr (.inr e)))))
        · exact (Moved.same w kv).trans h7 (by simp; omega)
      have FIN := Lib.hid fin
      have w1c := wait_any (wr.setCell ⟨gm1, c, none⟩ (.slice ar R.length capr)) B p M (P.parted c s) cv _ _ kv _ hP3 c (by rw [hpw]; exact hwl) (by rw [hpk]; exact hk) hb3
      have w1n := wait_any (wr.setCell ⟨gm1, c, none⟩ (.slice ar R.length capr)) B p M (P.parted c s) cv _ _ kv _ hP3 P.mem.length (by rw [hpw]; omega) (by rw [hpk]; exact hk) hb3
      have hap : P.apart c s = if (P.parted c s).wai.getD c false = true ∨ s.length ≤ R.length then (P.parted c s).wait P.mem.length else (P.parted c s).wait c := by
        rw [Parts.apart, if_neg (by rw [hgd]; exact HT.out), hR]
      have hbd : (P.parted c s).wai.getD c false = bw := by rw [hpw, List.getD_eq_getElem?_getD, hbw]; rfl
      rw [hbd] at hap
      have HAP := Lib.hid hap
      clear hP3 o3 hPr hro fin hap hbd hpar hrest hbw
      cases bw with
      | true =>
        go_wp2_with fail
        refine w1n.mono ?_
        rintro e w5 ⟨rfl, kv', h5, h6, h7⟩
        go_wp2_with fail
        go_end0
        exact ⟨rfl, FIN.out _ _ _ (by rw [HAP.out, if_pos (by simp)]) h5 h6 h7⟩
      | false =>
        by_cases hle : s.length ≤ R.length
        · have g1 : decide (s.length ≤ R.length) = true := decide_eq_true hle
          have HLE := Lib.hid hle
          clear hle
          go_wp2_with fail
          refine w1n.mono ?_
          rintro e w5 ⟨rfl, kv', h5, h6, h7⟩
          go_wp2_with fail
          go_end0
          exact ⟨rfl, FIN.out _ _ _ (by rw [HAP.out, if_pos (.inr HLE.out)]) h5 h6 h7⟩
        · have g1 : decide (s.length ≤ R.length) = false := decide_eq_false hle
          have HLE := Lib.hid hle
          clear hle
          go_wp2_with fail
          refine w1c.mono ?_
          rintro e w5 ⟨rfl, kv', h5, h6, h7⟩
          go_wp2_with fail
          go_end0
          exact ⟨rfl, FIN.out _ _ _ (by rw [HAP.out, if_neg (by rintro (h1 | h1); cases h1; exact HLE.out h1)]) h5 h6 h7⟩
end Go.Proofs.YtgkpgjbgcimijaaDoor
