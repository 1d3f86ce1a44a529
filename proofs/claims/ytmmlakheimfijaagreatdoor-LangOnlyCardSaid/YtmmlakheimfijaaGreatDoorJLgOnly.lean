/-
  The walk of lang.Only. Conditions: the automaton lies in memory; the table of powers lies as laid.
-/
import Derived.Test.YtmmlakheimfijaaGreatDoorJLgFinite
import Derived.Test.YtmmlakheimfijaaGreatDoorJLgFirsts
namespace Go.Proofs.YtmmlakheimfijaaGreatDoor
set_option linter.unusedVariables false
set_option linter.unusedSimpArgs false
open Go.RowKit Go.Maps Go.Sort Go.ChangeShapes Go.WideShapes

/-- what Only may tell -/
def OnlyIs (D : DfaI) (o : OT) : Prop := match o with
  | some t => RightD D ∧ IsOnly (langD D) t
  | none => RightD D → ∀ t, ¬ IsOnly (langD D) t
def onlyV (o : OT) : Value := .tuple #[.string (bsT (o.getD [])), .bool o.isSome]
theorem OnlyIs.some_ {D E : DfaI} (hR : RightD D) (hl : ∀ u, Bytes u → langD E u = langD D u) {t : List Nat} (h : IsOnly (langD E) t) : OnlyIs D (some t) := ⟨hR, h.congr hl⟩
theorem OnlyIs.none_ {D E : DfaI} (hl : ∀ u, Bytes u → langD E u = langD D u) (h : ∀ t, ¬ IsOnly (langD E) t) : OnlyIs D none := fun _ t ht => h t (ht.congr fun u hu => (hl u hu).symm)
set_option maxHeartbeats 8000000 in
set_option maxRecDepth 1000000 in
theorem only_any (v : Value) (D : DfaI) (w : World) (h : DfaAt w v D) (hD : D.In) (hT : Pow10 w) : Calls Tryz.prog 15 #[v] w fun e w' => ∃ o, e = .returned (onlyV o) ∧ OnlyIs D o ∧ Below w.heap.size w w' := by
  cases hr : rightD D with
  | false =>
    obtain ⟨S, af, ab, an, F, B, M, cf, cb, cn, hS, hF, hB, hM, rfl⟩ := h.form
    have hal := (Below.refl w.heap.size w).alloc (Nat.le_refl _) (.cells #[.int .i64 S, .slice af F cf, .slice ab B cb, .slice an M cn] 26)
    have hq := Blk.new w 26 #[.int .i64 S, .slice af F cf, .slice ab B cb, .slice an M cn]
    obtain ⟨⟨y0, y1, y2, y3⟩, -⟩ := hq.c4
    have hcall := dright_any _ D _ (h.below hal) hD
    have H := Lib.hid hal
    have hno : OnlyIs D none := fun hR => by rw [rightD_iff.2 hR] at hr; cases hr
    rw [hr] at hcall
    have HN := Lib.hid hno
    clear h hal hq hr hS hF hB hM hno
    go_enter Tryz.func15, Tryz.ntmps15
    go_wp2_with fail
    refine hcall.mono ?_
    rintro e w1 ⟨rfl, b1⟩
    clear y0 y1 y2 y3
    go_wp2_with fail
    refine bodyPost_ret (results_tmp2 rfl _ _ _) rfl ?_
    exact ⟨none, rfl, HN.out, H.out.trans (b1.mono (by simp))⟩
  | true =>
    have hR := rightD_iff.1 hr
    obtain ⟨S, af, ab, an, F, B, M, cf, cb, cn, hS, hF, hB, hM, rfl⟩ := h.form
    have hal := (Below.refl w.heap.size w).alloc (Nat.le_refl _) (.cells #[.int .i64 S, .slice af F cf, .slice ab B cb, .slice an M cn] 26)
    have hq := Blk.new w 26 #[.int .i64 S, .slice af F cf, .slice ab B cb, .slice an M cn]
    obtain ⟨⟨y0, y1, y2, y3⟩, -⟩ := hq.c4
    have hcall := dright_any _ D _ (h.below hal) hD
    have hz1 : (w.alloc (.cells #[.int .i64 S, .slice af F cf, .slice ab B cb, .slice an M cn] 26)).heap.size = w.heap.size + 1 := by simp
    have H := Lib.hid (And.intro hal (And.intro (h.below hal) (And.intro hq (And.intro (hT.below hal (Nat.le_refl _)) (And.intro hR hD)))))
    rw [hr] at hcall
    clear h hal hq hr hR hS hF hB hM hT
    go_enter Tryz.func15, Tryz.ntmps15
    go_wp2_with fail
    generalize w.alloc (.cells #[.int .i64 S, .slice af F cf, .slice ab B cb, .slice an M cn] 26) = W at *
    refine hcall.mono ?_
    rintro e w1 ⟨rfl, b1⟩
    have hzz := b1.size
    have hq1 := H.out.2.2.1.below b1 (by omega)
    have hT1 := H.out.2.2.2.1.below b1 (Nat.le_refl _)
    have hof := of_any2 _ D w1 (H.out.2.1.below b1) hD hT1
    have hbw := H.out.1.trans (b1.mono H.out.1.size)
    clear y0 y1 y2 y3
    obtain ⟨⟨y0, y1, y2, y3⟩, -⟩ := hq1.c4
    have H1 := Lib.hid (And.intro hbw hq1)
    clear b1 hT1 hbw hcall hq1
    go_wp2_with fail
    refine hof.mono ?_
    rintro e w2 ⟨rv, rfl, -, b2, hkeep⟩
    have hE := ofD_right H.out.2.2.2.2.1
    obtain ⟨S', M', ef, eb, en, ce, ce2, ce3, hS', hM', rfl, -⟩ := RefD.mk_ (hkeep w2 fun _ _ => rfl) hE
    clear y0 y1 y2 y3
    have hq2 := H1.out.2.below b2 (by omega)
    obtain ⟨⟨y0, y1, y2, y3⟩, f0, f1, f2, f3⟩ := hq2.c4
    have hb4 := blk_set4 hq2 (.int .i64 (S' : Int)) (.slice ef M' ce) (.slice eb 256 ce2) (.slice en M' ce3)
    have ho4 := only_set4 w2 w.heap.size (.int .i64 (S' : Int)) (.slice ef M' ce) (.slice eb 256 ce2) (.slice en M' ce3)
    obtain ⟨⟨z0, z1, z2, z3⟩, -⟩ := hb4.c4
    have hh4 := heap_set4 w2 w.heap.size (.int .i64 (S' : Int)) (.slice ef M' ce) (.slice eb 256 ce2) (.slice en M' ce3)
    have hlang := fun u (hu : Bytes u) => ofD_lang H.out.2.2.2.2.1 hu
    go_wp2_with fail
    generalize (((w2.setCell ⟨w.heap.size, 0, none⟩ (.int .i64 (S' : Int))).setCell ⟨w.heap.size, 1, none⟩ (.slice ef M' ce)).setCell ⟨w.heap.size, 2, none⟩ (.slice eb 256 ce2)).setCell ⟨w.heap.size, 3, none⟩ (.slice en M' ce3) = w3 at *
    have hE3 := hkeep w3 fun k hk => hh4 k (by omega)
    have hbw3 := H1.out.1.trans ((b2.mono H1.out.1.size).trans (ho4.below (by have := H1.out.1.size; have := b2.size; omega) (by simp)))
    generalize ofD D = E at *
    have hus := useful_any _ E w3 hE3 hE
    have hd3 := refD_of hb4 hE3
    have hM4 : M' ≤ 4096 := by have := hE.m2; omega
    have hSM : S' < M' := by have := hE.s1; omega
    have hSs : E.aut.start = S' := by show E.start.toNat = S'; omega
    have hmany : E.aut.many = M' := by show E.nx.length = M'; rw [E.nx_len]; exact hM'
    rw [hM'] at hus
    have HP := Lib.hid (And.intro hE (And.intro hM' (And.intro hmany (And.intro hSs hlang))))
    have H3 := Lib.hid (And.intro hbw3 hd3)
    clear hh4 hlang hE3 hbw3 hd3 hE hM' hmany hb4 ho4 hq2 y0 y1 y2 y3 f0 f1 f2 f3 hkeep b2 hof hS' hSs
    refine hus.mono ?_
    rintro e w4 ⟨gu, cu, rfl, hu, b4⟩
    have hd4 := H3.out.2.below b4
    have hbw4 := H3.out.1.trans (b4.mono H3.out.1.size)
    clear z0 z1 z2 z3 hus
    obtain ⟨⟨z0, z1, z2, z3⟩, -⟩ := hd4.q.c4
    have H4 := Lib.hid (And.intro hbw4 (And.intro hd4 hu))
    have hgu := (hu.lt gu rfl).2
    clear hd4 hbw4 hu b4
    obtain ⟨i0, hi0, hz00, hz01, hz02⟩ := info_parts infoByteL
    go_wp2_with fail
    clear z0 z1 z2 z3
    go_loopg [5, 6] M' (fun gk v5 c6 wr => ∃ out : List Nat, gk + out.length = M' ∧ c6 = .int .i64 (E.aut.at_ E.blk out : Nat) ∧ Hid (OnWay (langD E) out ∧ (out = [] ∨ Useful E.aut (E.aut.at_ E.blk out))) ∧ wr.ownsRow w4.heap.size 5 1 v5 out.length (byteCells (u8L out)) ∧ RowKit.Below w4.heap.size w4 wr)
    case atStart => exact ⟨[], by simp, by rw [← HP.out.2.2.2.1]; rfl, Lib.hid ⟨OnWay.start, .inl rfl⟩, World.ownsRow_nil _ _ _ _, RowKit.Below.refl _ _⟩
    case round =>
      obtain ⟨out, hgk, rfl, hway, hown, hbr⟩ := hrel
      have hpl : E.aut.at_ E.blk out < M' := by rw [← HP.out.2.2.1]; exact Aut.at_lt HP.out.1.ok HP.out.1.blk.1.blk hway.out.1.bytes
      obtain ⟨p, hp⟩ : ∃ p, E.aut.at_ E.blk out = p := ⟨_, rfl⟩
      rw [hp] at hpl ⊢
      obtain ⟨ao, co, rfl⟩ := own_shape hown
      have u0 := H4.out.2.2.cellAt p (by omega)
      rw [boolC_at hpl] at u0
      have u0w := (hbr.cell (World.block_lt_of_cell? w4 _ u0)).trans u0
      obtain ⟨U, hU⟩ : ∃ U, useB E.aut p = U := ⟨_, rfl⟩
      rw [hU] at u0w
      have hd := H4.out.2.1.below hbr
      obtain ⟨⟨y0, y1, y2, y3⟩, -⟩ := hd.q.c4
      have HQ := Lib.hid (And.intro hp (And.intro hU (And.intro hown hbr)))
      clear u0 hU hp hd
      cases U with
      | false =>
        have hno : OnlyIs D none := by
          refine OnlyIs.none_ HP.out.2.2.2.2 fun t => ?_
          refine only_none HP.out.1.blk.1.blk (fun hus => ?_) t
          have h1 : ¬ Useful E.aut p := fun h => by
            have := useB_iff.2 h
            rw [HQ.out.2.1] at this
            cases this
          rcases hway.out.2 with rfl | h2
          · exact h1 (by rw [← HQ.out.1]; exact hus)
          · rw [HQ.out.1] at h2; exact h1 h2
        have hbb := H4.out.1.trans (HQ.out.2.2.2.mono H4.out.1.size)
        have HZ := Lib.hid (And.intro hno hbb)
        clear hno hbb hown hbr
        go_wp2_with fail
        refine bodyPost_ret (results_tmp2 rfl _ _ _) rfl ?_
        exact ⟨none, rfl, HZ.out.1, HZ.out.2⟩
      | true =>
        have hus : Useful E.aut (E.aut.at_ E.blk out) := useB_iff.1 (by rw [HQ.out.1]; exact HQ.out.2.1)
        have hol := only_len HP.out.1.ok HP.out.1.blk.1.blk hway.out.1 hus
        rw [HP.out.2.2.1] at hol
        have HU := Lib.hid hus
        clear hus hown hbr
        go_wp2_with fail
        clear y0 y1 y2 y3 u0w
        go_loopw [7, 8, 27] (fun v7 v8 c w2 => ∃ b : Nat, c = .int .i64 b ∧ b ≤ 256 ∧ v7 = .int .i64 ((waysF (leadF E.aut E.blk (useB E.aut) p) b).1 : Nat) ∧ v8 = .int .i64 ((waysF (leadF E.aut E.blk (useB E.aut) p) b).2 : Nat) ∧ RowKit.Below wr.heap.size wr w2) (fun _ _ c _ => 256 - (intOf c).toNat)
        case atStart => exact ⟨0, rfl, by omega, rfl, rfl, RowKit.Below.refl _ _⟩
        case round =>
          obtain ⟨b, rfl, hb, rfl, rfl, hb2⟩ := hrel
          have hbr2 := HQ.out.2.2.2.trans (hb2.mono HQ.out.2.2.2.size)
          have hd := H4.out.2.1.below hbr2
          obtain ⟨⟨y0, y1, y2, y3⟩, -⟩ := hd.q.c4
          have hwl := waysF_le (leadF E.aut E.blk (useB E.aut) p) b
          have hwl2 := waysF_last (leadF E.aut E.blk (useB E.aut) p) b
          by_cases hlb : b < 256
          · have k4 : decide ((b : Int) < 256) = true := decide_eq_true (by omega)
            obtain ⟨l, g1, g2, g3', g4, g5⟩ := HP.out.1.step (p := p) (by rw [HP.out.2.1]; exact hpl) hlb
            obtain ⟨bn, on, a2, c2, rfl, m2, n2⟩ := hd.n.get g1
            obtain ⟨b3, o3, rfl, m3⟩ := hd.b.get g2
            obtain ⟨b4, o4, rfl, m4⟩ := n2.get g3'
            have hstep : (waysF (leadF E.aut E.blk (useB E.aut) p) (b + 1)) = if useB E.aut (E.aut.nx p (E.blk b)) = true then ((waysF (leadF E.aut E.blk (useB E.aut) p) b).1 + 1, b) else waysF (leadF E.aut E.blk (useB E.aut) p) b := rfl
            obtain ⟨W, hW⟩ : ∃ W, (waysF (leadF E.aut E.blk (useB E.aut) p) b).1 = W := ⟨_, rfl⟩
            obtain ⟨La, hLa⟩ : ∃ La, (waysF (leadF E.aut E.blk (useB E.aut) p) b).2 = La := ⟨_, rfl⟩
            rw [hW] at hwl hstep ⊢
            rw [hLa] at hwl2 ⊢
            obtain ⟨k, hk⟩ : ∃ k, E.blk b = k := ⟨_, rfl⟩
            rw [hk] at m3 m4 g4 g5 hstep
            obtain ⟨x, hx⟩ : ∃ x, E.aut.nx p k = x := ⟨_, rfl⟩
            rw [hx] at m4 g4 hstep
            have hxM : x < M' := by rw [← HP.out.2.1]; exact g4
            have u1 := H4.out.2.2.cellAt x (by omega)
            rw [boolC_at hxM] at u1
            have u1w := (hbr2.cell (World.block_lt_of_cell? w4 _ u1)).trans u1
            obtain ⟨V, hV⟩ : ∃ V, useB E.aut x = V := ⟨_, rfl⟩
            rw [hV] at u1w hstep
            have HS := Lib.hid (And.intro hstep (And.intro hW hLa))
            clear hd hbr2 n2 g1 g2 g3' g4 u1 hk hx hstep hV hW hLa
            cases V with
            | true =>
              go_wp2_with fail
              go_roundw
              case rel => exact ⟨b + 1, by go_num, by omega, by rw [HS.out.1, if_pos rfl]; go_num, by rw [HS.out.1, if_pos rfl], hb2⟩
              case measure => simp [intOf]; omega
            | false =>
              go_wp2_with fail
              go_roundw
              case rel => exact ⟨b + 1, by go_num, by omega, by rw [HS.out.1, if_neg (by decide), HS.out.2.1], by rw [HS.out.1, if_neg (by decide), HS.out.2.2], hb2⟩
              case measure => simp [intOf]; omega
          · have k4 : decide ((b : Int) < 256) = false := decide_eq_false (by omega)
            have hb256 : b = 256 := by omega
            obtain ⟨W, hW⟩ : ∃ W, (waysF (leadF E.aut E.blk (useB E.aut) p) b).1 = W := ⟨_, rfl⟩
            obtain ⟨La, hLa⟩ : ∃ La, (waysF (leadF E.aut E.blk (useB E.aut) p) b).2 = La := ⟨_, rfl⟩
            rw [hW] at hwl ⊢
            rw [hLa] at hwl2 ⊢
            obtain ⟨f0, hf0⟩ : ∃ f0, E.fin.getD p false = f0 := ⟨_, rfl⟩
            obtain ⟨bf, of_, cf', haf, m1⟩ := hd.f.get hpl
            rw [hf0] at m1
            obtain ⟨rfl, -, rfl⟩ := Value.slice.inj haf
            have hown2 := own_only HQ.out.2.2.1 (Only.of_below (S := []) hb2) (by simp)
            have hfp : E.aut.fin (E.aut.at_ E.blk out) = f0 := by rw [HQ.out.1]; exact hf0
            have hWp : (waysF (leadF E.aut E.blk (useB E.aut) (E.aut.at_ E.blk out)) 256).1 = W := by rw [HQ.out.1, ← hb256]; exact hW
            have hLp : (waysF (leadF E.aut E.blk (useB E.aut) (E.aut.at_ E.blk out)) 256).2 = La := by rw [HQ.out.1, ← hb256]; exact hLa
            have hbb := H4.out.1.trans (hbr2.mono H4.out.1.size)
            have HW := Lib.hid (And.intro hWp (And.intro hLp (And.intro hfp (And.intro hown2 (And.intro hbr2 hbb)))))
            have hU9 : ∀ p, p < E.aut.many → (useB E.aut p = true ↔ Useful E.aut p) := fun p _ => useB_iff
            have HU9 := Lib.hid hU9
            have HBk := Lib.hid (show E.aut.Blk E.blk from HP.out.1.blk.1.blk)
            clear hd hbr2 hf0 haf hown2 hfp hWp hLp hbb hW hLa hb256 hU9
            cases f0 with
            | true =>
              by_cases hW0 : W = 0
              · subst hW0
                have hon := only_end HP.out.1.ok HBk.out HU9.out hway.out.1 HW.out.2.2.1 HW.out.1
                have hon2 := OnlyIs.some_ H.out.2.2.2.2.1 HP.out.2.2.2.2 hon
                have hconv := run_convert_own (P := Tryz.prog) 48 9 Tryz.underlying48 Tryz.underlying5 Tryz.underlying9 HW.out.2.2.2.1
                have HZ := Lib.hid hon2
                clear hon hon2
                go_wp2_with fail
                refine bodyPost_ret (results_tmp2 rfl _ _ _) rfl ?_
                exact ⟨some out, rfl, HZ.out, HW.out.2.2.2.2.2⟩
              · have hon := only_not HP.out.1.ok HBk.out HU9.out hway.out.1 HU.out (.inl ⟨HW.out.2.2.1, by rw [HW.out.1]; exact hW0⟩)
                have hon2 := OnlyIs.none_ HP.out.2.2.2.2 hon
                have HZ := Lib.hid hon2
                clear hon hon2
                go_wp2_with fail
                refine bodyPost_ret (results_tmp2 rfl _ _ _) rfl ?_
                exact ⟨none, rfl, HZ.out, HW.out.2.2.2.2.2⟩
            | false =>
              by_cases hW1 : W = 1
              · subst hW1
                have hst := only_step HP.out.1.ok HBk.out HU9.out hway.out.1 HW.out.2.2.1 HW.out.1
                rw [HW.out.2.1] at hst
                obtain ⟨hl256, hw2, hu2⟩ := hst
                have hol2 := only_len HP.out.1.ok HBk.out hw2 hu2
                rw [HP.out.2.2.1, List.length_append, List.length_singleton] at hol2
                have HS := Lib.hid (And.intro hw2 hu2)
                have hown1 := HW.out.2.2.2.1.alloc (.cells #[.int .u8 (La : Int)] 5)
                have hone := one_new (w := wr) (v := .int .u8 (La : Int)) (t := 5)
                have hjm : (La : Int) % 256 = La := by omega
                have hsz := HW.out.2.2.2.2.1.size
                have hal := (HW.out.2.2.2.2.1).alloc hsz (.cells #[.int .u8 (La : Int)] 5)
                have HAL := Lib.hid hal
                clear hw2 hu2 hal
                go_wp2_with (at_builtin; refine wpList_append_own _ rfl _ _ 48 rfl w4.heap.size 5 i0 (.int .u8 0) 1 1 Tryz.underlying48 hi0 hz00 hz01 hz02 rfl (by decide) _ _ _ rfl hown1 ⟨wr.heap.size, 0, none⟩ 1 1 [.int .u8 (La : Int)] rfl rfl hone (fun u hu => by simp at hu; subst hu; rfl) (by unfold maxLen; omega) (by omega) (by simp; omega) ?_; intro v8 w8 hown8 hgrow8 _)
                have hb8 := HAL.out.grown hgrow8 (by simp; omega) (fun j hj => (hown1.lt j hj).1)
                have hd8 := H4.out.2.1.below hb8
                have e8 : byteCells (u8L (out ++ [La])) = byteCells (u8L out) ++ [.int .u8 (La : Int)] := by
                  rw [u8L_app, ← byteCells_append]
                  show byteCells (u8L out) ++ [Value.int .u8 (((UInt8.ofNat La).toNat : Nat) : Int)] = _
                  rw [u8_nat hl256]
                rw [← e8] at hown8
                clear y0 y1 y2 y3 m1
                obtain ⟨⟨y0, y1, y2, y3⟩, -⟩ := hd8.q.c4
                obtain ⟨l, g1, g2, g3', g4, g5⟩ := HP.out.1.step (p := p) (by rw [HP.out.2.1]; exact hpl) hl256
                obtain ⟨bn, on, a2, c2, rfl, m2, n2⟩ := hd8.n.get g1
                obtain ⟨b3, o3, rfl, m3⟩ := hd8.b.get g2
                obtain ⟨b4, o4, rfl, m4⟩ := n2.get g3'
                have hatn : E.aut.at_ E.blk (out ++ [La]) = E.aut.nx p (E.blk La) := by rw [Aut.at_app, HQ.out.1]
                obtain ⟨k, hk⟩ : ∃ k, E.blk La = k := ⟨_, rfl⟩
                rw [hk] at m3 m4 g4 g5 hatn
                obtain ⟨x, hx⟩ : ∃ x, E.aut.nx p k = x := ⟨_, rfl⟩
                rw [hx] at m4 g4 hatn
                have HZ := Lib.hid (And.intro hown8 (And.intro hb8 hatn))
                clear hown8 hgrow8 hown1 hd8 n2 g1 g2 g3' g4 hk hx hatn e8 hone
                go_quiet (fail)
                have hb9 := HZ.out.2.1.trans ((below_regrownN w8 nq).mono HZ.out.2.1.size)
                have hown9 := own_only HZ.out.1 (Only.of_below (S := []) (below_regrownN w8 nq)) (by simp)
                generalize w8.drewN nq = w9 at *
                have HY := Lib.hid (And.intro hown9 hb9)
                clear hown9 hb9 hb8
                go_wp2_with fail
                go_roundg (gk - 1)
                case rel => exact ⟨out ++ [La], by simp; omega, by rw [HZ.out.2.2], Lib.hid ⟨HS.out.1, .inr HS.out.2⟩, by rw [List.length_append]; exact HY.out.1, HY.out.2⟩
                case measure => omega
              · have hon := only_not HP.out.1.ok HBk.out HU9.out hway.out.1 HU.out (.inr ⟨HW.out.2.2.1, by rw [HW.out.1]; exact hW1⟩)
                have hon2 := OnlyIs.none_ HP.out.2.2.2.2 hon
                have HZ := Lib.hid hon2
                clear hon hon2
                go_wp2_with fail
                refine bodyPost_ret (results_tmp2 rfl _ _ _) rfl ?_
                exact ⟨none, rfl, HZ.out, HW.out.2.2.2.2.2⟩
end Go.Proofs.YtmmlakheimfijaaGreatDoor
