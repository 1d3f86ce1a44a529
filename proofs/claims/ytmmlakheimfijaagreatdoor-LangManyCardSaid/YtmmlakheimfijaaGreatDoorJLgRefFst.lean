/-
  The walk of the reference's First. Conditions: the automaton lies in memory.
-/
import Derived.Test.YtmmlakheimfijaaGreatDoorJLgStr
import Derived.Test.YtmmlakheimfijaaGreatDoorJAuRefFam
namespace Go.Proofs.YtmmlakheimfijaaGreatDoor
set_option linter.unusedVariables false
set_option linter.unusedSimpArgs false
open Go.RowKit Go.Maps Go.Sort Go.ChangeShapes Go.WideShapes

/-! a row of texts -/
def strC (T : Nat → ByteArray) (M : Nat) : List Value := (List.range M).map fun j => .string (T j)
theorem strC_len (T : Nat → ByteArray) (M : Nat) : (strC T M).length = M := by simp [strC]
theorem strC_at {T : Nat → ByteArray} {M x : Nat} (h : x < M) : (strC T M)[x]? = some (.string (T x)) := by
  unfold strC
  rw [List.getElem?_map, List.getElem?_range h]
  rfl
theorem strC_zero (M : Nat) : (madeCells (Value.string ⟨#[]⟩).cells (M * 1)).toList = strC (fun _ => bsT []) M := by
  refine List.ext_getElem? fun j => ?_
  by_cases hj : j < M
  · rw [strC_at hj]
    simp [madeCells, Value.cells, hj, Nat.mod_one]
    rfl
  · rw [List.getElem?_eq_none (by simp [madeCells, Value.cells]; omega), List.getElem?_eq_none (by rw [strC_len]; omega)]
theorem strC_set {S S' : Nat → ByteArray} {M x : Nat} {b : ByteArray} (hx : x < M) (h : ∀ p, p < M → S' p = if p = x then b else S p) : (strC S M).set x (.string b) = strC S' M := by
  refine List.ext_getElem? fun j => ?_
  by_cases hj : j < M
  · rw [strC_at hj, h j hj, List.getElem?_set]
    by_cases e : x = j
    · subst e
      simp [strC_len, hj]
    · rw [if_neg e, strC_at hj, if_neg (fun e2 => e e2.symm)]
  · rw [List.getElem?_eq_none (by rw [List.length_set, strC_len]; omega), List.getElem?_eq_none (by rw [strC_len]; omega)]
theorem own_text {w : World} {B g M x : Nat} {S S' : Nat → ByteArray} {b : ByteArray} (h : w.ownsRow B 9 1 (.slice (some ⟨g, 0, none⟩) M M) M (strC S M)) (hx : x < M) (hS : ∀ p, p < M → S' p = if p = x then b else S p) :
    (w.setCell ⟨g, x, none⟩ (.string b)).ownsRow B 9 1 (.slice (some ⟨g, 0, none⟩) M M) M (strC S' M) := by
  have hst := (h.stored x (.string b)).1
  rw [strC_set hx hS] at hst
  exact hst
theorem infoText : (Tryz.prog.info? 9).map (fun i => (i.zero, i.size, i.bytes)) = some (some (.string ⟨#[]⟩), 1, 16) := by kernel_rfl

/-! what the rows hold -/
def isO (L : Nat → OT) (s : Nat) : Bool := (L s).isSome
def txO (L : Nat → OT) (s : Nat) : ByteArray := bsT ((L s).getD [])
/-- texts of n bytes -/
def LenT (L : Nat → OT) (n : Nat) : Prop := ∀ s t, L s = some t → Bytes t ∧ t.length = n
theorem mnT_or (o : OT) (t : List Nat) : mnT o t = some t ∨ mnT o t = o := by
  unfold mnT
  cases o with
  | none => exact .inl rfl
  | some u =>
    simp only
    split
    · exact .inl rfl
    · exact .inr rfl
theorem LenT.put {L : Nat → OT} {n m : Nat} {t : List Nat} (h : LenT L n) (ht : Bytes t ∧ t.length = n) : LenT (putT L m t) n := fun s u hu => by
  unfold putT at hu
  split at hu
  · rcases mnT_or (L m) t with e | e
    · rw [e] at hu
      cases hu
      exact ht
    · rw [e] at hu
      exact h m u hu
  · exact h s u hu
theorem LenT.row {d : Aut} {blk : Nat → Nat} {L O : Nat → OT} {n : Nat} (hL : LenT L n) (hO : LenT O (n + 1)) (s : Nat) : ∀ c, c ≤ 256 → LenT (rowT d blk L s c O) (n + 1) := by
  intro c
  cases h : L s with
  | none =>
    intro _
    have e : rowT d blk L s c O = O := by unfold rowT; rw [h]
    rw [e]; exact hO
  | some t =>
    induction c with
    | zero =>
      intro _
      have e : rowT d blk L s 0 O = O := by unfold rowT; rw [h]; rfl
      rw [e]; exact hO
    | succ c ih =>
      intro hc
      rw [rowT_succ d blk L s c O h]
      obtain ⟨h1, h2⟩ := hL s t h
      exact (ih (by omega)).put ⟨h1.app (.one (by omega)), by simp [h2]⟩
theorem LenT.rows {d : Aut} {blk : Nat → Nat} {L : Nat → OT} {n : Nat} (hL : LenT L n) : ∀ s, LenT (rowsT d blk L s) (n + 1)
  | 0 => fun s t h => by simp [rowsT] at h
  | s + 1 => by
    rw [rowsT_succ]
    exact hL.row (hL.rows s) s 256 (Nat.le_refl _)
theorem LenT.level (d : Aut) (blk : Nat → Nat) : ∀ n, LenT (lvT d blk n) n
  | 0 => fun s t h => by
    unfold lvT at h
    split at h
    · cases h
      exact ⟨.nil, rfl⟩
    · cases h
  | n + 1 => by
    unfold lvT
    exact (LenT.level d blk n).rows _
theorem LenT.best {d : Aut} {L : Nat → OT} {n : Nat} (hL : LenT L n) : ∀ s t, bestT d L s = some t → Bytes t ∧ t.length = n
  | 0, t, h => by simp [bestT] at h
  | s + 1, t, h => by
    rw [bestT_succ] at h
    cases hLs : L s with
    | none => rw [hLs] at h; exact hL.best s t h
    | some u =>
      rw [hLs] at h
      simp only at h
      split at h
      · rcases mnT_or (bestT d L s) u with e | e
        · rw [e] at h
          cases h
          exact hL s _ hLs
        · rw [e] at h
          exact hL.best s t h
      · exact hL.best s t h
theorem search_stays {d : Aut} {blk : Nat → Nat} {t : List Nat} {n : Nat} (h : searchT d blk n = some t) : ∀ k, searchT d blk (n + k) = some t
  | 0 => h
  | k + 1 => by
    show searchT d blk (n + k + 1) = some t
    rw [searchT, search_stays h k]
theorem search_step {d : Aut} {blk : Nat → Nat} {n : Nat} (h : searchT d blk n = none) : searchT d blk (n + 1) = bestT d (lvT d blk n) d.many := by
  rw [searchT, h]
theorem first_found {d : Aut} {blk : Nat → Nat} {n : Nat} {t : List Nat} (h : searchT d blk n = none) (hn : n < d.many) (hb : bestT d (lvT d blk n) d.many = some t) : refFirst d blk = some t := by
  have h1 := search_step h
  rw [hb] at h1
  have := search_stays h1 (d.many - (n + 1))
  unfold refFirst
  rwa [show n + 1 + (d.many - (n + 1)) = d.many by omega] at this
/-! one more text -/
theorem isO_put (O : Nat → OT) (m : Nat) (t : List Nat) (z : Nat) : isO (putT O m t) z = if z = m then true else isO O z := by
  unfold isO putT
  split
  · rename_i e
    rcases mnT_or (O m) t with h | h
    · rw [h]; rfl
    · unfold mnT at *
      cases O m with
      | none => rfl
      | some u => simp only; split <;> rfl
  · rfl
theorem txO_new {O : Nat → OT} {m : Nat} {t : List Nat} (h : mnT (O m) t = some t) (z : Nat) : txO (putT O m t) z = if z = m then bsT t else txO O z := by
  unfold txO putT
  split
  · rw [h]; rfl
  · rfl
theorem put_old {O : Nat → OT} {m : Nat} {t : List Nat} (h : mnT (O m) t = O m) : putT O m t = O := by
  funext z
  unfold putT
  split
  · rename_i e; rw [h, e]
  · rfl
/-- four rows of the reference's own: of the level that is read, and of the one that is made -/
structure Rows4 (w0 w : World) (M g g3 gn gt : Nat) (L O : Nat → OT) : Prop where
  i : w.ownsRow w0.heap.size 4 1 (.slice (some ⟨g, 0, none⟩) M M) M (boolC (isO L) M)
  t : w.ownsRow w0.heap.size 9 1 (.slice (some ⟨g3, 0, none⟩) M M) M (strC (txO L) M)
  n : w.ownsRow w0.heap.size 4 1 (.slice (some ⟨gn, 0, none⟩) M M) M (boolC (isO O) M)
  x : w.ownsRow w0.heap.size 9 1 (.slice (some ⟨gt, 0, none⟩) M M) M (strC (txO O) M)
  b : RowKit.Below w0.heap.size w0 w
  a1 : g < gn ∧ g < gt
  a2 : g3 < gn ∧ g3 < gt
  a3 : gn < gt
section
variable {w0 w w' : World} {M g g3 gn gt : Nat} {L O : Nat → OT}
theorem Rows4.below (h : Rows4 w0 w M g g3 gn gt L O) (hb : RowKit.Below w.heap.size w w') : Rows4 w0 w' M g g3 gn gt L O :=
  ⟨own_only h.i (Only.of_below (S := []) hb) (by simp), own_only h.t (Only.of_below (S := []) hb) (by simp), own_only h.n (Only.of_below (S := []) hb) (by simp), own_only h.x (Only.of_below (S := []) hb) (by simp),
   h.b.trans (hb.mono h.b.size), h.a1, h.a2, h.a3⟩
theorem Rows4.put (h : Rows4 w0 w M g g3 gn gt L O) {m : Nat} (hm : m < M) {t : List Nat} (ht : mnT (O m) t = some t) :
    Rows4 w0 ((w.setCell ⟨gn, m, none⟩ (.bool true)).setCell ⟨gt, m, none⟩ (.string (bsT t))) M g g3 gn gt L (putT O m t) where
  i := own_set (own_set h.i (a := ⟨gn, m, none⟩) _ (by simp [Value.ownBlock]; have := h.a1; omega)) (a := ⟨gt, m, none⟩) _ (by simp [Value.ownBlock]; have := h.a1; omega)
  t := own_set (own_set h.t (a := ⟨gn, m, none⟩) _ (by simp [Value.ownBlock]; have := h.a2; omega)) (a := ⟨gt, m, none⟩) _ (by simp [Value.ownBlock]; have := h.a2; omega)
  n := own_set (own_mark (S' := isO (putT O m t)) h.n hm fun p hp => isO_put O m t p) (a := ⟨gt, m, none⟩) _ (by simp [Value.ownBlock]; have := h.a3; omega)
  x := own_text (S' := txO (putT O m t)) (own_set h.x (a := ⟨gn, m, none⟩) _ (by simp [Value.ownBlock]; have := h.a3; omega)) hm fun p hp => txO_new ht p
  b := (h.b.setCell (p := ⟨gn, m, none⟩) (h.n.lt gn rfl).1 _).setCell (p := ⟨gt, m, none⟩) (h.x.lt gt rfl).1 _
  a1 := h.a1
  a2 := h.a2
  a3 := h.a3
end
noncomputable def firstRes (D : DfaI) : OT := if rightD D = true then firstD D else none
noncomputable def firstV (D : DfaI) : Value := .tuple #[.string (bsT ((firstRes D).getD [])), .bool (firstRes D).isSome]
set_option maxHeartbeats 8000000 in
set_option maxRecDepth 1000000 in
theorem reffirst_any (v : Value) (D : DfaI) (w : World) (h : DfaAt w v D) (hD : D.In) : Calls Tryz.prog 10 #[v] w fun e w' => e = .returned (firstV D) ∧ Below w.heap.size w w' := by
  cases hr : rightD D with
  | false =>
    obtain ⟨S, af, ab, an, F, B, M, cf, cb, cn, hS, hF, hB, hM, rfl⟩ := h.form
    have hal := (Below.refl w.heap.size w).alloc (Nat.le_refl _) (.cells #[.int .i64 S, .slice af F cf, .slice ab B cb, .slice an M cn] 26)
    have hq := Blk.new w 26 #[.int .i64 S, .slice af F cf, .slice ab B cb, .slice an M cn]
    obtain ⟨⟨y0, y1, y2, y3⟩, -⟩ := hq.c4
    have hcall := refdright_any _ D _ (h.below hal) hD
    have H := Lib.hid hal
    have hre : firstV D = .tuple #[.string ⟨#[]⟩, .bool false] := by unfold firstV firstRes; rw [if_neg (by rw [hr]; decide)]; rfl
    rw [hr] at hcall
    rw [hre]
    clear h hal hq hr hre hS hF hB hM
    go_enter Tryz.func10, Tryz.ntmps10
    go_wp2_with fail
    refine hcall.mono ?_
    rintro e w1 ⟨rfl, b1⟩
    clear y0 y1 y2 y3
    go_wp2_with fail
    refine bodyPost_ret (results_tmp2 rfl _ _ _) rfl ?_
    exact ⟨rfl, H.out.trans (b1.mono (by simp))⟩
  | true =>
    have hR := rightD_iff.1 hr
    obtain ⟨S, M, af, ab, an, cf, cb, cn, hS, hM, rfl, hd⟩ := RefD.mk_ h hR
    have hal := (Below.refl w.heap.size w).alloc (Nat.le_refl _) (.cells #[.int .i64 (S : Int), .slice af M cf, .slice ab 256 cb, .slice an M cn] 26)
    have hcall := refdright_any _ D _ (h.below hal) hD
    have hre : firstRes D = refFirst D.aut D.blk := by unfold firstRes; rw [if_pos hr, first_same hR]
    have hSM : S < M := by have := hR.s1; omega
    have hM4 : M ≤ 4096 := by have := hR.m2; omega
    have hSs : D.aut.start = S := by show D.start.toNat = S; omega
    have hmany : D.aut.many = M := by show D.nx.length = M; rw [D.nx_len]; exact hM
    have hw256 := hR.wide_le
    have hz1 : (w.alloc (.cells #[.int .i64 (S : Int), .slice af M cf, .slice ab 256 cb, .slice an M cn] 26)).heap.size = w.heap.size + 1 := by simp
    rw [hr] at hcall
    obtain ⟨⟨y0, y1, y2, y3⟩, -⟩ := hd.q.c4
    have H := Lib.hid (And.intro hal hd)
    have HP := Lib.hid (And.intro hR (And.intro hM (And.intro hSs (And.intro hmany hre))))
    obtain ⟨s0, hs0, hs00, hs01, hs02⟩ := info_parts infoBool
    obtain ⟨x0, hx0, hx00, hx01, hx02⟩ := info_parts infoText
    clear h hal hd hr hre hR hS hM hSs hmany
    go_enter Tryz.func10, Tryz.ntmps10
    go_wp2_with fail
    generalize w.alloc (.cells #[.int .i64 (S : Int), .slice af M cf, .slice ab 256 cb, .slice an M cn] 26) = W at *
    refine hcall.mono ?_
    rintro e w1 ⟨rfl, b1⟩
    clear y0 y1 y2 y3 hcall
    have hzz := b1.size
    have hd1 := H.out.2.below b1
    have hbw := H.out.1.trans (b1.mono H.out.1.size)
    obtain ⟨⟨y0, y1, y2, y3⟩, -⟩ := hd1.q.c4
    have H1 := Lib.hid (And.intro hbw hd1)
    clear H b1 hd1 hbw
    go_wp2_with first
      | (at_make; refine wpList_make_full _ rfl _ _ 22 rfl w1.heap.size 4 s0 (.bool false) 1 Tryz.underlying22 hs0 hs00 hs01 .i64 .i64 M M M rfl rfl rfl rfl (by rw [hs02]; omega) (by unfold maxLen; omega) (by omega) ?_; intro w2 hown2 hgrow2; rw [boolC_zero] at hown2; have hzg2 := hgrow2.size)
      | (at_make; refine wpList_make_full _ rfl _ _ 47 rfl w1.heap.size 9 x0 (.string ⟨#[]⟩) 1 Tryz.underlying47 hx0 hx00 hx01 .i64 .i64 M M M rfl rfl rfl rfl (by rw [hx02]; omega) (by unfold maxLen; omega) (by omega) ?_; intro w3 hown3 hgrow3; rw [strC_zero] at hown3; have b2 : RowKit.Below w1.heap.size w1 w2 := (Below.refl _ _).grown hgrow2 (Nat.le_refl _) (fun k e => by cases e); have b3' : RowKit.Below w2.heap.size w2 w3 := (Below.refl _ _).grown hgrow3 (Nat.le_refl _) (fun k e => by cases e); have b3 := b2.grown hgrow3 b2.size (fun k e => by cases e); have hrow2 := own_only hown2 (Only.of_below (S := []) b3') (by simp); have k0 := hrow2.cellAt S (by omega); have k2 := hrow2.frozenAt S; rw [boolC_at hSM] at k0; obtain ⟨⟨r0, r1, r2, r3⟩, -⟩ := (H1.out.2.below b3).q.c4; clear y0 y1 y2 y3)
    have hrow0 := own_mark (S' := isO (lvT D.aut D.blk 0)) (b := true) hrow2 hSM fun p hp => by
      unfold isO lvT
      rw [HP.out.2.2.1]
      split <;> rfl
    have htx0 : w3.ownsRow w1.heap.size 9 1 (.slice (some ⟨w2.heap.size, 0, none⟩) M M) M (strC (txO (lvT D.aut D.blk 0)) M) := by
      have e : (fun _ => bsT []) = txO (lvT D.aut D.blk 0) := by
        funext z
        unfold txO lvT
        split <;> rfl
      rw [← e]
      exact hown3
    have hzw := hgrow2.size
    have hlt2 := (hown2.lt w1.heap.size rfl).2
    have htx1 := own_set htx0 (a := ⟨w1.heap.size, S, none⟩) (.bool true) (by simp [Value.ownBlock]; omega)
    have hb0 := b3.setCell (p := ⟨w1.heap.size, S, none⟩) (Nat.le_refl _) (.bool true)
    generalize w3.setCell ⟨w1.heap.size, S, none⟩ (.bool true) = w4 at *
    have H3 := Lib.hid (And.intro hrow0 (And.intro htx1 hb0))
    clear hown2 hgrow2 hown3 hgrow3 k0 k2 b2 b3 b3' r0 r1 r2 r3 hrow0 hb0 hrow2 htx0 htx1 hlt2 hzw
    go_loopw [5, 6, 7] (fun v5 v6 c wr => ∃ (n g g3 : Nat) (L : Nat → OT), c = .int .i64 n ∧ n ≤ M ∧ Hid (L = lvT D.aut D.blk n ∧ searchT D.aut D.blk n = none) ∧ v5 = .slice (some ⟨g, 0, none⟩) M M ∧ v6 = .slice (some ⟨g3, 0, none⟩) M M ∧
      wr.ownsRow w1.heap.size 4 1 (.slice (some ⟨g, 0, none⟩) M M) M (boolC (isO L) M) ∧ wr.ownsRow w1.heap.size 9 1 (.slice (some ⟨g3, 0, none⟩) M M) M (strC (txO L) M) ∧ RowKit.Below w1.heap.size w1 wr) (fun _ _ c _ => M - (intOf c).toNat)
    case atStart => exact ⟨0, _, _, _, rfl, by omega, Lib.hid ⟨rfl, rfl⟩, rfl, rfl, H3.out.1, H3.out.2.1, H3.out.2.2⟩
    case round =>
      obtain ⟨n, g, g3, L, rfl, hn, hL, rfl, rfl, hrow, htx, hbr⟩ := hrel
      by_cases hln : n < M
      · have k1 : decide (n < M) = true := decide_eq_true hln
        have hLT : LenT L n := by rw [hL.out.1]; exact LenT.level _ _ n
        have HO := Lib.hid (And.intro hrow (And.intro htx (And.intro hbr hLT)))
        clear hrow htx hbr hLT
        go_wp2_with fail
        go_loopw [8, 9, 10] (fun v8 v9 c wr2 => ∃ (s : Nat) (o : OT), c = .int .i64 s ∧ s ≤ M ∧ Hid (o = bestT D.aut L s) ∧ v8 = .string (bsT (o.getD [])) ∧ v9 = .bool o.isSome ∧ RowKit.Below wr.heap.size wr wr2) (fun _ _ c _ => M - (intOf c).toNat)
        case atStart => exact ⟨0, none, rfl, by omega, Lib.hid rfl, rfl, rfl, RowKit.Below.refl _ _⟩
        case round =>
          obtain ⟨s, o, rfl, hs, ho, rfl, rfl, hbw⟩ := hrel
          have hrow2 := own_only HO.out.1 (Only.of_below (S := []) hbw) (by simp)
          have htx2 := own_only HO.out.2.1 (Only.of_below (S := []) hbw) (by simp)
          have hbr2 := HO.out.2.2.1.trans (hbw.mono HO.out.2.2.1.size)
          have hd := H1.out.2.below hbr2
          obtain ⟨⟨y0, y1, y2, y3⟩, -⟩ := hd.q.c4
          by_cases hls : s < M
          · have k2 : decide (s < M) = true := decide_eq_true hls
            have c0 := hrow2.cellAt s (by omega)
            have c1 := htx2.cellAt s (by omega)
            rw [boolC_at hls] at c0
            rw [strC_at hls] at c1
            unfold isO at c0
            unfold txO at c1
            obtain ⟨f0, hf0⟩ : ∃ f0, D.fin.getD s false = f0 := ⟨_, rfl⟩
            obtain ⟨bf, of_, cf', haf, m1⟩ := hd.f.get hls
            rw [hf0] at m1
            have HF := Lib.hid (show D.aut.fin s = f0 from hf0)
            obtain ⟨rfl, -, rfl⟩ := Value.slice.inj haf
            have hbs := bestT_succ D.aut L s
            cases hLs : L s with
            | none =>
              rw [hLs] at c0 hbs
              have HB := Lib.hid (hbs.trans ho.out.symm)
              simp only [Option.isSome_none] at c0
              clear hrow2 htx2 hbr2 hd hf0 haf hbs hLs c1 m1 ho
              go_wp2_with fail
              go_roundw
              case rel => exact ⟨s + 1, o, by go_num, by omega, Lib.hid HB.out.symm, rfl, rfl, hbw⟩
              case measure => simp [intOf]; omega
            | some t =>
              rw [hLs] at c0 c1 hbs
              simp only [Option.isSome_some] at c0
              simp only [Option.getD_some] at c1
              have ht := HO.out.2.2.2 s t hLs
              cases f0 with
              | false =>
                have HB := Lib.hid (show bestT D.aut L (s + 1) = o by rw [hbs, ho.out]; simp only [HF.out]; rfl)
                clear hrow2 htx2 hbr2 hd hf0 haf hbs hLs c1 ho ht
                go_wp2_with fail
                go_roundw
                case rel => exact ⟨s + 1, o, by go_num, by omega, Lib.hid HB.out.symm, rfl, rfl, hbw⟩
                case measure => simp [intOf]; omega
              | true =>
                have hb2 : bestT D.aut L (s + 1) = mnT o t := by rw [hbs, ho.out]; simp only [HF.out, if_true]
                cases o with
                | none =>
                  have HB := Lib.hid (show bestT D.aut L (s + 1) = some t from hb2)
                  clear hrow2 htx2 hbr2 hd hf0 haf hbs hLs ho ht hb2
                  go_wp2_with fail
                  go_roundw
                  case rel => exact ⟨s + 1, some t, by go_num, by omega, Lib.hid HB.out.symm, rfl, rfl, hbw⟩
                  case measure => simp [intOf]; omega
                | some u =>
                  have hu := HO.out.2.2.2.best s u ho.out.symm
                  have hless := bsT_less ht.1 hu.1 (by rw [ht.2, hu.2])
                  by_cases hlt : slx.lexB t u = true
                  · have HB := Lib.hid (show bestT D.aut L (s + 1) = some t by rw [hb2]; unfold mnT; simp only [hlt, if_true])
                    rw [hlt] at hless
                    clear hrow2 htx2 hbr2 hd hf0 haf hbs hLs ho ht hb2 hu hlt
                    go_wp2_with fail
                    go_roundw
                    case rel => exact ⟨s + 1, some t, by go_num, by omega, Lib.hid HB.out.symm, rfl, rfl, hbw⟩
                    case measure => simp [intOf]; omega
                  · have HB := Lib.hid (show bestT D.aut L (s + 1) = some u by rw [hb2]; unfold mnT; simp only [hlt]; rfl)
                    rw [Bool.not_eq_true] at hlt
                    rw [hlt] at hless
                    clear hrow2 htx2 hbr2 hd hf0 haf hbs hLs ho ht hb2 hu hlt
                    go_wp2_with fail
                    go_roundw
                    case rel => exact ⟨s + 1, some u, by go_num, by omega, Lib.hid HB.out.symm, rfl, rfl, hbw⟩
                    case measure => simp [intOf]; omega
          · obtain rfl : M = s := by omega
            have k2 : decide (M < M) = false := decide_eq_false (by omega)
            cases o with
            | some t =>
              have hres : firstV D = .tuple #[.string (bsT t), .bool true] := by
                unfold firstV
                rw [HP.out.2.2.2.2, first_found (n := n) hL.out.2 (by rw [HP.out.2.2.2.1]; exact hln) (by rw [HP.out.2.2.2.1, ← hL.out.1]; exact ho.out.symm)]
                rfl
              have hbb := H1.out.1.trans (hbr2.mono H1.out.1.size)
              have HZ := Lib.hid (And.intro hres hbb)
              clear hrow2 htx2 hbr2 hd hres hbb ho
              go_wp2_with fail
              refine bodyPost_ret (results_tmp2 rfl _ _ _) rfl ?_
              exact ⟨by rw [HZ.out.1]; rfl, HZ.out.2⟩
            | none =>
              have hsn : searchT D.aut D.blk (n + 1) = none := by
                rw [search_step hL.out.2, HP.out.2.2.2.1, ← hL.out.1]
                exact ho.out.symm
              have hsz := hbr2.size
              have hl1 := (hrow2.lt g rfl).2
              have hl2 := (htx2.lt g3 rfl).2
              have HZ := Lib.hid (And.intro hrow2 (And.intro htx2 (And.intro hbr2 hsn)))
              clear hrow2 htx2 hbr2 hd ho hsn
              go_wp2_with first
                | (at_make; refine wpList_make_full _ rfl _ _ 22 rfl w1.heap.size 4 s0 (.bool false) 1 Tryz.underlying22 hs0 hs00 hs01 .i64 .i64 M M M rfl rfl rfl rfl (by rw [hs02]; omega) (by unfold maxLen; omega) (by omega) ?_; intro w2 hown2 hgrow2; rw [boolC_zero] at hown2; have hzg2 := hgrow2.size)
                | (at_make; refine wpList_make_full _ rfl _ _ 47 rfl w1.heap.size 9 x0 (.string ⟨#[]⟩) 1 Tryz.underlying47 hx0 hx00 hx01 .i64 .i64 M M M rfl rfl rfl rfl (by rw [hx02]; omega) (by unfold maxLen; omega) (by omega) ?_; intro w3 hown3 hgrow3; rw [strC_zero] at hown3)
              have b2 : RowKit.Below wr.heap.size wr w2 := (Below.refl _ _).grown hgrow2 (Nat.le_refl _) (fun k e => by cases e)
              have b3 : RowKit.Below w2.heap.size w2 w3 := (Below.refl _ _).grown hgrow3 (Nat.le_refl _) (fun k e => by cases e)
              have hlt2 := (hown2.lt wr.heap.size rfl).2
              have b23 := b2.trans (b3.mono b2.size)
              have e1 : (fun _ => false) = isO (rowsT D.aut D.blk L 0) := rfl
              have e2 : (fun _ => bsT []) = txO (rowsT D.aut D.blk L 0) := rfl
              rw [e1] at hown2
              rw [e2] at hown3
              have h4 : Rows4 w1 w3 M g g3 wr.heap.size w2.heap.size L (rowsT D.aut D.blk L 0) :=
                ⟨own_only HZ.out.1 (Only.of_below (S := []) b23) (by simp), own_only HZ.out.2.1 (Only.of_below (S := []) b23) (by simp), own_only hown2 (Only.of_below (S := []) b3) (by simp), hown3,
                 HZ.out.2.2.1.trans (b23.mono HZ.out.2.2.1.size), ⟨hl1, by omega⟩, ⟨hl2, by omega⟩, hlt2⟩
              obtain ⟨gn, hgn⟩ : ∃ gn, wr.heap.size = gn := ⟨_, rfl⟩
              obtain ⟨gt, hgt⟩ : ∃ gt, w2.heap.size = gt := ⟨_, rfl⟩
              rw [hgn, hgt] at h4
              rw [hgn, hgt]
              have H4 := Lib.hid h4
              clear hown2 hown3 hgrow2 hgrow3 b2 b3 b23 e1 e2 hlt2 h4 hgn hgt hl1 hl2 hzg2 hsz
              go_loopw [13] (fun c wr => ∃ s : Nat, c = .int .i64 s ∧ s ≤ M ∧ Rows4 w1 wr M g g3 gn gt L (rowsT D.aut D.blk L s)) (fun c _ => M - (intOf c).toNat)
              case atStart => exact ⟨0, rfl, by omega, H4.out⟩
              case round =>
                obtain ⟨s, rfl, hs, h4⟩ := hrel
                by_cases hls : s < M
                · have k3 : decide (s < M) = true := decide_eq_true hls
                  have H4 := Lib.hid h4
                  clear h4
                  go_wp2_with fail
                  go_loopw [14] (fun c wr => ∃ b : Nat, c = .int .i64 b ∧ b ≤ 256 ∧ Rows4 w1 wr M g g3 gn gt L (rowT D.aut D.blk L s b (rowsT D.aut D.blk L s))) (fun c _ => 256 - (intOf c).toNat)
                  case atStart =>
                    refine ⟨0, rfl, by omega, ?_⟩
                    have e : rowT D.aut D.blk L s 0 (rowsT D.aut D.blk L s) = rowsT D.aut D.blk L s := by unfold rowT; split <;> rfl
                    rw [e]; exact H4.out
                  case round =>
                    obtain ⟨b, rfl, hb, h4⟩ := hrel
                    have c0 := h4.i.cellAt s (by omega)
                    rw [boolC_at hls] at c0
                    unfold isO at c0
                    cases hLs : L s with
                    | none =>
                      rw [hLs] at c0
                      simp only [Option.isSome_none] at c0
                      have hrow : ∀ b, rowT D.aut D.blk L s b (rowsT D.aut D.blk L s) = rowsT D.aut D.blk L s := fun b => by unfold rowT; rw [hLs]
                      rw [hrow, ← hrow 256, ← rowsT_succ] at h4
                      have HX := Lib.hid h4
                      clear h4 hrow hLs
                      by_cases hlb : b < 256
                      · have k4 : decide ((b : Int) < 256) = true := decide_eq_true (by omega)
                        go_wp2_with fail
                        go_roundw
                        case rel => exact ⟨s + 1, by go_num, by omega, HX.out⟩
                        case measure => simp [intOf]; omega
                      · have k4 : decide ((b : Int) < 256) = false := decide_eq_false (by omega)
                        go_wp2_with fail
                        go_roundw
                        case rel => exact ⟨s + 1, by go_num, by omega, HX.out⟩
                        case measure => simp [intOf]; omega
                    | some t =>
                      rw [hLs] at c0
                      simp only [Option.isSome_some] at c0
                      by_cases hlb : b < 256
                      · have k4 : decide ((b : Int) < 256) = true := decide_eq_true (by omega)
                        have ht := HO.out.2.2.2 s t hLs
                        have hrs := rowT_succ D.aut D.blk L s b (rowsT D.aut D.blk L s) hLs
                        have hLO := LenT.row (d := D.aut) (blk := D.blk) HO.out.2.2.2 (LenT.rows (d := D.aut) (blk := D.blk) HO.out.2.2.2 s) s b hb
                        obtain ⟨O, hO⟩ : ∃ O, rowT D.aut D.blk L s b (rowsT D.aut D.blk L s) = O := ⟨_, rfl⟩
                        rw [hO] at h4 hrs hLO
                        have hd := H1.out.2.below h4.b
                        obtain ⟨⟨y0, y1, y2, y3⟩, -⟩ := hd.q.c4
                        obtain ⟨l, g1, g2, g3', g4, g5⟩ := HP.out.1.step (p := s) (by rw [HP.out.2.1]; exact hls) hlb
                        obtain ⟨bn, on, a2, c2, rfl, m2, n2⟩ := hd.n.get g1
                        obtain ⟨b3, o3, rfl, m3⟩ := hd.b.get g2
                        obtain ⟨b4, o4, rfl, m4⟩ := n2.get g3'
                        obtain ⟨k, hk⟩ : ∃ k, D.blk b = k := ⟨_, rfl⟩
                        rw [hk] at m3 m4 g4 g5 hrs
                        obtain ⟨x, hx⟩ : ∃ x, D.aut.nx s k = x := ⟨_, rfl⟩
                        rw [hx] at m4 g4 hrs
                        have hxM : x < M := by rw [← HP.out.2.1]; exact g4
                        have htxs : txO L s = bsT t := by unfold txO; rw [hLs]; rfl
                        have HA := Lib.hid (And.intro h4 (And.intro ht (And.intro hrs (And.intro hLO htxs))))
                        clear h4 hd n2 g1 g2 g3' g4 hLs hk hx hrs hLO hO htxs
                        go_wp2_with fail
                        go_quiet (fail)
                        have h4q := HA.out.1.below (below_regrownN wr nq)
                        generalize wr.drewN nq = wA at *
                        clear y0 y1 y2 y3 m2 m3 m4 c0 g5
                        have hal := (Below.refl wA.heap.size wA).alloc (Nat.le_refl _) (.cells #[.int .u8 (b : Int)] 5)
                        have h4a := h4q.below hal
                        have hone := one_new (w := wA) (v := .int .u8 (b : Int)) (t := 5) 0 _ rfl
                        have hjm : (b : Int) % 256 = b := by omega
                        have HB := Lib.hid h4a
                        clear h4q h4a hal
                        go_wp2_with fail
                        rw [Addr.add_lit] at hone
                        have hsa : wA.heap.size < (wA.alloc (.cells #[.int .u8 (b : Int)] 5)).heap.size := by simp
                        obtain ⟨go, hgo⟩ : ∃ go, wA.heap.size = go := ⟨_, rfl⟩
                        rw [hgo] at hone hsa ⊢
                        generalize wA.alloc (.cells #[.int .u8 (b : Int)] 5) = wa at *
                        have hconv : ∀ q, (convert 48 9 (.slice (some ⟨go, 0, none⟩) 1 1)).run Tryz.prog (wa.drewN q) = .ok (.string (bsT [b])) (wa.drewN q) := fun q =>
                          run_convert_bytes_back (wa.drewN q) _ _ 5 _ 1 (u8L [b]) Tryz.underlying48 Tryz.underlying5 Tryz.underlying9 fun j hj => by
                            have : j = 0 := by simpa [u8L] using hj
                            subst this
                            rw [Addr.add_lit]
                            refine Eq.trans hone ?_
                            show _ = some (Value.int .u8 (((UInt8.ofNat b).toNat : Nat) : Int))
                            rw [u8_nat hlb]
                        have hsz3 : (bsT t).size + (bsT [b]).size ≤ 9223372036854775807 := by
                          have := HA.out.2.1.2
                          rw [bsT_size, bsT_size, this]
                          simp
                          omega
                        have hadd : ∀ q, (Op.stringOp .add (bsT t) (bsT [b])).run Tryz.prog (wa.drewN q) = .ok (.string (bsT (t ++ [b]))) (wa.drewN q) := fun q => by
                          have := run_string_add_sum (P := Tryz.prog) (wa.drewN q) (bsT t) (bsT [b]) hsz3
                          rw [bsT_app] at this
                          exact this
                        have c1 := HB.out.t.cellAt s (by omega)
                        rw [strC_at hls, HA.out.2.2.2.2] at c1
                        clear hone hsa hgo
                        go_quiet (fail)
                        have h4b := HB.out.below (below_regrownN wa nq)
                        generalize wa.drewN nq = wb at *
                        rw [bsT_app]
                        have c5 := h4b.n.cellAt x (by omega)
                        have c6 := h4b.x.cellAt x (by omega)
                        have d5 := h4b.n.frozenAt x
                        have d6 := h4b.x.frozenAt x
                        rw [boolC_at hxM] at c5
                        rw [strC_at hxM] at c6
                        unfold isO at c5
                        unfold txO at c6
                        clear hconv hadd c1 hsz3 hjm
                        cases hOx : O x with
                        | none =>
                          have hmn : mnT (O x) (t ++ [b]) = some (t ++ [b]) := by rw [hOx]; rfl
                          rw [hOx] at c5 c6
                          simp only [Option.isSome_none] at c5
                          clear hOx
                          have hput := h4b.put hxM hmn
                          have hnew := HA.out.2.2.1
                          have HZ2 := Lib.hid (And.intro hput hnew)
                          have ne1 : ¬ gn = gt := by have := h4b.a3; omega
                          have ne2 : ¬ gt = gn := by have := h4b.a3; omega
                          clear hput hnew h4b hmn
                          go_wp2_with fail
                          go_roundw
                          case rel =>
                            refine ⟨b + 1, by go_num, by omega, ?_⟩
                            rw [HZ2.out.2]
                            exact HZ2.out.1
                          case measure => simp [intOf]; omega
                        | some u =>
                          rw [hOx] at c5 c6
                          simp only [Option.isSome_some] at c5
                          simp only [Option.getD_some] at c6
                          have hu := HA.out.2.2.2.1 x u hOx
                          have ht := HA.out.2.1
                          have hless := bsT_less (u := t ++ [b]) (v := u) (ht.1.app (.one hlb)) hu.1 (by rw [hu.2, List.length_append, ht.2]; rfl)
                          by_cases hlt : slx.lexB (t ++ [b]) u = true
                          · have hmn : mnT (O x) (t ++ [b]) = some (t ++ [b]) := by rw [hOx]; unfold mnT; simp only [hlt, if_true]
                            rw [hlt] at hless
                            clear hOx hlt hu ht
                            have hput := h4b.put hxM hmn
                            have hnew := HA.out.2.2.1
                            have HZ2 := Lib.hid (And.intro hput hnew)
                            have ne1 : ¬ gn = gt := by have := h4b.a3; omega
                            have ne2 : ¬ gt = gn := by have := h4b.a3; omega
                            clear hput hnew h4b hmn
                            go_wp2_with fail
                            go_roundw
                            case rel =>
                              refine ⟨b + 1, by go_num, by omega, ?_⟩
                              rw [HZ2.out.2]
                              exact HZ2.out.1
                            case measure => simp [intOf]; omega
                          · have hmn : mnT (O x) (t ++ [b]) = O x := by rw [hOx]; unfold mnT; simp only [hlt]; rfl
                            have hnew := HA.out.2.2.1
                            rw [put_old hmn] at hnew
                            rw [Bool.not_eq_true] at hlt
                            rw [hlt] at hless
                            have HZ2 := Lib.hid (And.intro h4b hnew)
                            clear hOx hlt hu ht hmn hnew h4b
                            go_wp2_with fail
                            go_roundw
                            case rel =>
                              refine ⟨b + 1, by go_num, by omega, ?_⟩
                              rw [HZ2.out.2]
                              exact HZ2.out.1
                            case measure => simp [intOf]; omega
                      · have k4 : decide ((b : Int) < 256) = false := decide_eq_false (by omega)
                        have h4e : Rows4 w1 wr M g g3 gn gt L (rowsT D.aut D.blk L (s + 1)) := by
                          rw [rowsT_succ]
                          have : b = 256 := by omega
                          rw [this] at h4
                          exact h4
                        have HX := Lib.hid h4e
                        clear h4 h4e hLs
                        go_wp2_with fail
                        go_roundw
                        case rel => exact ⟨s + 1, by go_num, by omega, HX.out⟩
                        case measure => simp [intOf]; omega
                · obtain rfl : M = s := by omega
                  have k3 : decide (M < M) = false := decide_eq_false (by omega)
                  have hlv : rowsT D.aut D.blk L M = lvT D.aut D.blk (n + 1) := by
                    show _ = rowsT D.aut D.blk (lvT D.aut D.blk n) D.aut.many
                    rw [HP.out.2.2.2.1, hL.out.1]
                  rw [hlv] at h4
                  have H4 := Lib.hid h4
                  clear h4 hlv
                  go_wp2_with fail
                  go_roundw
                  case rel => exact ⟨n + 1, gn, gt, _, by go_num, by omega, Lib.hid ⟨rfl, HZ.out.2.2.2⟩, rfl, rfl, H4.out.n, H4.out.x, H4.out.b⟩
                  case measure => simp [intOf]; omega
      · obtain rfl : n = M := by omega
        have k1 : decide (n < n) = false := decide_eq_false (by omega)
        have hres : firstV D = .tuple #[.string ⟨#[]⟩, .bool false] := by
          unfold firstV
          rw [HP.out.2.2.2.2, refFirst, HP.out.2.2.2.1, hL.out.2]
          rfl
        have hbb := H1.out.1.trans (hbr.mono H1.out.1.size)
        have HO := Lib.hid (And.intro hres hbb)
        clear hrow htx hbr hres hbb
        go_wp2_with fail
        refine bodyPost_ret (results_tmp2 rfl _ _ _) rfl ?_
        exact ⟨by rw [HO.out.1]; rfl, HO.out.2⟩
end Go.Proofs.YtmmlakheimfijaaGreatDoor
