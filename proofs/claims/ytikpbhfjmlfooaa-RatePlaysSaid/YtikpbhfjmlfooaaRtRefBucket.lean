/-
  The walk of the reference's Bucket. Conditions: classes and askings lie as Go's.
-/
import Derived.Test.YtikpbhfjmlfooaaRtWin
namespace Go.Proofs.Ytikpbhfjmlfooaa
set_option linter.unusedVariables false
set_option linter.unusedSimpArgs false
open Go.RowKit Go.Maps Go.Sort

def foldB (b : Bkt) (L : List Ask) (t c : ByteArray) : Bkt := L.foldl (fun b a => if a.1 = t ∧ a.2.1 = c then takeOf b a.2.2 else b) b
theorem foldB_snoc (b : Bkt) (L : List Ask) (x : Ask) (t c : ByteArray) : foldB b (L ++ [x]) t c = if x.1 = t ∧ x.2.1 = c then takeOf (foldB b L t c) x.2.2 else foldB b L t c := by simp [foldB]
def askB (l : List Cls) (begun : Int) (L : List Ask) (t c : ByteArray) : Bkt := match clsG l c with
  | some x => foldB (x.1, x.2, 0, begun) L t c
  | none => (0, 0, 0, 0)
theorem clsG_take_none {l : List Cls} {i : Nat} {c : ByteArray} {x : Cls} (h : anyName (l.take i) c = false) (hx : l[i]? = some x) (he : x.1 = c) : clsG l c = some x.2 := by
  have hi : i < l.length := (List.getElem?_eq_some_iff.1 hx).1
  have hs : l = (l.take i ++ [x]) ++ l.drop (i + 1) := by
    have h1 : l.take (i + 1) = l.take i ++ [x] := by rw [List.take_add_one, hx]; rfl
    rw [← h1, List.take_append_drop]
  have h0 : (l.take i).find? (fun y => decide (y.1 = c)) = none := by
    rw [List.find?_eq_none]
    intro y hy he'
    have : anyName (l.take i) c = true := by rw [anyName, List.any_eq_true]; exact ⟨y, hy, he'⟩
    rw [h] at this
    cases this
  rw [clsG]
  rw [hs, List.find?_append, List.find?_append, h0]
  simp [he]
theorem clsG_none {l : List Cls} {c : ByteArray} (h : anyName l c = false) : clsG l c = none := by
  have h0 : l.find? (fun y => decide (y.1 = c)) = none := by
    rw [List.find?_eq_none]
    intro y hy he'
    have : anyName l c = true := by rw [anyName, List.any_eq_true]; exact ⟨y, hy, he'⟩
    rw [h] at this
    cases this
  rw [clsG, h0]
  rfl
/-- in the inner loop -/
structure InAt (B p : Nat) (b : Bkt) (w W : World) : Prop where
  res : Blk W B 26 #[.int .i64 0, .int .i64 0, .int .i64 0, .int .i64 0]
  cur : Blk W p 26 #[.int .i64 b.1, .int .i64 b.2.1, .int .i64 b.2.2.1, .int .i64 b.2.2.2]
  below : Below B w W
  gt : B < p
theorem InAt.grow {B p : Nat} {b : Bkt} {w W W' : World} (h : InAt B p b w W) (hb : Below W.heap.size W W') : InAt B p b w W' :=
  ⟨h.res.below hb h.res.lt, h.cur.below hb h.cur.lt, h.below.trans (hb.mono (by have := h.res.lt; omega)), h.gt⟩
def CutB (B : Nat) (b : Bkt) (w : World) (s13 : Value) (W : World) : Prop := ∃ p, s13 = .pointer (some ⟨p, 0, none⟩) ∧ InAt B p b w W

set_option maxRecDepth 100000 in
set_option maxHeartbeats 4000000 in
theorem refbucket_any (A LA : Option Addr) (cap lcap : Nat) (l : List Cls) (L : List Ask) (begun : Int) (t c : ByteArray) (w : World) (h : IsCls w w.heap.size A l) (hL : IsAsk w w.heap.size LA L) (hlen : l.length ≤ 1000) (hlen2 : L.length ≤ 1000) :
    Calls Try.prog 36 #[.slice A l.length cap, .int .i64 begun, .slice LA L.length lcap, .string t, .string c] w fun e w' => e = .returned (.tuple #[bktV (askB l begun L t c), .bool (clsG l c).isSome]) ∧ Below w.heap.size w w' := by
  have H := Lib.hid (And.intro h hL)
  clear h hL
  go_enter Try.func36, Try.ntmps36
  go_wp2_with fail
  have q0 := Blk.new w 26 #[.int .i64 0, .int .i64 0, .int .i64 0, .int .i64 0]
  have b0 : Below w.heap.size w (w.alloc (.cells #[.int .i64 0, .int .i64 0, .int .i64 0, .int .i64 0] 26)) := (Below.refl _ _).alloc (Nat.le_refl _) _
  generalize w.alloc (.cells #[.int .i64 0, .int .i64 0, .int .i64 0, .int .i64 0] 26) = w0 at *
  obtain ⟨B, hB⟩ : ∃ B, w.heap.size = B := ⟨_, rfl⟩
  rw [hB] at q0 b0 H
  rw [hB]
  have HB := Lib.hid hB
  clear hB
  have H0 := Lib.hid (And.intro q0 b0)
  clear q0 b0
  go_loopg [12] l.length (fun gk s12 wr => ∃ i : Nat, i ≤ l.length ∧ gk = l.length - i ∧ s12 = .int .i64 i ∧ Hid (anyName (l.take i) c = false) ∧ Hid (Blk wr B 26 #[.int .i64 0, .int .i64 0, .int .i64 0, .int .i64 0] ∧ Below B w wr))
  case atStart => exact ⟨0, by omega, by omega, rfl, Lib.hid rfl, H0⟩
  case round =>
    clear H0
    obtain ⟨i, hi, rfl, rfl, ha, hb⟩ := hrel
    by_cases hlt : i < l.length
    · obtain ⟨b, off, ⟨nm, cp, fl⟩, rfl, hbB, hx, ⟨hs, hcp, hfl⟩, hcell⟩ := H.out.1.at_ hlt
      have m0 := (hcell wr hb.out.2).1
      simp only at m0 hs hcp hfl
      have he := str_eq nm c
      have HX := Lib.hid (And.intro hx hcell)
      clear hx hcell
      by_cases hnn : nm = c
      · subst hnn
        rw [decide_eq_true rfl] at he
        have hcls := clsG_take_none ha.out HX.out.1 rfl
        have HC := Lib.hid hcls
        clear hcls
        have hbl := hb.out.1.lt
        go_wp2_with fail
        clear m0
        go_cut [13] (fun s13 W => CutB B (cp, fl, 0, begun) w s13 W)
        case first =>
          refine wp_region_split [0, 1, 2, 3, 4, 5, 6, 7, 8, 9, 10] 12 11 [] [13] 26 (zeroBk 0) 13 _ _ ?_ (by kernel_rfl) (by kernel_rfl) (by kernel_rfl) (by kernel_rfl) (by kernel_rfl) (by kernel_rfl) rfl rfl rfl rfl rfl (by decide) (by decide) (by kernel_rfl) (by kernel_rfl) (by kernel_rfl) ?_ ?_ ?_
          case refine_2 =>
            intro ρ w1
            simp [execOp, go_sem, zeroBk]
          case refine_3 =>
            intro w1 b1
            have G : ∀ d os, Below B w (Sort.grow (redrawn w1 d) os) := fun d os => hb.out.2.trans ((b1.trans ((below_regrown w1 d os).mono b1.size)).mono (by omega))
            have m1 := fun d os => (HX.out.2 _ (G d os)).2.1
            have m2 := fun d os => (HX.out.2 _ (G d os)).2.2
            clear G
            simp only [atIdx, List.filterMap_cons, List.filterMap_nil, List.getElem?_toArray, List.getElem?_cons_zero, List.getElem?_cons_succ]
            iterate 11 (show wpQuiet _ _ _ _ (_ :: _) _; go_big_quiet_step (fail))
            refine wpQuiet_nil ?_
            rfl
          case refine_4 =>
            intro w1 b1
            have hz1 := b1.size
            refine callAt_value (v := .agg #[.int .i64 cp, .int .i64 fl, .int .i64 0, .int .i64 begun]) ?hrun ?_
            case hrun =>
              simp only [List.getElem?_toArray, List.getElem_toArray, List.getElem_cons_zero, List.getElem_cons_succ]
              simp [execOp, go_sem]
            refine ⟨?_, ?_⟩
            · intro p h2 h3 h4
              simp only [atIdx, List.cons_append, List.nil_append, List.filterMap_cons, List.filterMap_nil, List.getElem?_toArray, List.getElem?_cons_zero, List.getElem?_cons_succ]
              show wpList _ _ _ (_ :: _) _ _
              have hpz : Blk w1 p 26 #[.int .i64 0, .int .i64 0, .int .i64 0, .int .i64 0] := h4
              obtain ⟨⟨y0, y1, y2, y3⟩, x0, x1, x2, x3⟩ := hpz.c4
              go_wp2_with (fail)
              refine onlyNormal_ok ?_
              go_wp2_with (fail)
              go_meet
              case rel =>
                have o := only_set4 w1 p (.int .i64 cp) (.int .i64 fl) (.int .i64 0) (.int .i64 begun)
                exact ⟨p, rfl, ⟨((hb.out.1.below b1 hbl).only o (by simp; omega)), blk_set4 hpz _ _ _ _, (hb.out.2.trans (b1.mono (by omega))).trans (o.below (by omega) (by simp; omega)), by omega⟩⟩
            · simp only [atIdx, List.cons_append, List.nil_append, List.filterMap_cons, List.filterMap_nil, List.getElem?_toArray, List.getElem?_cons_zero, List.getElem?_cons_succ]
              show wpList _ _ _ (_ :: _) _ _
              go_wp2_with (fail)
              refine onlyNormal_ok ?_
              go_wp2_with (fail)
              go_meet
              case rel =>
                exact ⟨w1.heap.size, rfl, ⟨(hb.out.1.below b1 hbl).alloc _, Blk.new w1 _ _, (hb.out.2.trans (b1.mono (by omega))).alloc (by omega) _, by omega⟩⟩
        case rest =>
          obtain ⟨p, rfl, hp⟩ := hcut
          have HP := Lib.hid hp
          clear hp hb
          go_wp2_with fail
          go_loopg [14] L.length (fun gk s14 wi => ∃ k : Nat, k ≤ L.length ∧ gk = L.length - k ∧ s14 = .int .i64 k ∧ Hid (InAt B p (foldB (cp, fl, 0, begun) (L.take k) t nm) w wi))
          case atStart => exact ⟨0, by omega, by omega, rfl, HP⟩
          case round =>
            clear HP
            obtain ⟨k, hk, rfl, rfl, hp⟩ := hrel
            by_cases hkl : k < L.length
            · obtain ⟨b', off', ⟨tn, cl, nw⟩, hA', hbB', hx', ⟨hs1, hs2, hs3⟩, hcell'⟩ := H.out.2.at_ hkl
              subst hA'
              obtain ⟨m0, m1, m2⟩ := hcell' wr hp.out.below
              simp only at m0 m1 m2 hs1 hs2 hs3
              have e1 := str_eq tn t
              have e2 := str_eq cl nm
              have hfs := foldB_snoc (cp, fl, 0, begun) (L.take k) (tn, cl, nw) t nm
              have htk : L.take (k + 1) = L.take k ++ [(tn, cl, nw)] := by rw [List.take_add_one, hx']; rfl
              rw [← htk] at hfs
              have HF := Lib.hid hfs
              have HC' := Lib.hid hcell'
              clear hfs htk hx' hcell'
              by_cases ht : tn = t
              · rw [decide_eq_true ht] at e1
                by_cases hc : cl = nm
                · rw [decide_eq_true hc] at e2
                  have HT := Lib.hid (And.intro ht hc)
                  clear ht hc
                  obtain ⟨⟨x0, x1, x2, x3⟩, hxx⟩ : ∃ x, foldB (cp, fl, 0, begun) (L.take k) t nm = x := ⟨_, rfl⟩
                  rw [hxx] at hp
                  obtain ⟨Y, hY⟩ : ∃ Y, takeH x0 x1 x2 x3 nw = Y := ⟨_, rfl⟩
                  obtain ⟨T, hT⟩ : ∃ T, takeT x0 x1 x2 x3 nw = T := ⟨_, rfl⟩
                  obtain ⟨bt, hbt⟩ : ∃ bt, takeOk x0 x1 x2 x3 nw = bt := ⟨_, rfl⟩
                  have HY := Lib.hid (And.intro hY (And.intro hT (And.intro hbt hxx)))
                  clear hY hT hbt hxx
                  go_wp2_with fail
                  clear m0 m1 m2
                  refine wp_region_float [0, 1, 2, 3, 4, 5] 6 [7, 8, 9] [10] _ ?_ (by kernel_rfl) (by kernel_rfl) (by kernel_rfl) (by kernel_rfl) rfl rfl (by kernel_rfl) (by kernel_rfl) (by kernel_rfl) ?_ ?_
                  case refine_2 =>
                    intro w1 b1
                    have G : ∀ d os, InAt B p (x0, x1, x2, x3) w (Sort.grow (redrawn w1 d) os) := fun d os => hp.out.grow (b1.trans ((below_regrown w1 d os).mono b1.size))
                    have m2 := fun d os => (HC'.out _ (G d os).below).2.2
                    have y0 := fun d os => (G d os).cur.c4.1.1
                    have y1 := fun d os => (G d os).cur.c4.1.2.1
                    have y2 := fun d os => (G d os).cur.c4.1.2.2.1
                    have y3 := fun d os => (G d os).cur.c4.1.2.2.2
                    clear G
                    simp only [atIdx, List.filterMap_cons, List.filterMap_nil, List.getElem?_toArray, List.getElem?_cons_zero, List.getElem?_cons_succ]
                    iterate 6 (show wpQuiet _ _ _ _ (_ :: _) _; go_big_quiet_step (fail))
                    refine wpQuiet_nil ?_
                    rfl
                  case refine_3 =>
                    intro w1 b1
                    have hp1 := hp.out.grow b1
                    refine callAt_enter (f := 13) (args := #[.agg #[.int .i64 x0, .int .i64 x1, .int .i64 x2, .int .i64 x3], .int .i64 nw]) ?hrun ?_
                    case hrun =>
                      simp only [List.getElem?_toArray, List.getElem_toArray, List.getElem_cons_zero, List.getElem_cons_succ]
                      simp [execOp, go_sem]
                    refine (reftake_lit x0 x1 x2 x3 nw Y T bt w1 HY.out.1 HY.out.2.1 HY.out.2.2.1).mono ?_
                    rintro e w2 ⟨rfl, hb2⟩
                    have hp2 := hp1.grow hb2
                    refine ⟨_, rfl, hb2, ?_⟩
                    simp only [atIdx, List.cons_append, List.nil_append, List.filterMap_cons, List.filterMap_nil, List.getElem?_toArray, List.getElem?_cons_zero, List.getElem?_cons_succ]
                    show wpList _ _ _ (_ :: _) _ _
                    obtain ⟨⟨y0, y1, y2, y3⟩, z0, z1, z2, z3⟩ := hp2.cur.c4
                    have o := only_set4 w2 p (.int .i64 x0) (.int .i64 x1) (.int .i64 Y) (.int .i64 T)
                    have hgt := hp2.gt
                    have hin : InAt B p (x0, x1, Y, T) w ((((w2.setCell ⟨p, 0, none⟩ (.int .i64 x0)).setCell ⟨p, 1, none⟩ (.int .i64 x1)).setCell ⟨p, 2, none⟩ (.int .i64 Y)).setCell ⟨p, 3, none⟩ (.int .i64 T)) :=
                      ⟨hp2.res.only o (by simp; omega), blk_set4 hp2.cur _ _ _ _, hp2.below.trans (o.below (by have := hp2.res.lt; omega) (by simp; omega)), hgt⟩
                    have HIN := Lib.hid hin
                    clear hin o hp2 hp1
                    go_wp2_with (fail)
                    refine onlyNormal_ok ?_
                    go_wp2_with (fail)
                    go_roundg (L.length - (k + 1))
                    case measure => omega
                    case rel =>
                      refine ⟨k + 1, by omega, rfl, by go_num, ?_⟩
                      rw [HF.out, if_pos HT.out, HY.out.2.2.2, takeOf]
                      simp only [HY.out.1, HY.out.2.1]
                      exact HIN
                · rw [decide_eq_false hc] at e2
                  have HN := Lib.hid hc
                  clear hc
                  go_wp2_with fail
                  go_roundg (L.length - (k + 1))
                  case measure => omega
                  case rel =>
                    refine ⟨k + 1, by omega, rfl, by go_num, ?_⟩
                    rw [HF.out, if_neg (fun h => HN.out h.2)]
                    exact hp
              · rw [decide_eq_false ht] at e1
                have HN := Lib.hid ht
                clear ht
                go_wp2_with fail
                go_roundg (L.length - (k + 1))
                case measure => omega
                case rel =>
                  refine ⟨k + 1, by omega, rfl, by go_num, ?_⟩
                  rw [HF.out, if_neg (fun h => HN.out h.1)]
                  exact hp
            · obtain rfl : k = L.length := by omega
              rw [List.take_length] at hp
              have hres : askB l begun L t nm = foldB (cp, fl, 0, begun) L t nm := by rw [askB, HC.out]
              obtain ⟨x, hxx⟩ : ∃ x, foldB (cp, fl, 0, begun) L t nm = x := ⟨_, rfl⟩
              rw [hxx] at hp hres
              have HR := Lib.hid hres
              clear hres hxx
              obtain ⟨⟨y0, y1, y2, y3⟩, -⟩ := hp.out.cur.c4
              obtain ⟨⟨e0, e1, e2, e3⟩, f0, f1, f2, f3⟩ := hp.out.res.c4
              have hgt := hp.out.gt
              go_wp2_with fail
              have hbl := blk_set4 hp.out.res (.int .i64 x.1) (.int .i64 x.2.1) (.int .i64 x.2.2.1) (.int .i64 x.2.2.2)
              have hbw := hp.out.below.trans ((only_set4 wr B (.int .i64 x.1) (.int .i64 x.2.1) (.int .i64 x.2.2.1) (.int .i64 x.2.2.2)).below (B := B) (by have := hp.out.res.lt; omega) (by simp))
              generalize (((wr.setCell ⟨B, 0, none⟩ (.int .i64 x.1)).setCell ⟨B, 1, none⟩ (.int .i64 x.2.1)).setCell ⟨B, 2, none⟩ (.int .i64 x.2.2.1)).setCell ⟨B, 3, none⟩ (.int .i64 x.2.2.2) = W at *
              obtain ⟨⟨v0, v1, v2, v3⟩, -⟩ := hbl.c4
              clear e0 e1 e2 e3 f0 f1 f2 f3 y0 y1 y2 y3
              refine bodyPost_ret (v := .tuple #[bktV (askB l begun L t nm), .bool (clsG l nm).isSome]) ?_ rfl ⟨rfl, by rw [HB.out]; exact hbw⟩
              rw [HR.out, HC.out]
              simp [results, Try.results36, go_sem, v0, v1, v2, v3, bktV]
      · rw [decide_eq_false hnn] at he
        have HN := Lib.hid hnn
        clear hnn
        go_wp2_with fail
        go_roundg (l.length - (i + 1))
        case measure => omega
        case rel => exact ⟨i + 1, by omega, rfl, by go_num, Lib.hid (any_succ HX.out.1 HN.out ha.out), hb⟩
    · obtain rfl : i = l.length := by omega
      rw [List.take_length] at ha
      have hn := clsG_none ha.out
      have HN := Lib.hid hn
      clear hn
      obtain ⟨⟨y0, y1, y2, y3⟩, x0, x1, x2, x3⟩ := hb.out.1.c4
      go_wp2_with fail
      have hbl := blk_set4 hb.out.1 (.int .i64 0) (.int .i64 0) (.int .i64 0) (.int .i64 0)
      have hbw := hb.out.2.trans ((only_set4 wr B (.int .i64 0) (.int .i64 0) (.int .i64 0) (.int .i64 0)).below (B := B) (by have := hb.out.1.lt; omega) (by simp))
      generalize (((wr.setCell ⟨B, 0, none⟩ (.int .i64 0)).setCell ⟨B, 1, none⟩ (.int .i64 0)).setCell ⟨B, 2, none⟩ (.int .i64 0)).setCell ⟨B, 3, none⟩ (.int .i64 0) = W at *
      obtain ⟨⟨v0, v1, v2, v3⟩, -⟩ := hbl.c4
      clear y0 y1 y2 y3 x0 x1 x2 x3
      refine bodyPost_ret (v := .tuple #[bktV (askB l begun L t c), .bool (clsG l c).isSome]) ?_ rfl ⟨rfl, by rw [HB.out]; exact hbw⟩
      rw [askB, HN.out]
      simp [results, Try.results36, go_sem, v0, v1, v2, v3, bktV]
end Go.Proofs.Ytikpbhfjmlfooaa
