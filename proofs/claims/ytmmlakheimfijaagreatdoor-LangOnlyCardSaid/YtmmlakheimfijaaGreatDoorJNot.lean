/-
  The walk of prod.Not: the least automaton of what is not taken. Conditions: the automaton lies in memory; the table of powers lies as laid.
  The walk of prod's `row`. Conditions: each lemma says its own.
-/
import Derived.Test.YtmmlakheimfijaaGreatDoorJPl
import Derived.Test.YtmmlakheimfijaaGreatDoorJAuOf
import Derived.Test.YtmmlakheimfijaaGreatDoorJTog
namespace Go.Proofs.YtmmlakheimfijaaGreatDoor
set_option linter.unusedVariables false
set_option linter.unusedSimpArgs false
open Go.RowKit Go.Maps Go.Sort Go.ChangeShapes Go.WideShapes

/-- the automaton whose marks are turned -/
def flipD (D : DfaI) : DfaI := { D with fin := D.fin.map (!·) }
section
variable {D : DfaI}
theorem flipD_wide : wideI (flipD D) = wideI D := rfl
theorem flipD_right (h : RightD D) : RightD (flipD D) := ⟨h.m1, h.m2, by show (D.fin.map (!·)).length = _; rw [List.length_map]; exact h.fin, h.s0, h.s1, h.w0, h.rows⟩
theorem flipD_lang (h : RightD D) {u : List Nat} (hu : Bytes u) : langD (flipD D) u = !langD D u := by
  have hlt := Aut.at_lt h.ok h.blk.1.blk hu
  have e : D.aut.many = D.next.length := D.nx_len
  show (D.fin.map (!·)).getD (D.aut.at_ D.blk u) false = !(D.fin.getD (D.aut.at_ D.blk u) false)
  have hl : D.aut.at_ D.blk u < D.fin.length := by
    rw [h.fin, ← e]
    exact hlt
  rw [List.getD_eq_getElem?_getD, List.getElem?_map, List.getElem?_eq_getElem hl, List.getD_eq_getElem?_getD, List.getElem?_eq_getElem hl]
  rfl
noncomputable def notC (D : DfaI) : DfaI := if rightD D = true then canonI (fun u => !langD D u) else noD
theorem notC_of (h : RightD D) : ofD (flipD D) = notC D := by
  rw [ofD_pos (flipD_right h)]
  unfold notC
  rw [if_pos (rightD_iff.2 h)]
  exact canonI_congr fun u hu => flipD_lang h hu
theorem flipD_in (h : D.In) : (flipD D).In := ⟨h.start, by show (D.fin.map (!·)).length ≤ _; rw [List.length_map]; exact h.fin, h.block, h.many, h.rows⟩
end
theorem DfaAt.cut {w : World} {S : Int} {af ab an : Option Addr} {F B M cf cb cn : Nat} {D : DfaI} (h : DfaAt w (.agg #[.int .i64 S, .slice af F cf, .slice ab B cb, .slice an M cn]) D) :
    BoolsAt w (.slice af F cf) F (fun i => D.fin.getD i false) ∧ IntsAt w (.slice ab B cb) D.block ∧ IRowsAt w (.slice an M cn) D.next := by
  obtain ⟨x1, x2, x3, he, h1, h2, h3⟩ := h
  obtain ⟨-, rfl, rfl, rfl⟩ : _ ∧ _ ∧ _ ∧ _ := by simpa using he
  obtain ⟨a', c', he', h4⟩ := id h1
  obtain ⟨-, e, -⟩ := Value.slice.inj he'
  rw [← e] at h1
  exact ⟨h1, h2, h3⟩
theorem set4_block (w : World) (g : Nat) (u0 u1 u2 u3 : Value) (k : Nat) (hk : k ≠ g) : ((((w.setCell ⟨g, 0, none⟩ u0).setCell ⟨g, 1, none⟩ u1).setCell ⟨g, 2, none⟩ u2).setCell ⟨g, 3, none⟩ u3).heap[k]? = w.heap[k]? := by
  rw [Below.heap_setCell _ ⟨g, 3, none⟩ u3 k hk, Below.heap_setCell _ ⟨g, 2, none⟩ u2 k hk, Below.heap_setCell _ ⟨g, 1, none⟩ u1 k hk, Below.heap_setCell _ ⟨g, 0, none⟩ u0 k hk]
def flipC (l : List Bool) : List Value := l.map fun b => .bool (!b)
theorem flipC_snoc (l : List Bool) (b : Bool) : flipC (l ++ [b]) = flipC l ++ [.bool (!b)] := by simp [flipC]

set_option maxHeartbeats 8000000 in
set_option maxRecDepth 1000000 in
theorem not_any (v : Value) (D : DfaI) (w : World) (h : DfaAt w v D) (hD : D.In) (hT : Pow10 w) : Calls Tryz.prog 23 #[v] w fun e w' => ∃ rv, e = .returned rv ∧ DfaAt w' rv (notC D) ∧ Below w.heap.size w w' := by
  obtain ⟨S, af, ab, an, F, B, M, cf, cb, cn, hS, hF, hB, hM, rfl⟩ := h.form
  have hF9 := hD.fin
  rw [hF] at hF9
  have hal := (Below.refl w.heap.size w).alloc (Nat.le_refl _) (.cells #[.int .i64 S, .slice af F cf, .slice ab B cb, .slice an M cn] 26)
  have hz0 : (w.alloc (.cells #[.int .i64 S, .slice af F cf, .slice ab B cb, .slice an M cn] 26)).heap.size = w.heap.size + 1 := by simp
  have hal2 := hal.alloc (by omega) (.cells #[.int .i64 0, .slice none 0 0, .slice none 0 0, .slice none 0 0] 26)
  have hq := (Blk.new w 26 #[.int .i64 S, .slice af F cf, .slice ab B cb, .slice an M cn]).alloc (.cells #[.int .i64 0, .slice none 0 0, .slice none 0 0, .slice none 0 0] 26)
  have hr := Blk.new (w.alloc (.cells #[.int .i64 S, .slice af F cf, .slice ab B cb, .slice an M cn] 26)) 26 #[.int .i64 0, .slice none 0 0, .slice none 0 0, .slice none 0 0]
  rw [hz0] at hr
  obtain ⟨⟨y0, y1, y2, y3⟩, -⟩ := hq.c4
  have H := Lib.hid (And.intro hal2 (And.intro (h.below hal2) (And.intro hq (And.intro hr (hT.below hal2 (Nat.le_refl _))))))
  have HP := Lib.hid (And.intro hD (And.intro hS (And.intro hF (And.intro hB hM))))
  clear h hal hal2 hq hr hD hS hF hB hM hz0 hT
  go_enter Tryz.func23, Tryz.ntmps23
  go_wp2_with fail
  generalize (w.alloc (.cells #[.int .i64 S, .slice af F cf, .slice ab B cb, .slice an M cn] 26)).alloc (.cells #[.int .i64 0, .slice none 0 0, .slice none 0 0, .slice none 0 0] 26) = W at *
  refine (dright_any _ D W H.out.2.1 HP.out.1).mono ?_
  rintro e w1 ⟨rfl, b1⟩
  clear y0 y1 y2 y3
  have H1 := Lib.hid (And.intro (H.out.1.trans (b1.mono H.out.1.size)) (And.intro (H.out.2.1.below b1) (And.intro (H.out.2.2.1.below b1 H.out.2.2.1.lt) (And.intro (H.out.2.2.2.1.below b1 H.out.2.2.2.1.lt) (H.out.2.2.2.2.below b1 (Nat.le_refl _))))))
  clear b1 H
  obtain ⟨⟨r0, r1, r2, r3⟩, f0, f1, f2, f3⟩ := H1.out.2.2.2.1.c4
  cases hr : rightD D with
  | false =>
    have hof : notC D = noD := by unfold notC; rw [if_neg (by rw [hr]; decide)]
    have hb4 := blk_set4 H1.out.2.2.2.1 (.int .i64 0) (.slice none 0 0) (.slice none 0 0) (.slice none 0 0)
    obtain ⟨⟨r0', r1', r2', r3'⟩, -⟩ := hb4.c4
    have ho4 := only_set4 w1 (w.heap.size + 1) (.int .i64 0) (.slice none 0 0) (.slice none 0 0) (.slice none 0 0)
    have hbl := ho4.below (B := w.heap.size) (by have := H1.out.1.size; omega) (by simp)
    have HO := Lib.hid (And.intro hof (H1.out.1.trans hbl))
    clear hr hof hbl
    go_wp2_with fail
    refine bodyPost_ret (v := .agg #[.int .i64 0, .slice none 0 0, .slice none 0 0, .slice none 0 0]) (by simp [results, Tryz.results23, go_sem, r0', r1', r2', r3']) rfl ⟨_, rfl, ?_, HO.out.2⟩
    rw [HO.out.1]
    exact ⟨_, _, _, rfl, ⟨none, 0, rfl, .inl rfl⟩, ⟨none, 0, rfl, .inl rfl⟩, ⟨none, 0, rfl, .inl rfl⟩⟩
  | true =>
    have hR := rightD_iff.1 hr
    have hF4 : F ≤ 4096 := by
      have h1 := hR.m2
      have h2 := hR.fin
      have h3 := HP.out.2.2.1
      omega
    obtain ⟨⟨y0, y1, y2, y3⟩, -⟩ := H1.out.2.2.1.c4
    have HR := Lib.hid hR
    obtain ⟨s0, hs0, hs00, hs01, hs02⟩ := info_parts infoBool
    have hal := (Below.refl w1.heap.size w1).alloc (Nat.le_refl _) (.cells #[.int .i64 S, .slice none 0 0, .slice ab B cb, .slice an M cn] 26)
    have n3 := Blk.new w1 26 #[.int .i64 S, .slice none 0 0, .slice ab B cb, .slice an M cn]
    have q1 := (H1.out.2.2.1.below hal H1.out.2.2.1.lt).c4.1.2.1
    have hz3 : (w1.alloc (.cells #[.int .i64 S, .slice none 0 0, .slice ab B cb, .slice an M cn] 26)).heap.size = w1.heap.size + 1 := by simp
    have H3 := Lib.hid (And.intro n3 hal)
    clear hr hR n3 hal
    go_wp2_with fail
    generalize w1.alloc (.cells #[.int .i64 S, .slice none 0 0, .slice ab B cb, .slice an M cn] 26) = W3 at *
    clear y0 y1 y2 y3 q1 r0 r1 r2 r3 f0 f1 f2 f3
    go_loopw [15] (fun c wr => ∃ (i : Nat) (fv : Value), c = .int .i64 i ∧ i ≤ F ∧ Blk wr w1.heap.size 26 #[.int .i64 S, fv, .slice ab B cb, .slice an M cn] ∧ wr.ownsRow w1.heap.size 4 1 fv i (flipC (D.fin.take i)) ∧ RowKit.Below w1.heap.size w1 wr) (fun c _ => F - (intOf c).toNat)
    case atStart => exact ⟨0, .slice none 0 0, rfl, by omega, H3.out.1, World.ownsRow_nil _ _ _ _, H3.out.2⟩
    case round =>
      obtain ⟨i, fv, rfl, hi, hq, hown, hb⟩ := hrel
      obtain ⟨afv, cfv, rfl⟩ := own_shape hown
      have hcut := (H1.out.2.1.below hb).cut
      by_cases hli : i < F
      · have k1 : decide (i < F) = true := decide_eq_true hli
        obtain ⟨bf, of_, cf', hef, m0⟩ := hcut.1.get hli
        obtain ⟨rfl, -, -⟩ := Value.slice.inj hef
        obtain ⟨x, hx⟩ : ∃ x, D.fin[i]? = some x := ⟨_, List.getElem?_eq_getElem (by have := HP.out.2.2.1; omega)⟩
        have hxg : D.fin.getD i false = x := by rw [List.getD_eq_getElem?_getD, hx]; rfl
        rw [hxg] at m0
        have htk : D.fin.take (i + 1) = D.fin.take i ++ [x] := by rw [List.take_add_one, hx]; rfl
        have HX := Lib.hid htk
        obtain ⟨⟨y0, y1, y2, y3⟩, -⟩ := hq.c4
        have hzr := hb.size
        have hown1 := hown.alloc (.cells #[.bool (!x)] 4)
        have hone := one_at (w := wr) (u := .bool (!x)) (t := 4)
        have hqa := hq.alloc (.cells #[.bool (!x)] 4)
        have hbn := own_blk_ne hown hq (by decide)
        have HW := Lib.hid (And.intro hq (And.intro hown hb))
        clear hcut hef hx hxg htk hq hown hb
        go_wp2_with (at_builtin; refine wpList_append_lies _ rfl _ _ 22 rfl w1.heap.size 4 s0 (.bool false) 1 1 Tryz.underlying22 hs0 hs00 hs01 hs02 rfl (by decide) _ _ _ rfl hown1 ⟨wr.heap.size, 0, none⟩ 1 1 [.bool (!x)] rfl rfl hone (fun u hu => by simp at hu; subst hu; rfl) (by decide) (by unfold maxLen; omega) (by omega) (by simp; omega) _ rfl ?_; intro g11 cap11 w11 hown11 hgrow11 hat11 hlt11; have hq11 := hqa.grown hgrow11 (fun e => hbn e.symm); obtain ⟨⟨p0, p1, p2, p3⟩, f0, f1, f2, f3⟩ := hq11.c4)
        have hq12 := hq11.set_ 1 (.slice (some ⟨g11, 0, none⟩) (i + 1) cap11)
        have ho12 := own_set hown11 (.slice (some ⟨g11, 0, none⟩) (i + 1) cap11) (a := ⟨w1.heap.size, 1, none⟩) (own_blk_ne hown11 hq11 (by decide))
        have hb12 := (((HW.out.2.2.alloc hzr (.cells #[.bool (!x)] 4)).grown hgrow11 (by simp; omega) (fun j e => (HW.out.2.1.lt j e).1)).setCell (p := ⟨w1.heap.size, 1, none⟩) (Nat.le_refl _) (.slice (some ⟨g11, 0, none⟩) (i + 1) cap11))
        have HR2 := Lib.hid (And.intro hq12 (And.intro ho12 hb12))
        clear hown11 hgrow11 hat11 hlt11 hq11 hq12 ho12 hb12 hqa hbn hone hown1 p0 p1 p2 p3 f0 f1 f2 f3
        go_roundw
        case rel =>
          refine ⟨i + 1, .slice (some ⟨g11, 0, none⟩) (i + 1) cap11, by go_num, by omega, by simpa using HR2.out.1, ?_, HR2.out.2.2⟩
          rw [HX.out, flipC_snoc]
          exact HR2.out.2.1
        case measure => simp [intOf]; omega
      · obtain rfl : F = i := by omega
        have k1 : decide (F < F) = false := decide_eq_false (by omega)
        have hfl : D.fin.take F = D.fin := by rw [← HP.out.2.2.1, List.take_length]
        rw [hfl] at hown
        have hfe : flipC D.fin = (D.fin.map (!·)).map .bool := by unfold flipC; rw [List.map_map]; rfl
        rw [hfe] at hown
        have hbo := boolsAt_own hown
        have hd3 : DfaAt wr (.agg #[.int .i64 S, .slice afv F cfv, .slice ab B cb, .slice an M cn]) (flipD D) := by
          refine ⟨.slice afv F cfv, .slice ab B cb, .slice an M cn, ?_, hbo, hcut.2.1, hcut.2.2⟩
          show _ = Value.agg #[.int .i64 D.start, _, _, _]
          rw [HP.out.2.1]
        obtain ⟨⟨y0, y1, y2, y3⟩, -⟩ := hq.c4
        have hrb := H1.out.2.2.2.1.below hb H1.out.2.2.2.1.lt
        have hT3 := H1.out.2.2.2.2.below hb (Nat.le_refl _)
        have hbl := H1.out.1.trans (hb.mono H1.out.1.size)
        have HE := Lib.hid (And.intro hd3 (And.intro hrb (And.intro hT3 hbl)))
        have hsz := hbl.size
        clear hfl hfe hbo hd3 hrb hT3 hbl hcut hown hq
        go_wp2_with fail
        refine (of_any2 _ (flipD D) wr HE.out.1 (flipD_in HP.out.1) HE.out.2.2.1).mono ?_
        rintro e w5 ⟨rv, rfl, h5, b5, hag⟩
        obtain ⟨S5, x1, x2, x3, F5, B5, M5, c1, c2, c3, -, -, -, -, rfl⟩ := h5.form
        have hrb := HE.out.2.1.below b5 HE.out.2.1.lt
        have hlt : w.heap.size + 1 < wr.heap.size := HE.out.2.1.lt
        obtain ⟨-, f0, f1, f2, f3⟩ := hrb.c4
        obtain ⟨⟨r0, r1, r2, r3⟩, -⟩ := hrb.c4
        have hb4 := blk_set4 hrb (.int .i64 S5) (.slice x1 F5 c1) (.slice x2 B5 c2) (.slice x3 M5 c3)
        obtain ⟨⟨r0', r1', r2', r3'⟩, -⟩ := hb4.c4
        have ho4 := only_set4 w5 (w.heap.size + 1) (.int .i64 S5) (.slice x1 F5 c1) (.slice x2 B5 c2) (.slice x3 M5 c3)
        have hbel := HE.out.2.2.2.trans (b5.mono hsz)
        have hfin := hag _ fun k hk => set4_block w5 (w.heap.size + 1) (.int .i64 S5) (.slice x1 F5 c1) (.slice x2 B5 c2) (.slice x3 M5 c3) k (by omega)
        rw [notC_of HR.out] at hfin
        have HZ := Lib.hid (And.intro hfin (hbel.trans (ho4.below hbel.size (by simp))))
        clear hfin hbel ho4 hb4 hrb hag h5 y0 y1 y2 y3
        go_wp2_with fail
        refine bodyPost_ret (v := .agg #[.int .i64 S5, .slice x1 F5 c1, .slice x2 B5 c2, .slice x3 M5 c3]) (by simp [results, Tryz.results23, go_sem, r0', r1', r2', r3']) rfl ⟨_, rfl, HZ.out.1, HZ.out.2⟩
end Go.Proofs.YtmmlakheimfijaaGreatDoor
namespace Go.Proofs.YtmmlakheimfijaaGreatDoor
set_option linter.unusedVariables false
set_option linter.unusedSimpArgs false
open Go.RowKit Go.Maps Go.Sort Go.ChangeShapes Go.WideShapes Go.Joins

set_option maxHeartbeats 8000000 in
set_option maxRecDepth 1000000 in
theorem row_walk (w0 w : World) (B p m n : Nat) (va vb blk fv : Value) (cs : List Value) (D E : DfaI) (fs : List Nat) (o : List Pr) (ov : Value) (x : Pr) (h : TogS w0 w B p m n va vb cs blk fv D E fs o ov) (hD : D.In) (hE : E.In) (hx1 : x.1 < D.next.length) (hx2 : x.2 < E.next.length)
    (hR : RightD D) (hR2 : RightD E) (hf : ∀ k, k < fs.length → fs.getD k 0 < 256) (hl : o.length ≤ 5000) (hfl : fs.length ≤ 256) :
    Calls Tryz.prog 86 #[.pointer (some ⟨p, 0, none⟩), prV x] w fun e w' => ∃ rv, e = .returned rv ∧ w'.ownsRow w.heap.size 3 1 rv fs.length (natCells (prN D E fs x o fs.length)) ∧
      (∃ n' ov', TogS w0 w' B p m n' va vb cs blk fv D E fs (prO D E fs x o fs.length) ov' ∧ ∀ g, ov'.ownBlock = some g → ov.ownBlock = some g ∨ w.heap.size ≤ g) ∧ Near (mS p m ov) w w' := by
  obtain ⟨x1, x2⟩ := x
  have hpw := And.intro h.t.q.lt h.t.num.lt
  have hw0 := h.bel.size
  obtain ⟨a0, a1, a2, a3, b0, b1, b2, b3, rfl, rfl, rfl⟩ := id h.v
  obtain ⟨S, af, ab, an, F, K1, M, cf, cb, cn, hS, hF, hK1, hM, hea⟩ := h.a.form
  obtain ⟨rfl, rfl, rfl, rfl⟩ : a0 = .int .i64 S ∧ a1 = .slice af F cf ∧ a2 = .slice ab K1 cb ∧ a3 = .slice an M cn := by simpa using hea
  obtain ⟨S', ef, eb, en, F', K2, M', ce, ce', ce'', hS', hF', hK2, hM', heb⟩ := h.b.form
  obtain ⟨rfl, rfl, rfl, rfl⟩ : b0 = .int .i64 S' ∧ b1 = .slice ef F' ce ∧ b2 = .slice eb K2 ce' ∧ b3 = .slice en M' ce'' := by simpa using heb
  obtain ⟨A9, cc9, rfl⟩ := own_slice h.fst
  have hal := (Below.refl w.heap.size w).alloc (Nat.le_refl _) (.cells #[.int .i64 (x1 : Int), .int .i64 (x2 : Int)] 101)
  have hb := Blk.new w 101 #[.int .i64 (x1 : Int), .int .i64 (x2 : Int)]
  obtain ⟨⟨y0, y1⟩, -⟩ := hb.c2
  have h1 := h.under hal
  have c3 : (w.alloc (.cells #[.int .i64 (x1 : Int), .int .i64 (x2 : Int)] 101)).cell? ⟨p, 3, none⟩ = some (.slice an M cn) := h1.t.q.cell 3
  have c7 : (w.alloc (.cells #[.int .i64 (x1 : Int), .int .i64 (x2 : Int)] 101)).cell? ⟨p, 7, none⟩ = some (.slice en M' ce'') := h1.t.q.cell 7
  have c9 : (w.alloc (.cells #[.int .i64 (x1 : Int), .int .i64 (x2 : Int)] 101)).cell? ⟨p, 9, none⟩ = some (.slice A9 fs.length cc9) := h1.t.q.cell 9
  obtain ⟨-, ha2, ha3⟩ := h.a.cut
  obtain ⟨-, hb2, hb3⟩ := h.b.cut
  obtain ⟨ra, hra⟩ : ∃ l, D.next[x1]? = some l := ⟨_, List.getElem?_eq_getElem hx1⟩
  obtain ⟨rb, hrb⟩ : ∃ l, E.next[x2]? = some l := ⟨_, List.getElem?_eq_getElem hx2⟩
  obtain ⟨g1, o1, ax, cx, rfl, m1, i1⟩ := ha3.get hra
  obtain ⟨g2, o2, ay, cy, rfl, m2, i2⟩ := hb3.get hrb
  have m1 := (h1.bel.cell (World.block_lt_of_cell? _ _ m1)).trans m1
  have m2 := (h1.bel.cell (World.block_lt_of_cell? _ _ m2)).trans m2
  have hx1' : x1 < M := by rw [← hM]; exact hx1
  have hx2' : x2 < M' := by rw [← hM']; exact hx2
  have H := Lib.hid (And.intro h1 (And.intro hb (And.intro hal (And.intro hD (And.intro hE (And.intro hR (And.intro hR2 (And.intro hf (And.intro hra (And.intro hrb (And.intro i1 (And.intro i2 (And.intro ha2 hb2)))))))))))))
  clear h h1 hb hal hD hE hR hR2 hf ha3 hb3 hea heb hra hrb i1 i2 ha2 hb2 hx1 hx2 hS hS'
  go_enter Tryz.func86, Tryz.ntmps86
  go_wp2_with fail
  generalize w.alloc (.cells #[.int .i64 (x1 : Int), .int .i64 (x2 : Int)] 101) = W at *
  refine wp_region_T [] (by kernel_rfl) ?_
  intro W1 bb
  have lc : ∀ {p : Addr} {v : Value}, W.cell? p = some v → ∀ d os, (Sort.grow (redrawn W1 d) os).cell? p = some v := fun {p v} hp d os => ((bb.trans ((below_regrown W1 d os).mono bb.size)).cell (World.block_lt_of_cell? W p hp)).trans hp
  have q0 := lc c3
  have q1 := lc c7
  have q2 := lc y0
  have q3 := lc y1
  have q4 := lc m1
  have q5 := lc m2
  clear lc
  have c9' := (bb.cell (p := ⟨p, 9, none⟩) H.out.1.t.q.lt).trans c9
  clear c3 c7 y0 y1 m1 m2 c9
  refine stepsQ [0, 1, 2, 3, 4, 5, 6, 7, 8, 9, 10, 11, 12, 13, 14, 15, 16, 17, 18, 19] (by kernel_rfl) (by kernel_rfl) (by kernel_rfl) (Grown.of_below (Below.refl _ _)) ?_
  simp only [atIdx, List.filterMap_cons, List.filterMap_nil, List.getElem?_toArray, List.getElem_toArray, List.getElem?_cons_zero, List.getElem?_cons_succ, List.getElem_cons_zero, List.getElem_cons_succ]
  iterate 20 (show wpQuiet _ _ _ _ (_ :: _) _; go_big_quiet_step (fail))
  refine wpQuiet_nil ?_
  show stepT _ _ _ _ _ _ _ _ _
  refine stepT_end (by kernel_rfl) ?_
  have T1 := H.out.1.under bb
  have b1 := H.out.2.1.below bb H.out.2.1.lt
  have be1 := H.out.2.2.1.trans (bb.mono H.out.2.2.1.size)
  have hz1 : w.heap.size < W1.heap.size := b1.lt
  have HK := Lib.hid H.out.2.2.2
  have HT := Lib.hid (And.intro T1 be1)
  clear T1 be1 b1 bb q0 q1 q2 q3 q4 q5 H
  go_wp2_with fail
  clear c9'
  go_loopw [5, 9, 33] (fun c5 _ c33 wr => ∃ (j n' : Nat) (ov' : Value), j ≤ fs.length ∧ c33 = .int .i64 j ∧ wr.ownsRow w.heap.size 3 1 c5 j (natCells (prN D E fs (x1, x2) o j)) ∧ Hid (TogS w0 wr B p m n' (.agg #[.int .i64 S, .slice af F cf, .slice ab K1 cb, .slice (some ⟨g1, o1, none⟩) M cn]) (.agg #[.int .i64 S', .slice ef F' ce, .slice eb K2 ce', .slice (some ⟨g2, o2, none⟩) M' ce'']) [.int .i64 S, .slice af F cf, .slice ab K1 cb, .slice (some ⟨g1, o1, none⟩) M cn, .int .i64 S', .slice ef F' ce, .slice eb K2 ce', .slice (some ⟨g2, o2, none⟩) M' ce''] blk (.slice A9 fs.length cc9) D E fs (prO D E fs (x1, x2) o j) ov' ∧ (∀ g, ov'.ownBlock = some g → ov.ownBlock = some g ∨ w.heap.size ≤ g) ∧ Near (mS p m ov) w wr) ∧ w.heap.size < wr.heap.size) (fun _ _ x _ => fs.length - (intOf x).toNat)
  case atStart => exact ⟨0, n, ov, by omega, rfl, World.ownsRow_nil _ _ _ _, Lib.hid ⟨HT.out.1, fun g e => .inl e, .of_below HT.out.2 (Nat.le_refl _)⟩, hz1⟩
  case round =>
    obtain ⟨j, nn, ov1, hj, rfl, hown, HS, hzr⟩ := hrel
    by_cases hlt : j < fs.length
    · have T := HS.out.1
      obtain ⟨ga, capa, hva, -, hla⟩ := T.fst.form (by omega)
      obtain ⟨rfl, -, rfl⟩ := Value.slice.inj hva
      have m9 := T.fst.cellAt j (by omega)
      have hm9 : (bytCellsP fs)[j]? = some (.int .u8 ((fs.getD j 0 : Nat) : Int)) := by
        unfold bytCellsP
        rw [List.getElem?_map, List.getElem?_eq_getElem hlt, List.getD_eq_getElem?_getD, List.getElem?_eq_getElem hlt]
        rfl
      rw [hm9] at m9
      have hc := HK.out.2.2.2.2.1 j hlt
      obtain ⟨l1, e1, e2, e3, e4, e5⟩ := HK.out.2.2.1.step (p := x1) (by rw [hM]; exact hx1') hc
      obtain ⟨l2, f1, f2, f3, f4, f5⟩ := HK.out.2.2.2.1.step (p := x2) (by rw [hM']; exact hx2') hc
      obtain rfl : ra = l1 := by
        have := HK.out.2.2.2.2.2.1
        rw [this] at e1
        injection e1
      obtain rfl : rb = l2 := by
        have := HK.out.2.2.2.2.2.2.1
        rw [this] at f1
        injection f1
      have hxx : stpP D E (x1, x2) (fs.getD j 0) = (D.aut.nx x1 (D.blk (fs.getD j 0)), E.aut.nx x2 (E.blk (fs.getD j 0))) := rfl
      have hK1' : K1 = 256 := by rw [← hK1]; exact HK.out.2.2.1.blk.2
      have hK2' : K2 = 256 := by rw [← hK2]; exact HK.out.2.2.2.1.blk.2
      have hms1 := HK.out.2.2.1.m2
      have hms2 := HK.out.2.2.2.1.m2
      obtain ⟨u1, v1, rfl, n1⟩ := HK.out.2.2.2.2.2.2.2.2.2.1.get e2
      obtain ⟨u2, v2, rfl, n2⟩ := HK.out.2.2.2.2.2.2.2.1.get e3
      obtain ⟨u3, v3, rfl, n3⟩ := HK.out.2.2.2.2.2.2.2.2.2.2.get f2
      obtain ⟨u4, v4, rfl, n4⟩ := HK.out.2.2.2.2.2.2.2.2.1.get f3
      replace n1 := (T.bel.cell (World.block_lt_of_cell? _ _ n1)).trans n1
      replace n2 := (T.bel.cell (World.block_lt_of_cell? _ _ n2)).trans n2
      replace n3 := (T.bel.cell (World.block_lt_of_cell? _ _ n3)).trans n3
      replace n4 := (T.bel.cell (World.block_lt_of_cell? _ _ n4)).trans n4
      have c2 : wr.cell? ⟨p, 2, none⟩ = some (.slice (some ⟨u1, v1, none⟩) K1 cb) := T.t.q.cell 2
      have c6 : wr.cell? ⟨p, 6, none⟩ = some (.slice (some ⟨u3, v3, none⟩) K2 ce') := T.t.q.cell 6
      obtain ⟨c, hcc⟩ : ∃ c, fs.getD j 0 = c := ⟨_, rfl⟩
      obtain ⟨kA, hkA⟩ : ∃ k, D.blk c = k := ⟨_, rfl⟩
      obtain ⟨kB, hkB⟩ : ∃ k, E.blk c = k := ⟨_, rfl⟩
      obtain ⟨tA, htA⟩ : ∃ k, D.aut.nx x1 kA = k := ⟨_, rfl⟩
      obtain ⟨tB, htB⟩ : ∃ k, E.aut.nx x2 kB = k := ⟨_, rfl⟩
      rw [hcc] at m9 hc e2 e3 e4 e5 f2 f3 f4 f5 n1 n2 n3 n4 hxx
      rw [hkA] at e3 e4 e5 n1 n2 hxx
      rw [hkB] at f3 f4 f5 n3 n4 hxx
      rw [htA] at e4 n2 hxx
      rw [htB] at f4 n4 hxx
      have HX := Lib.hid hxx
      have hk1 : c < K1 := by omega
      have hk2 : c < K2 := by omega
      have HB := Lib.hid (And.intro hcc (And.intro hkA (And.intro hkB (And.intro htA htB))))
      clear hxx hcc hkA hkB htA htB e1 e2 e3 f1 f2 f3 hm9 hva hla T
      go_wp2_with fail
      refine wp_region_T [0, 25, 26, 27, 28] (by kernel_rfl) ?_
      intro W3 bb
      have lc : ∀ {p : Addr} {v : Value}, wr.cell? p = some v → ∀ d os, (Sort.grow (redrawn W3 d) os).cell? p = some v := fun {p v} hp d os => ((bb.trans ((below_regrown W3 d os).mono bb.size)).cell (World.block_lt_of_cell? wr p hp)).trans hp
      have q0 := lc c2
      have q1 := lc c6
      have q2 := lc n1
      have q3 := lc n2
      have q4 := lc n3
      have q5 := lc n4
      clear lc
      clear c2 c6 n1 n2 n3 n4 m9
      refine stepsP [0] (by kernel_rfl) (by kernel_rfl) ?_
      simp only [atIdx, List.filterMap_cons, List.filterMap_nil, List.getElem?_toArray, List.getElem_toArray, List.getElem?_cons_zero, List.getElem?_cons_succ, List.getElem_cons_zero, List.getElem_cons_succ]
      iterate 1 (show wpQuiet _ _ _ _ (_ :: _) _; go_big_quiet_step (fail))
      refine wpQuiet_nil ?_
      show stepT _ _ _ _ _ _ _ _ _
      refine stepsQ [1, 2, 3, 4, 5, 6, 7, 8, 9, 10, 11, 12, 13, 14, 15, 16, 17, 18, 19, 20, 21, 22, 23] (by kernel_rfl) (by kernel_rfl) (by kernel_rfl) (Grown.of_below (Below.refl _ _)) ?_
      simp only [atIdx, List.filterMap_cons, List.filterMap_nil, List.getElem?_toArray, List.getElem_toArray, List.getElem?_cons_zero, List.getElem?_cons_succ, List.getElem_cons_zero, List.getElem_cons_succ]
      iterate 23 (show wpQuiet _ _ _ _ (_ :: _) _; go_big_quiet_step (fail))
      refine wpQuiet_nil ?_
      show stepT _ _ _ _ _ _ _ _ _
      refine stepS (i := 24) rfl (by kernel_rfl) ?_
      intro K hK
      go_simp
      refine hK _ _ ⟨fun _ => Grown.of_below (Below.refl _ _), ?_⟩
      clear hK K
      have T3 := HS.out.1.under bb
      have hown3 := own_under hown bb (fun g hg => own_lt hown hg)
      refine stepS (i := 25) rfl (by kernel_rfl) ?_
      intro K hK
      go_simp
      refine (meet_walk B p m nn _ _ ov1 (tA, tB) W3 T3.t ⟨by show tA ≤ _; omega, by show tB ≤ _; omega⟩ (by have := @prO_len D E fs (x1, x2) o j hj; omega) T3.ge.2.2.2).mono ?_
      rintro e w5 ⟨rfl, ⟨n5, ov5, ht5, ho5⟩, hn5⟩
      refine hK _ _ ⟨fun h => absurd (by decide) h, ?_⟩
      clear hK K
      have T5 := T3.met ht5 ho5 hn5
      have hown5 : w5.ownsRow w.heap.size 3 1 u5 j (natCells (prN D E fs (x1, x2) o j)) := own_sameP hown3 fun g hg => hn5.block g (own_lt hown3 hg) (fun hm => by
        rcases hm with h1 | h1 | h1
        · have := (hown3.lt g hg).1
          omega
        · have := (hown3.lt g hg).1
          omega
        · exact own_ne hown3 T3.t.ord (by decide) g hg h1)
      have hone := one_at (w := w5) (u := .int .i64 (idxP (addR eqP (prO D E fs (x1, x2) o j) (tA, tB)) (tA, tB) : Int)) (t := 3)
      refine stepS (i := 26) rfl (by kernel_rfl) ?_
      intro K hK
      go_simp
      refine hK _ _ ⟨fun h => absurd (by decide) h, ?_⟩
      clear hK K
      have hz5 := hn5.size
      have hz3 := bb.size
      have hown6 : (w5.alloc (.cells #[.int .i64 (idxP (addR eqP (prO D E fs (x1, x2) o j) (tA, tB)) (tA, tB) : Int)] 3)).ownsRow w.heap.size 3 1 u5 j (natCells (prN D E fs (x1, x2) o j)) := hown5.alloc _
      obtain ⟨i0, hi0, hz00, hz01, hz02⟩ := info_parts infoInt
      refine stepS (i := 27) rfl (by kernel_rfl) ?_
      intro K hK
      refine step_append_lies _ rfl (.tmp 37) (.tmp 63) 23 rfl w.heap.size 3 i0 (.int .i64 0) 1 8 Tryz.underlying23 hi0 hz00 hz01 hz02 rfl (by decide) _ _ _ (by simp [Act.eval, Act.put]) hown6 ⟨w5.heap.size, 0, none⟩ 1 1 [.int .i64 (idxP (addR eqP (prO D E fs (x1, x2) o j) (tA, tB)) (tA, tB) : Int)] (by simp [Act.eval, Act.put]) rfl hone (fun u hu => by simp at hu; subst hu; rfl) (by decide) (by unfold maxLen; omega) (by omega) (by simp; omega) _ rfl ?_
      intro g14 cap14 w14 hown14 hgrow14 hat14 hlt14
      refine hK _ _ ⟨fun h => absurd (by decide) h, ?_⟩
      clear hK K
      go_simp
      refine stepS (i := 28) rfl (by kernel_rfl) ?_
      intro K hK
      go_simp
      refine hK _ _ ⟨fun h => absurd (by decide) h, ?_⟩
      clear hK K
      refine stepT_end (by kernel_rfl) ?_
      have hst : stpP D E (x1, x2) (fs.getD j 0) = (tA, tB) := by rw [HB.out.1]; exact HX.out
      have hal5 := (Below.refl w5.heap.size w5).alloc (Nat.le_refl _) (.cells #[.int .i64 (idxP (addR eqP (prO D E fs (x1, x2) o j) (tA, tB)) (tA, tB) : Int)] 3)
      have T6 := T5.under hal5
      have hT7 := T6.grown hgrow14 (fun g hg => by
        have h1 := (hown5.lt g hg).1
        have h2 := HS.out.1.bel.size
        refine ⟨Nat.le_trans hw0 h1, fun hm => ?_, fun e => own_ne T5.fst hown5 (by decide) g e hg⟩
        rcases hm with h2 | h2 | h2
        · omega
        · omega
        · exact own_ne hown5 T5.t.ord (by decide) g hg h2)
      have hN7 : Near (mS p m ov) w w14 := by
        have h1 : Near (mS p m ov) w W3 := HS.out.2.2.trans (.of_below bb (Nat.le_refl _))
        have hz := h1.size
        refine ⟨hgrow14.os.trans (hn5.os.trans h1.os), hgrow14.tape.trans (hn5.tape.trans h1.tape), hgrow14.output.trans (hn5.output.trans h1.output), by have := hgrow14.size; simp at this; omega, fun k hk hS => ?_⟩
        refine (hgrow14.block k (by simp; omega) (fun e => by have := (hown5.lt k e.symm).1; omega)).trans ((hal5.block k (by omega)).trans ((hn5.block k (by omega) (fun hm => ?_)).trans (h1.block k hk hS)))
        rcases hm with h2 | h2 | h2
        · exact hS (.inl h2)
        · exact hS (.inr (.inl h2))
        · rcases HS.out.2.1 k h2 with h3 | h3
          · exact hS (.inr (.inr h3))
          · omega
      have hg14 := hgrow14.size
      have hnats : natCells (prN D E fs (x1, x2) o (j + 1)) = natCells (prN D E fs (x1, x2) o j) ++ [.int .i64 (idxP (addR eqP (prO D E fs (x1, x2) o j) (tA, tB)) (tA, tB) : Int)] := by
        rw [prN_next hlt, hst]
        simp [natCells]
      have hO : prO D E fs (x1, x2) o (j + 1) = addR eqP (prO D E fs (x1, x2) o j) (tA, tB) := by rw [prO_next hlt, hst]
      rw [← hO] at hT7
      rw [← hnats] at hown14
      have HF := Lib.hid (And.intro hT7 (And.intro (show ∀ g, ov5.ownBlock = some g → ov.ownBlock = some g ∨ w.heap.size ≤ g from fun g hg => by
        rcases ho5 g hg with h3 | h3
        · exact HS.out.2.1 g h3
        · exact .inr (by omega)) hN7))
      have hlt14 : w.heap.size < w14.heap.size := by simp at hg14; omega
      clear hT7 hN7 hnats hO hone hown6 hown5 hown3 T3 T5 T6 ht5 ho5 hn5 hal5 hgrow14 hat14 q0 q1 q2 q3 q4 q5 bb
      go_wp2_with fail
      go_roundw
      case rel => exact ⟨j + 1, n5, ov5, by omega, by go_num, hown14, HF, hlt14⟩
      case measure => simp [intOf]; omega
    · obtain rfl : j = fs.length := by omega
      go_wp2_with fail
      go_ret
      exact ⟨_, rfl, hown, ⟨nn, ov1, HS.out.1, HS.out.2.1⟩, HS.out.2.2⟩
end Go.Proofs.YtmmlakheimfijaaGreatDoor
