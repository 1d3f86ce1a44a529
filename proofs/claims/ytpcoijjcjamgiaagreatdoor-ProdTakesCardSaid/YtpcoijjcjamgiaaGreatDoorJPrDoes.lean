/-
  The walks of the law's `does` and of the reference's Takes. Conditions: the automata lie in memory; the table of powers lies as laid.
-/
import Derived.Test.YtpcoijjcjamgiaaGreatDoorJBoth
namespace Go.Proofs.YtpcoijjcjamgiaaGreatDoor
set_option linter.unusedVariables false
set_option linter.unusedSimpArgs false
open Go.RowKit Go.Maps Go.Sort Go.ChangeShapes Go.WideShapes Go.Joins

def opB : Nat → Bool → Bool → Bool
  | 0 => andB
  | 1 => orB
  | 2 => lessB
  | _ => unlikeB
set_option maxHeartbeats 8000000 in
set_option maxRecDepth 1000000 in
theorem does_0 (va vb : Value) (D E : DfaI) (w : World) (ha : DfaAt w va D) (hb : DfaAt w vb E) (hD : D.In) (hE : E.In) (hT : Pow10 w) :
    Calls Tryz.prog 11 #[.int .i64 0, va, vb] w fun e w' => ∃ rv, e = .returned (.tuple #[rv, .int .i64 (bothE D E)]) ∧ DfaAt w' rv (bothD andB D E) ∧ Below w.heap.size w w' := by
  obtain ⟨S, af, ab, an, F, K1, M, cf, cb, cn, hS, hF, hK1, hM, rfl⟩ := ha.form
  obtain ⟨S', ef, eb, en, F', K2, M', ce, ce', ce'', hS', hF', hK2, hM', rfl⟩ := hb.form
  have hz0 : ∀ o, (w.alloc o).heap.size = w.heap.size + 1 := fun o => by simp
  have b0 := (Below.refl w.heap.size w).alloc (Nat.le_refl _) (.cells #[.int .i64 S, .slice af F cf, .slice ab K1 cb, .slice an M cn] 26)
  have b1 := b0.alloc (by rw [hz0]; omega) (.cells #[.int .i64 S', .slice ef F' ce, .slice eb K2 ce', .slice en M' ce''] 26)
  have hz1 : ((w.alloc (.cells #[.int .i64 S, .slice af F cf, .slice ab K1 cb, .slice an M cn] 26)).alloc (.cells #[.int .i64 S', .slice ef F' ce, .slice eb K2 ce', .slice en M' ce''] 26)).heap.size = w.heap.size + 2 := by simp
  have b2 := b1.alloc (by rw [hz1]; omega) (.cells #[.int .i64 0, .slice none 0 0, .slice none 0 0, .slice none 0 0] 26)
  have qa := ((Blk.new w 26 #[.int .i64 S, .slice af F cf, .slice ab K1 cb, .slice an M cn]).alloc (.cells #[.int .i64 S', .slice ef F' ce, .slice eb K2 ce', .slice en M' ce''] 26)).alloc (.cells #[.int .i64 0, .slice none 0 0, .slice none 0 0, .slice none 0 0] 26)
  have qb := (Blk.new (w.alloc (.cells #[.int .i64 S, .slice af F cf, .slice ab K1 cb, .slice an M cn] 26)) 26 #[.int .i64 S', .slice ef F' ce, .slice eb K2 ce', .slice en M' ce'']).alloc (.cells #[.int .i64 0, .slice none 0 0, .slice none 0 0, .slice none 0 0] 26)
  rw [hz0] at qb
  have qr := Blk.new ((w.alloc (.cells #[.int .i64 S, .slice af F cf, .slice ab K1 cb, .slice an M cn] 26)).alloc (.cells #[.int .i64 S', .slice ef F' ce, .slice eb K2 ce', .slice en M' ce''] 26)) 26 #[.int .i64 0, .slice none 0 0, .slice none 0 0, .slice none 0 0]
  rw [hz1] at qr
  obtain ⟨⟨y0, y1, y2, y3⟩, -⟩ := qa.c4
  obtain ⟨⟨x0, x1, x2, x3⟩, -⟩ := qb.c4
  have H := Lib.hid (And.intro (ha.below b2) (And.intro (hb.below b2) (And.intro qr (And.intro b2 (hT.below b2 (Nat.le_refl _))))))
  clear ha hb hT qr b0 b1 b2 hF hF' hS hS' hK1 hK2 hM hM' qa qb
  go_enter Tryz.func11, Tryz.ntmps11
  go_wp2_with fail
  clear hz0 hz1
  generalize ((w.alloc (.cells #[.int .i64 S, .slice af F cf, .slice ab K1 cb, .slice an M cn] 26)).alloc (.cells #[.int .i64 S', .slice ef F' ce, .slice eb K2 ce', .slice en M' ce''] 26)).alloc (.cells #[.int .i64 0, .slice none 0 0, .slice none 0 0, .slice none 0 0] 26) = W at *
  refine (and_any _ _ D E W H.out.1 H.out.2.1 hD hE H.out.2.2.2.2).mono ?_
  rintro e w5 ⟨rz, rfl, h5, b5⟩
  obtain ⟨S5, z1, z2, z3, F5, B5, M5, c1, c2, c3, -, -, -, -, rfl⟩ := h5.at_.form
  have hrb := H.out.2.2.1.below b5 H.out.2.2.1.lt
  have hlt2 : w.heap.size + 2 < W.heap.size := H.out.2.2.1.lt
  obtain ⟨⟨r0, r1, r2, r3⟩, f0, f1, f2, f3⟩ := hrb.c4
  have hb4 := blk_set4 hrb (.int .i64 S5) (.slice z1 F5 c1) (.slice z2 B5 c2) (.slice z3 M5 c3)
  obtain ⟨⟨r0', r1', r2', r3'⟩, -⟩ := hb4.c4
  have ho4 := only_set4 w5 (w.heap.size + 2) (.int .i64 S5) (.slice z1 F5 c1) (.slice z2 B5 c2) (.slice z3 M5 c3)
  have hbel := H.out.2.2.2.1.trans (b5.mono H.out.2.2.2.1.size)
  have hout := h5 _ fun k hk => set4_block w5 (w.heap.size + 2) (.int .i64 S5) (.slice z1 F5 c1) (.slice z2 B5 c2) (.slice z3 M5 c3) k (by omega)
  have HF := Lib.hid (And.intro hout (hbel.trans (ho4.below hbel.size (by simp))))
  obtain ⟨be, hbe⟩ : ∃ b, bothE D E = b := ⟨_, rfl⟩
  have HE := Lib.hid hbe
  rw [hbe]
  clear hout hbel ho4 hb4 hrb h5 hbe y0 y1 y2 y3 x0 x1 x2 x3
  go_wp2_with fail
  exact bodyPost_ret (v := .tuple #[.agg #[.int .i64 S5, .slice z1 F5 c1, .slice z2 B5 c2, .slice z3 M5 c3], .int .i64 be]) (by simp [results, Tryz.results11, go_sem, r0', r1', r2', r3']) rfl ⟨_, by rw [HE.out], HF.out.1, HF.out.2⟩
set_option maxHeartbeats 8000000 in
set_option maxRecDepth 1000000 in
theorem does_1 (va vb : Value) (D E : DfaI) (w : World) (ha : DfaAt w va D) (hb : DfaAt w vb E) (hD : D.In) (hE : E.In) (hT : Pow10 w) :
    Calls Tryz.prog 11 #[.int .i64 1, va, vb] w fun e w' => ∃ rv, e = .returned (.tuple #[rv, .int .i64 (bothE D E)]) ∧ DfaAt w' rv (bothD orB D E) ∧ Below w.heap.size w w' := by
  obtain ⟨S, af, ab, an, F, K1, M, cf, cb, cn, hS, hF, hK1, hM, rfl⟩ := ha.form
  obtain ⟨S', ef, eb, en, F', K2, M', ce, ce', ce'', hS', hF', hK2, hM', rfl⟩ := hb.form
  have hz0 : ∀ o, (w.alloc o).heap.size = w.heap.size + 1 := fun o => by simp
  have b0 := (Below.refl w.heap.size w).alloc (Nat.le_refl _) (.cells #[.int .i64 S, .slice af F cf, .slice ab K1 cb, .slice an M cn] 26)
  have b1 := b0.alloc (by rw [hz0]; omega) (.cells #[.int .i64 S', .slice ef F' ce, .slice eb K2 ce', .slice en M' ce''] 26)
  have hz1 : ((w.alloc (.cells #[.int .i64 S, .slice af F cf, .slice ab K1 cb, .slice an M cn] 26)).alloc (.cells #[.int .i64 S', .slice ef F' ce, .slice eb K2 ce', .slice en M' ce''] 26)).heap.size = w.heap.size + 2 := by simp
  have b2 := b1.alloc (by rw [hz1]; omega) (.cells #[.int .i64 0, .slice none 0 0, .slice none 0 0, .slice none 0 0] 26)
  have qa := ((Blk.new w 26 #[.int .i64 S, .slice af F cf, .slice ab K1 cb, .slice an M cn]).alloc (.cells #[.int .i64 S', .slice ef F' ce, .slice eb K2 ce', .slice en M' ce''] 26)).alloc (.cells #[.int .i64 0, .slice none 0 0, .slice none 0 0, .slice none 0 0] 26)
  have qb := (Blk.new (w.alloc (.cells #[.int .i64 S, .slice af F cf, .slice ab K1 cb, .slice an M cn] 26)) 26 #[.int .i64 S', .slice ef F' ce, .slice eb K2 ce', .slice en M' ce'']).alloc (.cells #[.int .i64 0, .slice none 0 0, .slice none 0 0, .slice none 0 0] 26)
  rw [hz0] at qb
  have qr := Blk.new ((w.alloc (.cells #[.int .i64 S, .slice af F cf, .slice ab K1 cb, .slice an M cn] 26)).alloc (.cells #[.int .i64 S', .slice ef F' ce, .slice eb K2 ce', .slice en M' ce''] 26)) 26 #[.int .i64 0, .slice none 0 0, .slice none 0 0, .slice none 0 0]
  rw [hz1] at qr
  obtain ⟨⟨y0, y1, y2, y3⟩, -⟩ := qa.c4
  obtain ⟨⟨x0, x1, x2, x3⟩, -⟩ := qb.c4
  have H := Lib.hid (And.intro (ha.below b2) (And.intro (hb.below b2) (And.intro qr (And.intro b2 (hT.below b2 (Nat.le_refl _))))))
  clear ha hb hT qr b0 b1 b2 hF hF' hS hS' hK1 hK2 hM hM' qa qb
  go_enter Tryz.func11, Tryz.ntmps11
  go_wp2_with fail
  clear hz0 hz1
  generalize ((w.alloc (.cells #[.int .i64 S, .slice af F cf, .slice ab K1 cb, .slice an M cn] 26)).alloc (.cells #[.int .i64 S', .slice ef F' ce, .slice eb K2 ce', .slice en M' ce''] 26)).alloc (.cells #[.int .i64 0, .slice none 0 0, .slice none 0 0, .slice none 0 0] 26) = W at *
  refine (or_any _ _ D E W H.out.1 H.out.2.1 hD hE H.out.2.2.2.2).mono ?_
  rintro e w5 ⟨rz, rfl, h5, b5⟩
  obtain ⟨S5, z1, z2, z3, F5, B5, M5, c1, c2, c3, -, -, -, -, rfl⟩ := h5.at_.form
  have hrb := H.out.2.2.1.below b5 H.out.2.2.1.lt
  have hlt2 : w.heap.size + 2 < W.heap.size := H.out.2.2.1.lt
  obtain ⟨⟨r0, r1, r2, r3⟩, f0, f1, f2, f3⟩ := hrb.c4
  have hb4 := blk_set4 hrb (.int .i64 S5) (.slice z1 F5 c1) (.slice z2 B5 c2) (.slice z3 M5 c3)
  obtain ⟨⟨r0', r1', r2', r3'⟩, -⟩ := hb4.c4
  have ho4 := only_set4 w5 (w.heap.size + 2) (.int .i64 S5) (.slice z1 F5 c1) (.slice z2 B5 c2) (.slice z3 M5 c3)
  have hbel := H.out.2.2.2.1.trans (b5.mono H.out.2.2.2.1.size)
  have hout := h5 _ fun k hk => set4_block w5 (w.heap.size + 2) (.int .i64 S5) (.slice z1 F5 c1) (.slice z2 B5 c2) (.slice z3 M5 c3) k (by omega)
  have HF := Lib.hid (And.intro hout (hbel.trans (ho4.below hbel.size (by simp))))
  obtain ⟨be, hbe⟩ : ∃ b, bothE D E = b := ⟨_, rfl⟩
  have HE := Lib.hid hbe
  rw [hbe]
  clear hout hbel ho4 hb4 hrb h5 hbe y0 y1 y2 y3 x0 x1 x2 x3
  go_wp2_with fail
  exact bodyPost_ret (v := .tuple #[.agg #[.int .i64 S5, .slice z1 F5 c1, .slice z2 B5 c2, .slice z3 M5 c3], .int .i64 be]) (by simp [results, Tryz.results11, go_sem, r0', r1', r2', r3']) rfl ⟨_, by rw [HE.out], HF.out.1, HF.out.2⟩
set_option maxHeartbeats 8000000 in
set_option maxRecDepth 1000000 in
theorem does_2 (va vb : Value) (D E : DfaI) (w : World) (ha : DfaAt w va D) (hb : DfaAt w vb E) (hD : D.In) (hE : E.In) (hT : Pow10 w) :
    Calls Tryz.prog 11 #[.int .i64 2, va, vb] w fun e w' => ∃ rv, e = .returned (.tuple #[rv, .int .i64 (bothE D E)]) ∧ DfaAt w' rv (bothD lessB D E) ∧ Below w.heap.size w w' := by
  obtain ⟨S, af, ab, an, F, K1, M, cf, cb, cn, hS, hF, hK1, hM, rfl⟩ := ha.form
  obtain ⟨S', ef, eb, en, F', K2, M', ce, ce', ce'', hS', hF', hK2, hM', rfl⟩ := hb.form
  have hz0 : ∀ o, (w.alloc o).heap.size = w.heap.size + 1 := fun o => by simp
  have b0 := (Below.refl w.heap.size w).alloc (Nat.le_refl _) (.cells #[.int .i64 S, .slice af F cf, .slice ab K1 cb, .slice an M cn] 26)
  have b1 := b0.alloc (by rw [hz0]; omega) (.cells #[.int .i64 S', .slice ef F' ce, .slice eb K2 ce', .slice en M' ce''] 26)
  have hz1 : ((w.alloc (.cells #[.int .i64 S, .slice af F cf, .slice ab K1 cb, .slice an M cn] 26)).alloc (.cells #[.int .i64 S', .slice ef F' ce, .slice eb K2 ce', .slice en M' ce''] 26)).heap.size = w.heap.size + 2 := by simp
  have b2 := b1.alloc (by rw [hz1]; omega) (.cells #[.int .i64 0, .slice none 0 0, .slice none 0 0, .slice none 0 0] 26)
  have qa := ((Blk.new w 26 #[.int .i64 S, .slice af F cf, .slice ab K1 cb, .slice an M cn]).alloc (.cells #[.int .i64 S', .slice ef F' ce, .slice eb K2 ce', .slice en M' ce''] 26)).alloc (.cells #[.int .i64 0, .slice none 0 0, .slice none 0 0, .slice none 0 0] 26)
  have qb := (Blk.new (w.alloc (.cells #[.int .i64 S, .slice af F cf, .slice ab K1 cb, .slice an M cn] 26)) 26 #[.int .i64 S', .slice ef F' ce, .slice eb K2 ce', .slice en M' ce'']).alloc (.cells #[.int .i64 0, .slice none 0 0, .slice none 0 0, .slice none 0 0] 26)
  rw [hz0] at qb
  have qr := Blk.new ((w.alloc (.cells #[.int .i64 S, .slice af F cf, .slice ab K1 cb, .slice an M cn] 26)).alloc (.cells #[.int .i64 S', .slice ef F' ce, .slice eb K2 ce', .slice en M' ce''] 26)) 26 #[.int .i64 0, .slice none 0 0, .slice none 0 0, .slice none 0 0]
  rw [hz1] at qr
  obtain ⟨⟨y0, y1, y2, y3⟩, -⟩ := qa.c4
  obtain ⟨⟨x0, x1, x2, x3⟩, -⟩ := qb.c4
  have H := Lib.hid (And.intro (ha.below b2) (And.intro (hb.below b2) (And.intro qr (And.intro b2 (hT.below b2 (Nat.le_refl _))))))
  clear ha hb hT qr b0 b1 b2 hF hF' hS hS' hK1 hK2 hM hM' qa qb
  go_enter Tryz.func11, Tryz.ntmps11
  go_wp2_with fail
  clear hz0 hz1
  generalize ((w.alloc (.cells #[.int .i64 S, .slice af F cf, .slice ab K1 cb, .slice an M cn] 26)).alloc (.cells #[.int .i64 S', .slice ef F' ce, .slice eb K2 ce', .slice en M' ce''] 26)).alloc (.cells #[.int .i64 0, .slice none 0 0, .slice none 0 0, .slice none 0 0] 26) = W at *
  refine (less_any _ _ D E W H.out.1 H.out.2.1 hD hE H.out.2.2.2.2).mono ?_
  rintro e w5 ⟨rz, rfl, h5, b5⟩
  obtain ⟨S5, z1, z2, z3, F5, B5, M5, c1, c2, c3, -, -, -, -, rfl⟩ := h5.at_.form
  have hrb := H.out.2.2.1.below b5 H.out.2.2.1.lt
  have hlt2 : w.heap.size + 2 < W.heap.size := H.out.2.2.1.lt
  obtain ⟨⟨r0, r1, r2, r3⟩, f0, f1, f2, f3⟩ := hrb.c4
  have hb4 := blk_set4 hrb (.int .i64 S5) (.slice z1 F5 c1) (.slice z2 B5 c2) (.slice z3 M5 c3)
  obtain ⟨⟨r0', r1', r2', r3'⟩, -⟩ := hb4.c4
  have ho4 := only_set4 w5 (w.heap.size + 2) (.int .i64 S5) (.slice z1 F5 c1) (.slice z2 B5 c2) (.slice z3 M5 c3)
  have hbel := H.out.2.2.2.1.trans (b5.mono H.out.2.2.2.1.size)
  have hout := h5 _ fun k hk => set4_block w5 (w.heap.size + 2) (.int .i64 S5) (.slice z1 F5 c1) (.slice z2 B5 c2) (.slice z3 M5 c3) k (by omega)
  have HF := Lib.hid (And.intro hout (hbel.trans (ho4.below hbel.size (by simp))))
  obtain ⟨be, hbe⟩ : ∃ b, bothE D E = b := ⟨_, rfl⟩
  have HE := Lib.hid hbe
  rw [hbe]
  clear hout hbel ho4 hb4 hrb h5 hbe y0 y1 y2 y3 x0 x1 x2 x3
  go_wp2_with fail
  exact bodyPost_ret (v := .tuple #[.agg #[.int .i64 S5, .slice z1 F5 c1, .slice z2 B5 c2, .slice z3 M5 c3], .int .i64 be]) (by simp [results, Tryz.results11, go_sem, r0', r1', r2', r3']) rfl ⟨_, by rw [HE.out], HF.out.1, HF.out.2⟩
set_option maxHeartbeats 8000000 in
set_option maxRecDepth 1000000 in
theorem does_3 (va vb : Value) (D E : DfaI) (w : World) (ha : DfaAt w va D) (hb : DfaAt w vb E) (hD : D.In) (hE : E.In) (hT : Pow10 w) :
    Calls Tryz.prog 11 #[.int .i64 3, va, vb] w fun e w' => ∃ rv, e = .returned (.tuple #[rv, .int .i64 (bothE D E)]) ∧ DfaAt w' rv (bothD unlikeB D E) ∧ Below w.heap.size w w' := by
  obtain ⟨S, af, ab, an, F, K1, M, cf, cb, cn, hS, hF, hK1, hM, rfl⟩ := ha.form
  obtain ⟨S', ef, eb, en, F', K2, M', ce, ce', ce'', hS', hF', hK2, hM', rfl⟩ := hb.form
  have hz0 : ∀ o, (w.alloc o).heap.size = w.heap.size + 1 := fun o => by simp
  have b0 := (Below.refl w.heap.size w).alloc (Nat.le_refl _) (.cells #[.int .i64 S, .slice af F cf, .slice ab K1 cb, .slice an M cn] 26)
  have b1 := b0.alloc (by rw [hz0]; omega) (.cells #[.int .i64 S', .slice ef F' ce, .slice eb K2 ce', .slice en M' ce''] 26)
  have hz1 : ((w.alloc (.cells #[.int .i64 S, .slice af F cf, .slice ab K1 cb, .slice an M cn] 26)).alloc (.cells #[.int .i64 S', .slice ef F' ce, .slice eb K2 ce', .slice en M' ce''] 26)).heap.size = w.heap.size + 2 := by simp
  have b2 := b1.alloc (by rw [hz1]; omega) (.cells #[.int .i64 0, .slice none 0 0, .slice none 0 0, .slice none 0 0] 26)
  have qa := ((Blk.new w 26 #[.int .i64 S, .slice af F cf, .slice ab K1 cb, .slice an M cn]).alloc (.cells #[.int .i64 S', .slice ef F' ce, .slice eb K2 ce', .slice en M' ce''] 26)).alloc (.cells #[.int .i64 0, .slice none 0 0, .slice none 0 0, .slice none 0 0] 26)
  have qb := (Blk.new (w.alloc (.cells #[.int .i64 S, .slice af F cf, .slice ab K1 cb, .slice an M cn] 26)) 26 #[.int .i64 S', .slice ef F' ce, .slice eb K2 ce', .slice en M' ce'']).alloc (.cells #[.int .i64 0, .slice none 0 0, .slice none 0 0, .slice none 0 0] 26)
  rw [hz0] at qb
  have qr := Blk.new ((w.alloc (.cells #[.int .i64 S, .slice af F cf, .slice ab K1 cb, .slice an M cn] 26)).alloc (.cells #[.int .i64 S', .slice ef F' ce, .slice eb K2 ce', .slice en M' ce''] 26)) 26 #[.int .i64 0, .slice none 0 0, .slice none 0 0, .slice none 0 0]
  rw [hz1] at qr
  obtain ⟨⟨y0, y1, y2, y3⟩, -⟩ := qa.c4
  obtain ⟨⟨x0, x1, x2, x3⟩, -⟩ := qb.c4
  have H := Lib.hid (And.intro (ha.below b2) (And.intro (hb.below b2) (And.intro qr (And.intro b2 (hT.below b2 (Nat.le_refl _))))))
  clear ha hb hT qr b0 b1 b2 hF hF' hS hS' hK1 hK2 hM hM' qa qb
  go_enter Tryz.func11, Tryz.ntmps11
  go_wp2_with fail
  clear hz0 hz1
  generalize ((w.alloc (.cells #[.int .i64 S, .slice af F cf, .slice ab K1 cb, .slice an M cn] 26)).alloc (.cells #[.int .i64 S', .slice ef F' ce, .slice eb K2 ce', .slice en M' ce''] 26)).alloc (.cells #[.int .i64 0, .slice none 0 0, .slice none 0 0, .slice none 0 0] 26) = W at *
  refine (unlike_any _ _ D E W H.out.1 H.out.2.1 hD hE H.out.2.2.2.2).mono ?_
  rintro e w5 ⟨rz, rfl, h5, b5⟩
  obtain ⟨S5, z1, z2, z3, F5, B5, M5, c1, c2, c3, -, -, -, -, rfl⟩ := h5.at_.form
  have hrb := H.out.2.2.1.below b5 H.out.2.2.1.lt
  have hlt2 : w.heap.size + 2 < W.heap.size := H.out.2.2.1.lt
  obtain ⟨⟨r0, r1, r2, r3⟩, f0, f1, f2, f3⟩ := hrb.c4
  have hb4 := blk_set4 hrb (.int .i64 S5) (.slice z1 F5 c1) (.slice z2 B5 c2) (.slice z3 M5 c3)
  obtain ⟨⟨r0', r1', r2', r3'⟩, -⟩ := hb4.c4
  have ho4 := only_set4 w5 (w.heap.size + 2) (.int .i64 S5) (.slice z1 F5 c1) (.slice z2 B5 c2) (.slice z3 M5 c3)
  have hbel := H.out.2.2.2.1.trans (b5.mono H.out.2.2.2.1.size)
  have hout := h5 _ fun k hk => set4_block w5 (w.heap.size + 2) (.int .i64 S5) (.slice z1 F5 c1) (.slice z2 B5 c2) (.slice z3 M5 c3) k (by omega)
  have HF := Lib.hid (And.intro hout (hbel.trans (ho4.below hbel.size (by simp))))
  obtain ⟨be, hbe⟩ : ∃ b, bothE D E = b := ⟨_, rfl⟩
  have HE := Lib.hid hbe
  rw [hbe]
  clear hout hbel ho4 hb4 hrb h5 hbe y0 y1 y2 y3 x0 x1 x2 x3
  go_wp2_with fail
  exact bodyPost_ret (v := .tuple #[.agg #[.int .i64 S5, .slice z1 F5 c1, .slice z2 B5 c2, .slice z3 M5 c3], .int .i64 be]) (by simp [results, Tryz.results11, go_sem, r0', r1', r2', r3']) rfl ⟨_, by rw [HE.out], HF.out.1, HF.out.2⟩
theorem does_any (n : Nat) (hn : n < 4) (va vb : Value) (D E : DfaI) (w : World) (ha : DfaAt w va D) (hb : DfaAt w vb E) (hD : D.In) (hE : E.In) (hT : Pow10 w) :
    Calls Tryz.prog 11 #[.int .i64 n, va, vb] w fun e w' => ∃ rv, e = .returned (.tuple #[rv, .int .i64 (bothE D E)]) ∧ DfaAt w' rv (bothD (opB n) D E) ∧ Below w.heap.size w w' := by
  obtain rfl | rfl | rfl | rfl : n = 0 ∨ n = 1 ∨ n = 2 ∨ n = 3 := by omega
  · exact does_0 va vb D E w ha hb hD hE hT
  · exact does_1 va vb D E w ha hb hD hE hT
  · exact does_2 va vb D E w ha hb hD hE hT
  · exact does_3 va vb D E w ha hb hD hE hT
set_option maxHeartbeats 8000000 in
set_option maxRecDepth 1000000 in
theorem takes_any (n : Nat) (hn : n < 4) (x y : Bool) (w : World) :
    Calls Tryz.prog 13 #[.int .i64 n, .bool x, .bool y] w fun e w' => e = .returned (.bool (opB n x y)) ∧ Below w.heap.size w w' := by
  obtain rfl | rfl | rfl | rfl : n = 0 ∨ n = 1 ∨ n = 2 ∨ n = 3 := by omega
  all_goals
    cases x <;> cases y
    all_goals
      go_enter Tryz.func13, Tryz.ntmps13
      go_wp2_with fail
      go_ret
      exact ⟨rfl, Below.refl _ _⟩
end Go.Proofs.YtpcoijjcjamgiaaGreatDoor
