/-
  The walk of prod's `both`: the least automaton of pairs. Conditions: the automata lie in memory; the closure tells what is taken; the table of powers lies as laid.
  The contracts of prod.And, Or, Less, Unlike and Pairs. Conditions: the automata lie in memory; the table of powers lies as laid.
  What prod's operations tell, in plain words; the chapter's examples. Conditions: each lemma says its own.
-/
import Derived.Test.YtmmlakheimfijaaGreatDoorJRows
import Derived.Test.YtmmlakheimfijaaGreatDoorJPl
namespace Go.Proofs.YtmmlakheimfijaaGreatDoor
set_option linter.unusedVariables false
set_option linter.unusedSimpArgs false
open Go.RowKit Go.Maps Go.Sort Go.ChangeShapes Go.WideShapes Go.Joins

theorem in64_nat {n : Nat} (h : n ≤ 1000000) : In64 (n : Int) := by unfold In64; omega
theorem intsIn_nats {l : List Nat} (hl : l.length ≤ 1000000) (h : ∀ x ∈ l, x ≤ 1000000) : IntsIn (intsOf l) := by
  refine ⟨by simp [intsOf]; omega, fun x hx => ?_⟩
  unfold intsOf at hx
  obtain ⟨n, hn, rfl⟩ := List.mem_map.1 hx
  exact in64_nat (h n hn)
theorem prodD_in {A B : DfaI} (op : Bool → Bool → Bool) {o : List Pr} (hl : o.length ≤ 4096) : (prodD A B op (mbP A B) (fsP A B) o).In where
  start := by show In64 0; unfold In64; omega
  fin := by simp [prodD]; omega
  block := intsIn_nats (by simp [mbP]) fun x hx => by
    unfold mbP at hx
    obtain ⟨b, hb, rfl⟩ := List.mem_map.1 hx
    have := Bl.num_lt_256 (keyP A B) b (by simpa using hb)
    omega
  many := by simp [prodD]; omega
  rows := fun r hr => by
    unfold prodD at hr
    obtain ⟨p, hp, rfl⟩ := List.mem_map.1 hr
    have := fsP_le A B
    refine intsIn_nats (by simp [nextP]; omega) fun x hx => ?_
    obtain ⟨q, hq, rfl⟩ := List.mem_map.1 hx
    have : o.findIdx (eqP q) ≤ o.length := List.findIdx_le_length
    show o.findIdx (eqP q) ≤ _
    omega
/-- what `both` tells -/
noncomputable def bothD (op : Bool → Bool → Bool) (D E : DfaI) : DfaI := if (rightD D && rightD E) = true then (if (pairsL D E).length ≤ 4096 then canonI (opL op D E) else noD) else noD
def bothE (D E : DfaI) : Int := if (rightD D && rightD E) = true then (if (pairsL D E).length ≤ 4096 then 0 else 16) else 7
/-- an automaton that came out: it lies there as long as nothing new is turned -/
def DfaOut (w w' : World) (rv : Value) (D : DfaI) : Prop := ∀ w2 : World, (∀ k, w.heap.size ≤ k → w2.heap[k]? = w'.heap[k]?) → DfaAt w2 rv D
theorem DfaOut.at_ {w w' : World} {rv : Value} {D : DfaI} (h : DfaOut w w' rv D) : DfaAt w' rv D := h w' fun _ _ => rfl
theorem noD_out (w w' : World) : DfaOut w w' (.agg #[.int .i64 0, .slice none 0 0, .slice none 0 0, .slice none 0 0]) noD := fun _ _ =>
  ⟨_, _, _, rfl, ⟨none, 0, rfl, .inl rfl⟩, ⟨none, 0, rfl, .inl rfl⟩, ⟨none, 0, rfl, .inl rfl⟩⟩
/-- the marks of pairs -/
def marksP (op : Bool → Bool → Bool) (D E : DfaI) (o : List Pr) : List Bool := o.map fun p => op (D.aut.fin p.1) (E.aut.fin p.2)
/-- a closure that tells what is taken -/
def TellsOp (g : FuncId) (op : Bool → Bool → Bool) : Prop := ∀ (x y : Bool) (W : World), Calls Tryz.prog g #[.bool x, .bool y] W fun e W' => e = .returned (.bool (op x y)) ∧ Below W.heap.size W W'
def IsOp (g : FuncId) : Prop := g = 41 ∨ g = 66
theorem step_tells {g : FuncId} (hg : IsOp g) {op : Bool → Bool → Bool} (hop : TellsOp g op) {ops : Array Oper} {o : Oper} {a : Act} {w : World} {K : Act → World → Prop} {Q : Exit → Act → World → Prop} {E : Prop} (hgd : o.guard = none) {s x y : Operand} {ats : Array TypeId}
    (ho : o.op = .call { callee := .value s, args := #[x, y], argTypes := ats }) {vA vB : Bool} (hs : a.eval s = .func (.func g) #[] #[]) (hx : a.eval x = .bool vA) (hy : a.eval y = .bool vB)
    (h : ∀ w8, Below w.heap.size w w8 → K (a.put o.dst (.bool (op vA vB))) w8) : if Region.wanted o (yielded ops a.tmps) = true then Oper.wp Tryz.prog o a w K Q else E := by
  have hw : Region.wanted o (yielded ops a.tmps) = true := by simp [Region.wanted, hgd]
  rw [if_pos hw]
  have hc := hop vA vB w
  unfold Oper.wp execOp
  generalize a.eval = ρ at hs hx hy ⊢
  rcases hg with rfl | rfl
  all_goals
    simp only [ho]
    go_simp
    refine hc.mono ?_
    rintro e w8 ⟨rfl, b8⟩
    exact h w8 b8
set_option maxHeartbeats 8000000 in
set_option maxRecDepth 1000000 in
theorem both_any (g : FuncId) (hg : IsOp g) (op : Bool → Bool → Bool) (hop : TellsOp g op) (va vb : Value) (D E : DfaI) (w : World) (ha : DfaAt w va D) (hb : DfaAt w vb E) (hD : D.In) (hE : E.In) (hT : Pow10 w) :
    Calls Tryz.prog 40 #[va, vb, .func (.func g) #[] #[]] w fun e w' => ∃ rv, e = .returned (.tuple #[rv, .int .i64 (bothE D E)]) ∧ DfaOut w w' rv (bothD op D E) ∧ Below w.heap.size w w' := by
  obtain ⟨S, af, ab, an, F, K1, M, cf, cb, cn, hS, hF, hK1, hM, rfl⟩ := ha.form
  obtain ⟨S', ef, eb, en, F', K2, M', ce, ce', ce'', hS', hF', hK2, hM', rfl⟩ := hb.form
  have hz0 : ∀ o, (w.alloc o).heap.size = w.heap.size + 1 := fun o => by simp
  have b0 := (Below.refl w.heap.size w).alloc (Nat.le_refl _) (.cells #[.int .i64 S, .slice af F cf, .slice ab K1 cb, .slice an M cn] 26)
  have b1 := b0.alloc (by rw [hz0]; omega) (.cells #[.int .i64 S', .slice ef F' ce, .slice eb K2 ce', .slice en M' ce''] 26)
  have hz1 : ((w.alloc (.cells #[.int .i64 S, .slice af F cf, .slice ab K1 cb, .slice an M cn] 26)).alloc (.cells #[.int .i64 S', .slice ef F' ce, .slice eb K2 ce', .slice en M' ce''] 26)).heap.size = w.heap.size + 2 := by simp
  have b2 := b1.alloc (by rw [hz1]; omega) (.cells #[.int .i64 0, .slice none 0 0, .slice none 0 0, .slice none 0 0] 26)
  have qa := ((Blk.new w 26 #[.int .i64 S, .slice af F cf, .slice ab K1 cb, .slice an M cn]).alloc (.cells #[.int .i64 S', .slice ef F' ce, .slice eb K2 ce', .slice en M' ce''] 26)).alloc (.cells #[.int .i64 0, .slice none 0 0, .slice none 0 0, .slice none 0 0] 26)
  have qb := (Blk.new (w.alloc (.cells #[.int .i64 S, .slice af F cf, .slice ab K1 cb, .slice an M cn] 26)) 26 #[.int .i64 S', .slice ef F' ce, .slice eb K2 ce', .slice en M' ce'']).alloc (.cells #[.int .i64 0, .slice none 0 0, .slice none 0 0, .slice none 0 0] 26)
  have qr := Blk.new ((w.alloc (.cells #[.int .i64 S, .slice af F cf, .slice ab K1 cb, .slice an M cn] 26)).alloc (.cells #[.int .i64 S', .slice ef F' ce, .slice eb K2 ce', .slice en M' ce''] 26)) 26 #[.int .i64 0, .slice none 0 0, .slice none 0 0, .slice none 0 0]
  rw [hz0] at qb
  rw [hz1] at qr
  obtain ⟨⟨y0, y1, y2, y3⟩, -⟩ := qa.c4
  obtain ⟨⟨x0, x1, x2, x3⟩, -⟩ := qb.c4
  have H := Lib.hid (And.intro (ha.below b2) (And.intro (hb.below b2) (And.intro qa (And.intro qb (And.intro qr (And.intro b2 (hT.below b2 (Nat.le_refl _))))))))
  have HD := Lib.hid (And.intro hD (And.intro hE (And.intro hF (And.intro hF' hop))))
  clear ha hb hD hE hT qa qb qr b0 b1 b2 hF hF' hS hS' hK1 hK2 hM hM' hop
  go_enter Tryz.func40, Tryz.ntmps40
  go_wp2_with fail
  clear hz0 hz1
  generalize ((w.alloc (.cells #[.int .i64 S, .slice af F cf, .slice ab K1 cb, .slice an M cn] 26)).alloc (.cells #[.int .i64 S', .slice ef F' ce, .slice eb K2 ce', .slice en M' ce''] 26)).alloc (.cells #[.int .i64 0, .slice none 0 0, .slice none 0 0, .slice none 0 0] 26) = W at *
  refine (dright_any _ D W H.out.1 HD.out.1).mono ?_
  rintro e w1 ⟨rfl, b1⟩
  have H1 := Lib.hid (And.intro (H.out.1.below b1) (And.intro (H.out.2.1.below b1) (And.intro (H.out.2.2.1.below b1 H.out.2.2.1.lt) (And.intro (H.out.2.2.2.1.below b1 H.out.2.2.2.1.lt) (And.intro (H.out.2.2.2.2.1.below b1 H.out.2.2.2.2.1.lt) (And.intro (H.out.2.2.2.2.2.1.trans (b1.mono H.out.2.2.2.2.2.1.size)) (H.out.2.2.2.2.2.2.below b1 (Nat.le_refl _))))))))
  clear b1 H y0 y1 y2 y3 x0 x1 x2 x3
  cases hr : rightD D with
  | false =>
    have hof : bothD op D E = noD ∧ bothE D E = 7 := by unfold bothD bothE; rw [hr]; exact ⟨rfl, rfl⟩
    have HO := Lib.hid hof
    clear hr hof
    obtain ⟨⟨r0, r1, r2, r3⟩, f0, f1, f2, f3⟩ := H1.out.2.2.2.2.1.c4
    have hb4 := blk_set4 H1.out.2.2.2.2.1 (.int .i64 0) (.slice none 0 0) (.slice none 0 0) (.slice none 0 0)
    obtain ⟨⟨r0', r1', r2', r3'⟩, -⟩ := hb4.c4
    have ho4 := only_set4 w1 (w.heap.size + 2) (.int .i64 0) (.slice none 0 0) (.slice none 0 0) (.slice none 0 0)
    have hbl := ho4.below (B := w.heap.size) (by have := H1.out.2.2.2.2.2.1.size; omega) (by simp)
    have HB := Lib.hid (H1.out.2.2.2.2.2.1.trans hbl)
    clear ho4 hbl hb4
    go_wp2_with fail
    refine bodyPost_ret (v := .tuple #[.agg #[.int .i64 0, .slice none 0 0, .slice none 0 0, .slice none 0 0], .int .i64 7]) (by simp [results, Tryz.results40, go_sem, r0', r1', r2', r3']) rfl ⟨_, by rw [HO.out.2], ?_, HB.out⟩
    rw [HO.out.1]
    exact noD_out _ _
  | true =>
    have HR := Lib.hid hr
    clear hr
    obtain ⟨⟨x0, x1, x2, x3⟩, -⟩ := H1.out.2.2.2.1.c4
    go_wp2_with fail
    refine (dright_any _ E w1 H1.out.2.1 HD.out.2.1).mono ?_
    rintro e w2 ⟨rfl, b2⟩
    have H2 := Lib.hid (And.intro (H1.out.1.below b2) (And.intro (H1.out.2.1.below b2) (And.intro (H1.out.2.2.1.below b2 H1.out.2.2.1.lt) (And.intro (H1.out.2.2.2.1.below b2 H1.out.2.2.2.1.lt) (And.intro (H1.out.2.2.2.2.1.below b2 H1.out.2.2.2.2.1.lt) (And.intro (H1.out.2.2.2.2.2.1.trans (b2.mono H1.out.2.2.2.2.2.1.size)) (H1.out.2.2.2.2.2.2.below b2 (Nat.le_refl _))))))))
    clear b2 H1 x0 x1 x2 x3
    cases hr2 : rightD E with
    | false =>
      have hof : bothD op D E = noD ∧ bothE D E = 7 := by unfold bothD bothE; rw [HR.out, hr2]; exact ⟨rfl, rfl⟩
      have HO := Lib.hid hof
      clear hr2 hof
      obtain ⟨⟨r0, r1, r2, r3⟩, f0, f1, f2, f3⟩ := H2.out.2.2.2.2.1.c4
      have hb4 := blk_set4 H2.out.2.2.2.2.1 (.int .i64 0) (.slice none 0 0) (.slice none 0 0) (.slice none 0 0)
      obtain ⟨⟨r0', r1', r2', r3'⟩, -⟩ := hb4.c4
      have ho4 := only_set4 w2 (w.heap.size + 2) (.int .i64 0) (.slice none 0 0) (.slice none 0 0) (.slice none 0 0)
      have hbl := ho4.below (B := w.heap.size) (by have := (H2.out.2.2.2.2.2.1).size; omega) (by simp)
      have HB := Lib.hid ((H2.out.2.2.2.2.2.1).trans hbl)
      clear ho4 hbl hb4
      go_wp2_with fail
      refine bodyPost_ret (v := .tuple #[.agg #[.int .i64 0, .slice none 0 0, .slice none 0 0, .slice none 0 0], .int .i64 7]) (by simp [results, Tryz.results40, go_sem, r0', r1', r2', r3']) rfl ⟨_, by rw [HO.out.2], ?_, HB.out⟩
      rw [HO.out.1]
      exact noD_out _ _
    | true =>
      have HR2 := Lib.hid (And.intro (rightD_iff.1 HR.out) (rightD_iff.1 hr2))
      have hof : bothD op D E = (if (pairsL D E).length ≤ 4096 then canonI (opL op D E) else noD) ∧ bothE D E = (if (pairsL D E).length ≤ 4096 then 0 else 16) := by unfold bothD bothE; rw [HR.out, hr2]; exact ⟨rfl, rfl⟩
      have HV := Lib.hid hof
      clear hr2 HR hof
      obtain ⟨⟨y0, y1, y2, y3⟩, -⟩ := H2.out.2.2.1.c4
      obtain ⟨⟨x0, x1, x2, x3⟩, -⟩ := H2.out.2.2.2.1.c4
      go_wp2_with fail
      refine (begin_walk _ _ D E w2 H2.out.1 H2.out.2.1 HD.out.1 HD.out.2.1 HR2.out.1 HR2.out.2).mono ?_
      rintro e w3 ⟨p, m, n, cs, blk, fv, ov, rfl, hF3⟩
      have HF3 := Lib.hid hF3
      clear hF3 y0 y1 y2 y3 x0 x1 x2 x3
      go_wp2_with fail
      refine (rows_walk w2 w3 w2.heap.size p m n _ _ blk fv cs D E ov HF3.out HD.out.1 HD.out.2.1 HR2.out.1 HR2.out.2).mono ?_
      rintro e w4 ⟨rv, few, n4, o4, ov4, rfl, hE4⟩
      have b4 := hE4.f.s.bel
      have H4 := Lib.hid (And.intro (H2.out.1.below b4) (And.intro (H2.out.2.1.below b4) (And.intro (H2.out.2.2.1.below b4 H2.out.2.2.1.lt) (And.intro (H2.out.2.2.2.1.below b4 H2.out.2.2.2.1.lt) (And.intro (H2.out.2.2.2.2.1.below b4 H2.out.2.2.2.2.1.lt) (And.intro (H2.out.2.2.2.2.2.1.trans (b4.mono H2.out.2.2.2.2.2.1.size)) (H2.out.2.2.2.2.2.2.below b4 (Nat.le_refl _))))))))
      have HE := Lib.hid hE4
      clear hE4 b4 H2 HF3
      cases few with
      | false =>
        have hmany := (HE.out.many rfl).2
        have hof : bothD op D E = noD ∧ bothE D E = 16 := by rw [HV.out.1, HV.out.2, if_neg (by omega), if_neg (by omega)]; exact ⟨rfl, rfl⟩
        have HO := Lib.hid hof
        clear hof hmany
        obtain ⟨⟨r0, r1, r2, r3⟩, f0, f1, f2, f3⟩ := H4.out.2.2.2.2.1.c4
        have hb4 := blk_set4 H4.out.2.2.2.2.1 (.int .i64 0) (.slice none 0 0) (.slice none 0 0) (.slice none 0 0)
        obtain ⟨⟨r0', r1', r2', r3'⟩, -⟩ := hb4.c4
        have ho4 := only_set4 w4 (w.heap.size + 2) (.int .i64 0) (.slice none 0 0) (.slice none 0 0) (.slice none 0 0)
        have hbl := ho4.below (B := w.heap.size) (by have := (H4.out.2.2.2.2.2.1).size; omega) (by simp)
        have HB := Lib.hid ((H4.out.2.2.2.2.2.1).trans hbl)
        clear ho4 hbl hb4
        go_wp2_with fail
        refine bodyPost_ret (v := .tuple #[.agg #[.int .i64 0, .slice none 0 0, .slice none 0 0, .slice none 0 0], .int .i64 16]) (by simp [results, Tryz.results40, go_sem, r0', r1', r2', r3']) rfl ⟨_, by rw [HO.out.2], ?_, HB.out⟩
        rw [HO.out.1]
        exact noD_out _ _
      | true =>
        obtain ⟨ho4, hle, RS, hRS⟩ := HE.out.all rfl
        have hof : bothD op D E = canonI (opL op D E) ∧ bothE D E = 0 := by rw [HV.out.1, HV.out.2, if_pos (by rw [← ho4]; exact hle), if_pos (by rw [← ho4]; exact hle)]; exact ⟨rfl, rfl⟩
        have HO := Lib.hid (And.intro hof (And.intro ho4 hRS))
        clear hof ho4 hRS HV
        obtain ⟨A9, cc9, rfl⟩ := own_slice HE.out.f.s.t.ord
        obtain ⟨-, c11, -⟩ := HE.out.f.s.t.c3
        have c8 : w4.cell? ⟨p, 8, none⟩ = some blk := by
          obtain ⟨a0, a1, a2, a3, b0, b1, b2, b3, rfl, -⟩ := HE.out.f.s.v
          exact HE.out.f.s.t.q.cell 8
        obtain ⟨ab2, cb2, rfl, -⟩ := id HE.out.f.bk
        obtain ⟨ar, cr, rfl⟩ := own_slice HO.out.2.2.out
        rw [mbP_len] at c8 HE
        have hpl := HE.out.f.s.t.q.lt
        have hal := (Below.refl w4.heap.size w4).alloc (Nat.le_refl _) (.cells #[.int .i64 0, .slice none 0 0, .slice ab2 256 cb2, .slice ar o4.length cr] 26)
        have hq := Blk.new w4 26 #[.int .i64 0, .slice none 0 0, .slice ab2 256 cb2, .slice ar o4.length cr]
        have HQ := Lib.hid (And.intro hq hal)
        clear hq hal
        go_wp2_with fail
        generalize w4.alloc (.cells #[.int .i64 0, .slice none 0 0, .slice ab2 256 cb2, .slice ar o4.length cr] 26) = W5 at *
        clear c8 c11 hpl
        go_loopw [13, 45] (fun _ c wr => ∃ (k : Nat) (fv : Value), c = .int .i64 k ∧ k ≤ o4.length ∧ Hid (Blk wr w4.heap.size 26 #[.int .i64 0, fv, .slice ab2 256 cb2, .slice ar o4.length cr] ∧ wr.ownsRow w4.heap.size 4 1 fv k (((marksP op D E o4).take k).map .bool) ∧ Below w4.heap.size w4 wr)) (fun _ c _ => o4.length - (intOf c).toNat)
        case atStart => exact ⟨0, .slice none 0 0, rfl, by omega, Lib.hid ⟨HQ.out.1, World.ownsRow_nil _ _ _ _, HQ.out.2⟩⟩
        case round =>
          obtain ⟨k, fv1, rfl, hk, HS⟩ := hrel
          obtain ⟨af1, cf1, rfl⟩ := own_slice HS.out.2.1
          by_cases hlt : k < o4.length
          · obtain ⟨ga, capa, hva, -, hla⟩ := HE.out.f.s.t.ord.form (by omega)
            obtain ⟨rfl, -, rfl⟩ := Value.slice.inj hva
            obtain ⟨x, hx⟩ : ∃ x, o4[k]? = some x := ⟨_, List.getElem?_eq_getElem hlt⟩
            obtain ⟨g1, g2⟩ := prCells_get hx
            have m1 := HE.out.f.s.t.ord.cellAt (2 * k) (by omega)
            have m2 := HE.out.f.s.t.ord.cellAt (2 * k + 1) (by omega)
            rw [g1] at m1
            rw [g2] at m2
            rw [Nat.mul_comm 2 k] at m1 m2
            replace m1 := (HS.out.2.2.cell (p := ⟨ga, k * 2, none⟩) hla).trans m1
            replace m2 := (HS.out.2.2.cell (p := ⟨ga, k * 2 + 1, none⟩) hla).trans m2
            obtain ⟨u1, u2⟩ := x
            have hul := (pairsL_all HR2.out.1 HR2.out.2).lt (u1, u2) (by rw [← HO.out.2.1]; exact List.mem_of_getElem? hx)
            have hu1 : u1 < F := by rw [← HD.out.2.2.1, HR2.out.1.fin]; exact hul.1
            have hu2 : u2 < F' := by rw [← HD.out.2.2.2.1, HR2.out.2.fin]; exact hul.2
            have hF4 : F ≤ 4096 := by rw [← HD.out.2.2.1, HR2.out.1.fin]; exact HR2.out.1.m2
            have hF5 : F' ≤ 4096 := by rw [← HD.out.2.2.2.1, HR2.out.2.fin]; exact HR2.out.2.m2
            obtain ⟨bA, oA, cA, hA, nA⟩ := H4.out.1.cut.1.get hu1
            obtain ⟨rfl, -, -⟩ := Value.slice.inj hA
            obtain ⟨bB, oB, cB, hB, nB⟩ := H4.out.2.1.cut.1.get hu2
            obtain ⟨rfl, -, -⟩ := Value.slice.inj hB
            replace nA := (HS.out.2.2.cell (World.block_lt_of_cell? _ _ nA)).trans nA
            replace nB := (HS.out.2.2.cell (World.block_lt_of_cell? _ _ nB)).trans nB
            obtain ⟨vA, hvA⟩ : ∃ v, D.fin.getD u1 false = v := ⟨_, rfl⟩
            obtain ⟨vB, hvB⟩ : ∃ v, E.fin.getD u2 false = v := ⟨_, rfl⟩
            rw [hvA] at nA
            rw [hvB] at nB
            have htk : (marksP op D E o4).take (k + 1) = (marksP op D E o4).take k ++ [op vA vB] := by
              rw [List.take_add_one]
              unfold marksP
              rw [List.getElem?_map, hx, ← hvA, ← hvB]
              rfl
            have HX := Lib.hid htk
            obtain ⟨⟨-, y1, -, -⟩, -⟩ := (H4.out.2.2.1.below HS.out.2.2 H4.out.2.2.1.lt).c4
            obtain ⟨⟨-, x1, -, -⟩, -⟩ := (H4.out.2.2.2.1.below HS.out.2.2 H4.out.2.2.2.1.lt).c4
            obtain ⟨⟨-, fq, -, -⟩, -⟩ := HS.out.1.c4
            have hzr := HS.out.2.2.size
            have hall := (Below.refl wr.heap.size wr).alloc (Nat.le_refl _) (.cells #[.int .i64 u1, .int .i64 u2] 101)
            obtain ⟨⟨z0, z1⟩, -⟩ := (Blk.new wr 101 #[.int .i64 u1, .int .i64 u2]).c2
            replace nA := (hall.cell (World.block_lt_of_cell? _ _ nA)).trans nA
            replace nB := (hall.cell (World.block_lt_of_cell? _ _ nB)).trans nB
            replace y1 := (hall.cell (World.block_lt_of_cell? _ _ y1)).trans y1
            replace x1 := (hall.cell (World.block_lt_of_cell? _ _ x1)).trans x1
            replace fq := (hall.cell (World.block_lt_of_cell? _ _ fq)).trans fq
            have HA := Lib.hid (And.intro (HS.out.1.below hall HS.out.1.lt) (And.intro (own_under HS.out.2.1 hall fun g hg => own_lt HS.out.2.1 hg) (HS.out.2.2.trans (hall.mono HS.out.2.2.size))))
            clear hva g1 g2 hx hul hA hB hvA hvB htk hall
            go_wp2_with fail
            generalize wr.alloc (.cells #[.int .i64 u1, .int .i64 u2] 101) = W6 at *
            clear m1 m2
            refine wp_region_T [17, 18, 19] (by kernel_rfl) ?_
            intro W7 bb
            have lc : ∀ {p : Addr} {v : Value}, W6.cell? p = some v → ∀ d os, (Sort.grow (redrawn W7 d) os).cell? p = some v := fun {p v} hp d os => ((bb.trans ((below_regrown W7 d os).mono bb.size)).cell (World.block_lt_of_cell? W6 p hp)).trans hp
            have q0 := lc y1
            have q1 := lc x1
            have q2 := lc fq
            have q3 := lc z0
            have q4 := lc z1
            have q5 := lc nA
            have q6 := lc nB
            clear lc
            clear y1 x1 fq z0 z1 nA nB
            refine stepsQ [0, 1, 2, 3, 4, 5, 6, 7, 8, 9, 10, 11, 12, 13, 14] (by kernel_rfl) (by kernel_rfl) (by kernel_rfl) (Grown.of_below (Below.refl _ _)) ?_
            simp only [atIdx, List.filterMap_cons, List.filterMap_nil, List.getElem?_toArray, List.getElem_toArray, List.getElem?_cons_zero, List.getElem?_cons_succ, List.getElem_cons_zero, List.getElem_cons_succ]
            iterate 15 (show wpQuiet _ _ _ _ (_ :: _) _; go_big_quiet_step (fail))
            refine wpQuiet_nil ?_
            show stepT _ _ _ _ _ _ _ _ _
            refine stepS (i := 15) rfl (by kernel_rfl) ?_
            intro K hK
            refine step_tells hg HD.out.2.2.2.2 rfl rfl (vA := vA) (vB := vB) (by simp [Act.eval, Act.put]) (by simp [Act.eval, Act.put]) (by simp [Act.eval, Act.put]) ?_
            intro w8 b8
            refine hK _ _ ⟨fun _ => Grown.of_below b8, ?_⟩
            clear hK K
            have hz8 := b8.size
            have b68 := bb.trans (b8.mono bb.size)
            have hone := one_at (w := w8) (u := .bool (op vA vB)) (t := 4)
            have b9 := b8.alloc b8.size (.cells #[.bool (op vA vB)] 4)
            have b69 := b68.alloc b68.size (.cells #[.bool (op vA vB)] 4)
            have hq9 := HA.out.1.below b69 HA.out.1.lt
            have hown9 := own_under HA.out.2.1 b69 fun g hg => own_lt HA.out.2.1 hg
            have hB9 := HA.out.2.2.trans (b69.mono HA.out.2.2.size)
            have hz6 := HA.out.2.2.size
            have hz7 := bb.size
            obtain ⟨i0, hi0, hz00, hz01, hz02⟩ := info_parts infoBool
            refine stepS (i := 16) rfl (by kernel_rfl) ?_
            intro K hK
            go_simp
            refine hK _ _ ⟨fun _ => Grown.of_below b9, ?_⟩
            clear hK K
            refine stepS (i := 17) rfl (by kernel_rfl) ?_
            intro K hK
            refine step_append_lies _ rfl (.tmp 50) (.tmp 65) 22 rfl w4.heap.size 4 i0 (.bool false) 1 1 Tryz.underlying22 hi0 hz00 hz01 hz02 rfl (by decide) _ _ _ (by simp [Act.eval, Act.put]) hown9 ⟨w8.heap.size, 0, none⟩ 1 1 [.bool (op vA vB)] (by simp [Act.eval, Act.put]) rfl hone (fun u hu => by simp at hu; subst hu; rfl) (by decide) (by unfold maxLen; omega) (by omega) (by simp; omega) _ rfl ?_
            intro g14 cap14 w14 hown14 hgrow14 hat14 hlt14
            refine hK _ _ ⟨fun h => absurd (by decide) h, ?_⟩
            clear hK K
            have hne := own_blk_ne hown9 hq9 (by decide)
            have q14 := hq9.grown hgrow14 (fun e => hne e.symm)
            have fz := q14.frozen 1
            have e1 : w14.cell? ⟨w4.heap.size, 1, none⟩ = some (.slice af1 k cf1) := q14.cell 1
            have q15 := q14.set_ 1 (.slice (some ⟨g14, 0, none⟩) (k + 1) cap14)
            have o15 := own_set hown14 (.slice (some ⟨g14, 0, none⟩) (k + 1) cap14) (a := ⟨w4.heap.size, 1, none⟩) (own_blk_ne hown14 q14 (by decide))
            have b15 := (hB9.grown hgrow14 (by have := hB9.size; omega) (fun j e => (hown9.lt j e).1)).setCell (p := ⟨w4.heap.size, 1, none⟩) (Nat.le_refl _) (.slice (some ⟨g14, 0, none⟩) (k + 1) cap14)
            have HR3 := Lib.hid (And.intro q15 (And.intro o15 b15))
            clear hown14 hgrow14 hat14 hlt14 hone b9 b69 b68 hq9 hown9 hB9 bb b8 hne q14 q15 o15 b15 q0 q1 q2 q3 q4 q5 q6
            refine stepS (i := 18) rfl (by kernel_rfl) ?_
            intro K hK
            go_simp
            refine hK _ _ ⟨fun h => absurd (by decide) h, ?_⟩
            clear hK K
            refine stepS (i := 19) rfl (by kernel_rfl) ?_
            intro K hK
            go_simp
            refine hK _ _ ⟨fun h => absurd (by decide) h, ?_⟩
            clear hK K
            refine stepT_end (by kernel_rfl) ?_
            clear fz e1
            go_wp2_with fail
            go_roundw
            case rel =>
              refine ⟨k + 1, .slice (some ⟨g14, 0, none⟩) (k + 1) cap14, by go_num, by omega, Lib.hid ⟨by simpa using HR3.out.1, ?_, HR3.out.2.2⟩⟩
              rw [HX.out, List.map_append]
              exact HR3.out.2.1
            case measure => simp [intOf]; omega
          · obtain rfl : o4.length = k := by omega
            have hmk : (marksP op D E o4).length = o4.length := by simp [marksP]
            have hfull : (marksP op D E o4).take o4.length = marksP op D E o4 := by rw [← hmk, List.take_length]
            have hown := HS.out.2.1
            rw [hfull] at hown
            have hbo := boolsAt_own hown
            have hr4 := (HO.out.2.2.under (HS.out.2.2.mono (Nat.le_refl _))).reads op
            have hbk := HE.out.f.bk.below HS.out.2.2
            have hdf : DfaAt wr (.agg #[.int .i64 0, .slice af1 o4.length cf1, .slice ab2 256 cb2, .slice ar o4.length cr]) (prodD D E op (mbP D E) (fsP D E) o4) := ⟨_, _, _, rfl, hbo, hbk, hr4⟩
            have hor : ofD (prodD D E op (mbP D E) (fsP D E) o4) = canonI (opL op D E) := ofD_prod (mbP_meet D E) (by rw [HO.out.2.1]; exact pairsL_all HR2.out.1 HR2.out.2) hle
            have HZ := Lib.hid (And.intro hdf (And.intro (prodD_in (A := D) (B := E) op hle) (And.intro (H4.out.2.2.2.2.2.2.below HS.out.2.2 (Nat.le_refl _)) hor)))
            obtain ⟨⟨q0, q1, q2, q3⟩, -⟩ := HS.out.1.c4
            clear hmk hfull hown hbo hr4 hbk hdf hor
            go_wp2_with fail
            refine (of_any2 _ _ wr HZ.out.1 HZ.out.2.1 HZ.out.2.2.1).mono ?_
            rintro e w5 ⟨rz, rfl, h5, b5, hag⟩
            obtain ⟨S5, x1, x2, x3, F5, B5, M5, c1, c2, c3, -, -, -, -, rfl⟩ := h5.form
            have hr4b := H4.out.2.2.2.2.1.below HS.out.2.2 H4.out.2.2.2.2.1.lt
            have hrb := hr4b.below b5 hr4b.lt
            have hlt2 : w.heap.size + 2 < wr.heap.size := hr4b.lt
            obtain ⟨⟨r0, r1, r2, r3⟩, f0, f1, f2, f3⟩ := hrb.c4
            have hb4 := blk_set4 hrb (.int .i64 S5) (.slice x1 F5 c1) (.slice x2 B5 c2) (.slice x3 M5 c3)
            obtain ⟨⟨r0', r1', r2', r3'⟩, -⟩ := hb4.c4
            have ho4 := only_set4 w5 (w.heap.size + 2) (.int .i64 S5) (.slice x1 F5 c1) (.slice x2 B5 c2) (.slice x3 M5 c3)
            have hb0 := H4.out.2.2.2.2.2.1.trans (HS.out.2.2.mono H4.out.2.2.2.2.2.1.size)
            have hbel := hb0.trans (b5.mono hb0.size)
            have hout : DfaOut w ((((w5.setCell ⟨w.heap.size + 2, 0, none⟩ (.int .i64 S5)).setCell ⟨w.heap.size + 2, 1, none⟩ (.slice x1 F5 c1)).setCell ⟨w.heap.size + 2, 2, none⟩ (.slice x2 B5 c2)).setCell ⟨w.heap.size + 2, 3, none⟩ (.slice x3 M5 c3)) (.agg #[.int .i64 S5, .slice x1 F5 c1, .slice x2 B5 c2, .slice x3 M5 c3]) (bothD op D E) := by
              intro w2 hw2
              rw [HO.out.1.1, ← HZ.out.2.2.2]
              exact hag w2 fun k hk => (hw2 k (by omega)).trans (set4_block w5 (w.heap.size + 2) (.int .i64 S5) (.slice x1 F5 c1) (.slice x2 B5 c2) (.slice x3 M5 c3) k (by omega))
            have HF := Lib.hid (And.intro hout (hbel.trans (ho4.below hbel.size (by simp))))
            clear hout hbel ho4 hb4 hrb hag h5 hb0 hr4b q0 q1 q2 q3
            go_wp2_with fail
            exact bodyPost_ret (v := .tuple #[.agg #[.int .i64 S5, .slice x1 F5 c1, .slice x2 B5 c2, .slice x3 M5 c3], .int .i64 0]) (by simp [results, Tryz.results40, go_sem, r0', r1', r2', r3']) rfl ⟨_, by rw [HO.out.1.2], HF.out.1, HF.out.2⟩
end Go.Proofs.YtmmlakheimfijaaGreatDoor
namespace Go.Proofs.YtmmlakheimfijaaGreatDoor
set_option linter.unusedVariables false
set_option linter.unusedSimpArgs false
open Go.RowKit Go.Maps Go.Sort Go.ChangeShapes Go.WideShapes Go.Joins

abbrev andB : Bool → Bool → Bool := fun x y => x && y
set_option maxHeartbeats 8000000 in
set_option maxRecDepth 1000000 in
theorem tells_and : TellsOp 41 andB := by
  intro x y W
  cases x <;> cases y
  all_goals
    go_enter Tryz.func41, Tryz.ntmps41
    go_wp2_with fail
    go_ret
    exact ⟨rfl, Below.refl _ _⟩
set_option maxHeartbeats 8000000 in
set_option maxRecDepth 1000000 in
theorem and_any (va vb : Value) (D E : DfaI) (w : World) (ha : DfaAt w va D) (hb : DfaAt w vb E) (hD : D.In) (hE : E.In) (hT : Pow10 w) :
    Calls Tryz.prog 22 #[va, vb] w fun e w' => ∃ rv, e = .returned (.tuple #[rv, .int .i64 (bothE D E)]) ∧ DfaOut w w' rv (bothD andB D E) ∧ Below w.heap.size w w' := by
  obtain ⟨S, af, ab, an, F, K1, M, cf, cb, cn, hS, hF, hK1, hM, rfl⟩ := ha.form
  obtain ⟨S', ef, eb, en, F', K2, M', ce, ce', ce'', hS', hF', hK2, hM', rfl⟩ := hb.form
  have hz0 : ∀ o, (w.alloc o).heap.size = w.heap.size + 1 := fun o => by simp
  have b0 := (Below.refl w.heap.size w).alloc (Nat.le_refl _) (.cells #[.int .i64 S, .slice af F cf, .slice ab K1 cb, .slice an M cn] 26)
  have b1 := b0.alloc (by rw [hz0]; omega) (.cells #[.int .i64 S', .slice ef F' ce, .slice eb K2 ce', .slice en M' ce''] 26)
  have hz1 : ((w.alloc (.cells #[.int .i64 S, .slice af F cf, .slice ab K1 cb, .slice an M cn] 26)).alloc (.cells #[.int .i64 S', .slice ef F' ce, .slice eb K2 ce', .slice en M' ce''] 26)).heap.size = w.heap.size + 2 := by simp
  have b2 := b1.alloc (by rw [hz1]; omega) (.cells #[.int .i64 0, .slice none 0 0, .slice none 0 0, .slice none 0 0] 26)
  have qr := Blk.new ((w.alloc (.cells #[.int .i64 S, .slice af F cf, .slice ab K1 cb, .slice an M cn] 26)).alloc (.cells #[.int .i64 S', .slice ef F' ce, .slice eb K2 ce', .slice en M' ce''] 26)) 26 #[.int .i64 0, .slice none 0 0, .slice none 0 0, .slice none 0 0]
  rw [hz1] at qr
  have H := Lib.hid (And.intro (ha.below b2) (And.intro (hb.below b2) (And.intro qr (And.intro b2 (hT.below b2 (Nat.le_refl _))))))
  clear ha hb hT qr b0 b1 b2 hF hF' hS hS' hK1 hK2 hM hM'
  go_enter Tryz.func22, Tryz.ntmps22
  go_wp2_with fail
  clear hz0 hz1
  generalize ((w.alloc (.cells #[.int .i64 S, .slice af F cf, .slice ab K1 cb, .slice an M cn] 26)).alloc (.cells #[.int .i64 S', .slice ef F' ce, .slice eb K2 ce', .slice en M' ce''] 26)).alloc (.cells #[.int .i64 0, .slice none 0 0, .slice none 0 0, .slice none 0 0] 26) = W at *
  refine (both_any 41 (by unfold IsOp; simp) andB tells_and _ _ D E W H.out.1 H.out.2.1 hD hE H.out.2.2.2.2).mono ?_
  rintro e w5 ⟨rz, rfl, h5, b5⟩
  obtain ⟨S5, x1, x2, x3, F5, B5, M5, c1, c2, c3, -, -, -, -, rfl⟩ := h5.at_.form
  have hrb := H.out.2.2.1.below b5 H.out.2.2.1.lt
  have hlt2 : w.heap.size + 2 < W.heap.size := H.out.2.2.1.lt
  obtain ⟨⟨r0, r1, r2, r3⟩, f0, f1, f2, f3⟩ := hrb.c4
  have hb4 := blk_set4 hrb (.int .i64 S5) (.slice x1 F5 c1) (.slice x2 B5 c2) (.slice x3 M5 c3)
  obtain ⟨⟨r0', r1', r2', r3'⟩, -⟩ := hb4.c4
  have ho4 := only_set4 w5 (w.heap.size + 2) (.int .i64 S5) (.slice x1 F5 c1) (.slice x2 B5 c2) (.slice x3 M5 c3)
  have hbel := H.out.2.2.2.1.trans (b5.mono H.out.2.2.2.1.size)
  have hout : DfaOut w ((((w5.setCell ⟨w.heap.size + 2, 0, none⟩ (.int .i64 S5)).setCell ⟨w.heap.size + 2, 1, none⟩ (.slice x1 F5 c1)).setCell ⟨w.heap.size + 2, 2, none⟩ (.slice x2 B5 c2)).setCell ⟨w.heap.size + 2, 3, none⟩ (.slice x3 M5 c3)) (.agg #[.int .i64 S5, .slice x1 F5 c1, .slice x2 B5 c2, .slice x3 M5 c3]) (bothD andB D E) := by
    intro w2 hw2
    exact h5 w2 fun k hk => (hw2 k (by omega)).trans (set4_block w5 (w.heap.size + 2) (.int .i64 S5) (.slice x1 F5 c1) (.slice x2 B5 c2) (.slice x3 M5 c3) k (by omega))
  have HF := Lib.hid (And.intro hout (hbel.trans (ho4.below hbel.size (by simp))))
  obtain ⟨be, hbe⟩ : ∃ b, bothE D E = b := ⟨_, rfl⟩
  have HE := Lib.hid hbe
  rw [hbe]
  clear hout hbel ho4 hb4 hrb h5 hbe
  go_wp2_with fail
  exact bodyPost_ret (v := .tuple #[.agg #[.int .i64 S5, .slice x1 F5 c1, .slice x2 B5 c2, .slice x3 M5 c3], .int .i64 be]) (by simp [results, Tryz.results22, go_sem, r0', r1', r2', r3']) rfl ⟨_, by rw [HE.out], HF.out.1, HF.out.2⟩
abbrev orB : Bool → Bool → Bool := fun x y => x || y
abbrev lessB : Bool → Bool → Bool := fun x y => x && !y
set_option maxHeartbeats 8000000 in
set_option maxRecDepth 1000000 in
theorem tells_less : TellsOp 66 lessB := by
  intro x y W
  cases x <;> cases y
  all_goals
    go_enter Tryz.func66, Tryz.ntmps66
    go_wp2_with fail
    go_ret
    exact ⟨rfl, Below.refl _ _⟩
set_option maxHeartbeats 8000000 in
set_option maxRecDepth 1000000 in
theorem less_any (va vb : Value) (D E : DfaI) (w : World) (ha : DfaAt w va D) (hb : DfaAt w vb E) (hD : D.In) (hE : E.In) (hT : Pow10 w) :
    Calls Tryz.prog 39 #[va, vb] w fun e w' => ∃ rv, e = .returned (.tuple #[rv, .int .i64 (bothE D E)]) ∧ DfaOut w w' rv (bothD lessB D E) ∧ Below w.heap.size w w' := by
  obtain ⟨S, af, ab, an, F, K1, M, cf, cb, cn, hS, hF, hK1, hM, rfl⟩ := ha.form
  obtain ⟨S', ef, eb, en, F', K2, M', ce, ce', ce'', hS', hF', hK2, hM', rfl⟩ := hb.form
  have hz0 : ∀ o, (w.alloc o).heap.size = w.heap.size + 1 := fun o => by simp
  have b0 := (Below.refl w.heap.size w).alloc (Nat.le_refl _) (.cells #[.int .i64 S, .slice af F cf, .slice ab K1 cb, .slice an M cn] 26)
  have b1 := b0.alloc (by rw [hz0]; omega) (.cells #[.int .i64 S', .slice ef F' ce, .slice eb K2 ce', .slice en M' ce''] 26)
  have hz1 : ((w.alloc (.cells #[.int .i64 S, .slice af F cf, .slice ab K1 cb, .slice an M cn] 26)).alloc (.cells #[.int .i64 S', .slice ef F' ce, .slice eb K2 ce', .slice en M' ce''] 26)).heap.size = w.heap.size + 2 := by simp
  have b2 := b1.alloc (by rw [hz1]; omega) (.cells #[.int .i64 0, .slice none 0 0, .slice none 0 0, .slice none 0 0] 26)
  have qr := Blk.new ((w.alloc (.cells #[.int .i64 S, .slice af F cf, .slice ab K1 cb, .slice an M cn] 26)).alloc (.cells #[.int .i64 S', .slice ef F' ce, .slice eb K2 ce', .slice en M' ce''] 26)) 26 #[.int .i64 0, .slice none 0 0, .slice none 0 0, .slice none 0 0]
  rw [hz1] at qr
  have H := Lib.hid (And.intro (ha.below b2) (And.intro (hb.below b2) (And.intro qr (And.intro b2 (hT.below b2 (Nat.le_refl _))))))
  clear ha hb hT qr b0 b1 b2 hF hF' hS hS' hK1 hK2 hM hM'
  go_enter Tryz.func39, Tryz.ntmps39
  go_wp2_with fail
  clear hz0 hz1
  generalize ((w.alloc (.cells #[.int .i64 S, .slice af F cf, .slice ab K1 cb, .slice an M cn] 26)).alloc (.cells #[.int .i64 S', .slice ef F' ce, .slice eb K2 ce', .slice en M' ce''] 26)).alloc (.cells #[.int .i64 0, .slice none 0 0, .slice none 0 0, .slice none 0 0] 26) = W at *
  refine (both_any 66 (by unfold IsOp; simp) lessB tells_less _ _ D E W H.out.1 H.out.2.1 hD hE H.out.2.2.2.2).mono ?_
  rintro e w5 ⟨rz, rfl, h5, b5⟩
  obtain ⟨S5, x1, x2, x3, F5, B5, M5, c1, c2, c3, -, -, -, -, rfl⟩ := h5.at_.form
  have hrb := H.out.2.2.1.below b5 H.out.2.2.1.lt
  have hlt2 : w.heap.size + 2 < W.heap.size := H.out.2.2.1.lt
  obtain ⟨⟨r0, r1, r2, r3⟩, f0, f1, f2, f3⟩ := hrb.c4
  have hb4 := blk_set4 hrb (.int .i64 S5) (.slice x1 F5 c1) (.slice x2 B5 c2) (.slice x3 M5 c3)
  obtain ⟨⟨r0', r1', r2', r3'⟩, -⟩ := hb4.c4
  have ho4 := only_set4 w5 (w.heap.size + 2) (.int .i64 S5) (.slice x1 F5 c1) (.slice x2 B5 c2) (.slice x3 M5 c3)
  have hbel := H.out.2.2.2.1.trans (b5.mono H.out.2.2.2.1.size)
  have hout : DfaOut w ((((w5.setCell ⟨w.heap.size + 2, 0, none⟩ (.int .i64 S5)).setCell ⟨w.heap.size + 2, 1, none⟩ (.slice x1 F5 c1)).setCell ⟨w.heap.size + 2, 2, none⟩ (.slice x2 B5 c2)).setCell ⟨w.heap.size + 2, 3, none⟩ (.slice x3 M5 c3)) (.agg #[.int .i64 S5, .slice x1 F5 c1, .slice x2 B5 c2, .slice x3 M5 c3]) (bothD lessB D E) := by
    intro w2 hw2
    exact h5 w2 fun k hk => (hw2 k (by omega)).trans (set4_block w5 (w.heap.size + 2) (.int .i64 S5) (.slice x1 F5 c1) (.slice x2 B5 c2) (.slice x3 M5 c3) k (by omega))
  have HF := Lib.hid (And.intro hout (hbel.trans (ho4.below hbel.size (by simp))))
  obtain ⟨be, hbe⟩ : ∃ b, bothE D E = b := ⟨_, rfl⟩
  have HE := Lib.hid hbe
  rw [hbe]
  clear hout hbel ho4 hb4 hrb h5 hbe
  go_wp2_with fail
  exact bodyPost_ret (v := .tuple #[.agg #[.int .i64 S5, .slice x1 F5 c1, .slice x2 B5 c2, .slice x3 M5 c3], .int .i64 be]) (by simp [results, Tryz.results39, go_sem, r0', r1', r2', r3']) rfl ⟨_, by rw [HE.out], HF.out.1, HF.out.2⟩
abbrev unlikeB : Bool → Bool → Bool := fun x y => x != y
/-- how many pairs `Pairs` tells -/
def pairsC (D E : DfaI) : Int := if (rightD D && rightD E) = true then min ((pairsL D E).length : Int) 4097 else 0
end Go.Proofs.YtmmlakheimfijaaGreatDoor
namespace Go.Proofs.YtmmlakheimfijaaGreatDoor
set_option linter.unusedVariables false
set_option linter.unusedSimpArgs false

section
variable {A B : DfaI} {op : Bool → Bool → Bool}
theorem opL_few (hA : RightD A) (hB : RightD B) (hl : (pairsL A B).length ≤ 4096) : (statesL (opL op A B)).length ≤ 4096 := by
  have h := (prodD_right (op := op) (mbP_meet A B) (pairsL_all hA hB) hl).states_le
  rw [statesL_congr fun u hu => prodD_lang (op := op) (mbP_meet A B) (pairsL_all hA hB) hu] at h
  exact h
theorem bothD_eq (hA : RightD A) (hB : RightD B) (hl : (pairsL A B).length ≤ 4096) : bothD op A B = canonI (opL op A B) ∧ bothE A B = 0 := by
  unfold bothD bothE
  rw [rightD_iff.2 hA, rightD_iff.2 hB]
  simp [hl]
theorem bothD_right (hA : RightD A) (hB : RightD B) (hl : (pairsL A B).length ≤ 4096) : RightD (bothD op A B) := by
  rw [(bothD_eq hA hB hl).1]
  exact canonI_rightD (opL_few hA hB hl)
theorem bothD_lang (hA : RightD A) (hB : RightD B) (hl : (pairsL A B).length ≤ 4096) {u : List Nat} (hu : Bytes u) : langD (bothD op A B) u = op (langD A u) (langD B u) := by
  rw [(bothD_eq hA hB hl).1]
  exact canonI_lang (few_of_le (opL_few hA hB hl)) hu
theorem bothD_in (op : Bool → Bool → Bool) (A B : DfaI) : (bothD op A B).In := by
  unfold bothD
  by_cases h : (rightD A && rightD B) = true
  · rw [if_pos h]
    by_cases hl : (pairsL A B).length ≤ 4096
    · rw [if_pos hl]
      simp only [Bool.and_eq_true] at h
      exact canonI_in (opL_few (rightD_iff.1 h.1) (rightD_iff.1 h.2) hl)
    · rw [if_neg hl]
      exact noD_in
  · rw [if_neg h]
    exact noD_in
theorem notC_eq (hA : RightD A) : notC A = ofD (flipD A) := (notC_of hA).symm
theorem notC_right (hA : RightD A) : RightD (notC A) := by
  rw [notC_eq hA]
  exact ofD_right (flipD_right hA)
theorem notC_lang (hA : RightD A) {u : List Nat} (hu : Bytes u) : langD (notC A) u = !langD A u := by
  rw [notC_eq hA, ofD_lang (flipD_right hA) hu, flipD_lang hA hu]
theorem notC_in (A : DfaI) : (notC A).In := by
  cases h : rightD A with
  | true =>
    rw [notC_eq (rightD_iff.1 h)]
    exact ofD_in _
  | false =>
    unfold notC
    rw [if_neg (by rw [h]; decide)]
    exact noD_in
theorem pairs_le (hA : RightD A) (hB : RightD B) : (pairsL A B).length ≤ A.next.length * B.next.length := pairsF_size hA hB (mbP_meet A B)
end
/-- nothing is taken -/
theorem none_states : (statesL (fun _ => false)).length = 1 := by
  have h1 := statesL_pos (fun _ => false)
  have h2 := Aut.statesL_apart (fun _ => false)
  rcases hs : statesL (fun _ => false) with _ | ⟨a, _ | ⟨b, t⟩⟩
  · rw [hs] at h1; simp at h1
  · rfl
  · rw [hs] at h2
    have h3 := (List.pairwise_cons.1 h2).1 b (by simp)
    have h4 : eqL (fun _ => false) b a = true := eqL_iff.2 fun w _ => rfl
    rw [h4] at h3
    cases h3
theorem canonI_fin0 {L : Lang} : (canonI L).fin.getD 0 false = L [] := by
  have h := statesL_pos L
  unfold canonI
  simp only
  rw [List.getD_eq_getElem?_getD, List.getElem?_map, List.getElem?_range h]
  show finL L 0 = _
  unfold finL
  obtain ⟨t, ht⟩ := statesL_pre L
  rw [ht]
  rfl
/-! the examples -/
theorem bytes_one {c : Nat} (h : c < 256) : Bytes [c] := .one h
def wA : DfaI := wordD [97]
def wB : DfaI := wordD [98]
theorem wA_right : RightD wA := wordD_right (by simp)
theorem wB_right : RightD wB := wordD_right (by simp)
theorem wA_in : wA.In := wordD_in (by simp)
theorem wB_in : wB.In := wordD_in (by simp)
theorem wA_lang {u : List Nat} (hu : Bytes u) : langD wA u = decide (u = [97]) := wordD_lang (bytes_one (by omega)) hu
theorem wB_lang {u : List Nat} (hu : Bytes u) : langD wB u = decide (u = [98]) := wordD_lang (bytes_one (by omega)) hu
theorem wAB_pairs : (pairsL wA wB).length ≤ 4096 := by
  have := pairs_le wA_right wB_right
  have h1 : wA.next.length = 3 := by simp [wA, wordD]
  have h2 : wB.next.length = 3 := by simp [wB, wordD]
  rw [h1, h2] at this
  omega
theorem ex_and : (bothD andB wA wB).fin.length = 1 ∧ (bothD andB wA wB).fin.getD 0 false = false := by
  rw [(bothD_eq wA_right wB_right wAB_pairs).1]
  have e : canonI (opL andB wA wB) = canonI (fun _ => false) := canonI_congr fun u hu => by
    unfold opL andB
    rw [wA_lang hu, wB_lang hu]
    by_cases h1 : u = [97]
    · subst h1; rfl
    · rw [decide_eq_false h1]; rfl
  rw [e, canonI_fin, none_states, canonI_fin0]
  exact ⟨rfl, rfl⟩
theorem ex_run {D : DfaI} (h : RightD D) (s : ByteArray) : runD D s = langD D (bytesTo s s.size) := by
  unfold runD
  rw [rightD_iff.2 h]
  rfl
theorem ex_or1 : runD (bothD orB wA wB) ⟨#[97]⟩ = true := by
  have e : bytesTo ⟨#[97]⟩ (⟨#[97]⟩ : ByteArray).size = [97] := by rfl
  rw [ex_run (bothD_right wA_right wB_right wAB_pairs), e, bothD_lang wA_right wB_right wAB_pairs (bytes_one (by omega)), wA_lang (bytes_one (by omega)), wB_lang (bytes_one (by omega))]
  rfl
theorem ex_or2 : runD (bothD orB wA wB) ⟨#[98]⟩ = true := by
  have e : bytesTo ⟨#[98]⟩ (⟨#[98]⟩ : ByteArray).size = [98] := by rfl
  rw [ex_run (bothD_right wA_right wB_right wAB_pairs), e, bothD_lang wA_right wB_right wAB_pairs (bytes_one (by omega)), wA_lang (bytes_one (by omega)), wB_lang (bytes_one (by omega))]
  rfl
theorem ex_or3 : runD (bothD orB wA wB) ⟨#[]⟩ = false := by
  have e : bytesTo ⟨#[]⟩ (⟨#[]⟩ : ByteArray).size = [] := by rfl
  rw [ex_run (bothD_right wA_right wB_right wAB_pairs), e, bothD_lang wA_right wB_right wAB_pairs .nil, wA_lang .nil, wB_lang .nil]
  rfl
theorem ex_not : runD (notC wA) ⟨#[]⟩ = true := by
  have e : bytesTo ⟨#[]⟩ (⟨#[]⟩ : ByteArray).size = [] := by rfl
  rw [ex_run (notC_right wA_right), e, notC_lang wA_right .nil, wA_lang .nil]
  rfl
theorem ex_pairs : pairsC wA wA = 3 := by
  have h1 : wA.next.length = 3 := by simp [wA, wordD]
  have hm := mbP_meet wA wA
  have ha := pairsL_all wA_right wA_right
  have hst : ∀ u, Bytes u → paP wA wA u = (stW [97] u, stW [97] u) := fun u hu => by
    unfold paP
    rw [show wA.aut.at_ wA.blk u = stW [97] u from wordD_at (bytes_one (by omega)) _ u rfl hu]
  have hlen : (pairsL wA wA).length = 3 := by
    refine Nat.le_antisymm ?_ ?_
    · refine nodup_sub (pairsL wA wA) [(0, 0), (1, 1), (2, 2)] (pairsF_nodup _ _ _) fun p hp => ?_
      obtain ⟨u, hu, rfl⟩ := pairsF_reach hm p hp
      have hlt := (ha.lt _ hp).1
      rw [hst u hu] at hlt ⊢
      rw [h1] at hlt
      generalize stW [97] u = n at *
      match n, hlt with
      | 0, _ => simp
      | 1, _ => simp
      | 2, _ => simp
    · refine nodup_sub [(0, 0), (1, 1), (2, 2)] (pairsL wA wA) (by decide) fun p hp => ?_
      have key : ∀ u, Bytes u → (stW [97] u, stW [97] u) ∈ pairsL wA wA := fun u hu => by
        rw [← hst u hu]
        exact paP_in hm ha hu
      have e0 := key [] .nil
      have e1 := key [97] (bytes_one (by omega))
      have e2 := key [98] (bytes_one (by omega))
      simp only [List.mem_cons, List.not_mem_nil, or_false] at hp
      rcases hp with rfl | rfl | rfl
      · exact e0
      · exact e1
      · exact e2
  unfold pairsC
  rw [rightD_iff.2 wA_right, hlen]
  rfl
end Go.Proofs.YtmmlakheimfijaaGreatDoor
