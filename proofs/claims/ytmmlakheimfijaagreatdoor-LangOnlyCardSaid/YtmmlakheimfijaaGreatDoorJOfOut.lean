/-
  The walk of least's key: numbers as a text, no two lists alike. Conditions: the table of powers lies as laid.
  The closures of least.Of: what comes of a class. Conditions: the classes, the table and the rows lie in memory.
  Plain words for the walk of least.Of: tables that fill up step by step. Conditions: each lemma says its own.
  What least.Of keeps in memory, step by step. Conditions: each lemma says its own.
  What least.Of puts out, in memory; which classes are met. Conditions: each lemma says its own.
-/
import Derived.Test.YtmmlakheimfijaaGreatDoorJAuShelf
import Derived.Test.YtmmlakheimfijaaGreatDoorJAuCls
import Derived.Test.YtmmlakheimfijaaGreatDoorJDfa
import Derived.Lib.ItoaLen
import Derived.WalkSmall
import Derived.Test.YtmmlakheimfijaaGreatDoorJMem
namespace Go.Proofs.YtmmlakheimfijaaGreatDoor
set_option linter.unusedVariables false
set_option linter.unusedSimpArgs false
open Go.RowKit Go.Maps Go.Sort Go.ChangeShapes Go.WideShapes

/-! plain words -/
theorem dec_in : ∀ (n u : Nat), u ≤ n → ∀ b ∈ Lib.decDigits u, b ≠ 32
  | n, u, hu, b, hb => by
    rw [Lib.decDigits] at hb
    split at hb
    · obtain rfl := List.mem_singleton.1 hb
      intro e
      have := congrArg UInt8.toNat e
      rw [UInt8.toNat_ofNat'] at this
      simp at this
      omega
    · rename_i h
      rcases List.mem_append.1 hb with h1 | h1
      · match n with
        | 0 => omega
        | n + 1 => exact dec_in n (u / 10) (by omega) b h1
      · obtain rfl := List.mem_singleton.1 h1
        intro e
        have := congrArg UInt8.toNat e
        rw [UInt8.toNat_ofNat'] at this
        simp at this
        omega
def valT (l : List UInt8) : Nat := l.foldl (fun a b => a * 10 + (b.toNat - 48)) 0
theorem val_dec : ∀ (n u : Nat), u ≤ n → valT (Lib.decDigits u) = u
  | n, u, hu => by
    rw [Lib.decDigits]
    split
    · simp only [valT, List.foldl_cons, List.foldl_nil, UInt8.toNat_ofNat']
      omega
    · rename_i h
      have ih : valT (Lib.decDigits (u / 10)) = u / 10 := match n with
        | 0 => by omega
        | n + 1 => val_dec n (u / 10) (by omega)
      unfold valT at ih ⊢
      rw [List.foldl_append, ih]
      simp only [List.foldl_cons, List.foldl_nil, UInt8.toNat_ofNat']
      omega
theorem dec_inj {u v : Nat} (h : Lib.decDigits u = Lib.decDigits v) : u = v := by
  rw [← val_dec u u (Nat.le_refl _), h, val_dec v v (Nat.le_refl _)]
theorem split_sp : ∀ {xs ys r s : List UInt8}, (∀ b ∈ xs, b ≠ 32) → (∀ b ∈ ys, b ≠ 32) → xs ++ 32 :: r = ys ++ 32 :: s → xs = ys ∧ r = s
  | [], [], r, s, _, _, h => ⟨rfl, by simpa using h⟩
  | [], y :: ys, r, s, _, hy, h => by
    simp at h
    exact absurd h.1.symm (hy y (by simp))
  | x :: xs, [], r, s, hx, _, h => by
    simp at h
    exact absurd h.1 (hx x (by simp))
  | x :: xs, y :: ys, r, s, hx, hy, h => by
    simp at h
    obtain ⟨h1, h2⟩ := split_sp (fun b hb => hx b (by simp [hb])) (fun b hb => hy b (by simp [hb])) h.2
    exact ⟨by rw [h.1, h1], h2⟩
def keyT (l : List Nat) : List UInt8 := l.flatMap fun n => Lib.decDigits n ++ [32]
theorem keyT_cons (n : Nat) (l : List Nat) : keyT (n :: l) = Lib.decDigits n ++ 32 :: keyT l := by simp [keyT]
theorem keyT_inj : ∀ {l m : List Nat}, keyT l = keyT m → l = m
  | [], [], _ => rfl
  | [], y :: m, h => by rw [keyT_cons] at h; simp [keyT] at h
  | x :: l, [], h => by rw [keyT_cons] at h; simp [keyT] at h
  | x :: l, y :: m, h => by
    rw [keyT_cons, keyT_cons] at h
    obtain ⟨h1, h2⟩ := split_sp (dec_in x x (Nat.le_refl _)) (dec_in y y (Nat.le_refl _)) h
    rw [dec_inj h1, keyT_inj h2]
theorem keyT_snoc (l : List Nat) (n : Nat) : keyT (l ++ [n]) = keyT l ++ Lib.decDigits n ++ [32] := by simp [keyT]
theorem dec_len {n : Nat} (h : n ≤ 1000000) : (Lib.decDigits n).length ≤ 21 := by
  have := Lib.itoa_length_le (n : Int) (by omega) (by omega)
  rw [Lib.itoa] at this
  rw [if_neg (by omega)] at this
  simpa using this
theorem keyT_len : ∀ {l : List Nat}, (∀ n ∈ l, n ≤ 1000000) → (keyT l).length ≤ l.length * 22
  | [], _ => by simp [keyT]
  | n :: l, h => by
    have h1 := dec_len (h n (by simp))
    have h2 := keyT_len (l := l) fun m hm => h m (by simp [hm])
    rw [keyT_cons]
    simp only [List.length_append, List.length_cons]
    omega

/-! the table -/
def Pow10 (w : World) : Prop := Lib.TabIs Tryz.prog w "internal/strconv.uint64pow10" .u64 Lib.pow10Tab
theorem Pow10.below {w w' : World} {B : Nat} (h : Pow10 w) (hb : Below B w w') (hB : w.heap.size ≤ B) : Pow10 w' := by
  have hg : Tryz.prog.globalNamed "internal/strconv.uint64pow10" = some 1 := by kernel_rfl
  have hlt : 1 < w.heap.size := by
    unfold Pow10 Lib.TabIs World.var? at h
    rw [hg] at h
    simp only [Option.bind_some] at h
    rcases Nat.lt_or_ge 1 w.heap.size with h2 | h2
    · exact h2
    · rw [Array.getElem?_eq_none h2] at h; cases h
  exact var?_below hb hg (by omega) h
theorem atF_below {T e : TypeId} {B b : Nat} {p : Value} {bs : List Value} {W W' : World} (h : Lib.BuilderAtF T e B b p bs W) (hb : Below W.heap.size W W') : Lib.BuilderAtF T e B b p bs W' := by
  have hlt := h.lt
  obtain ⟨hB, v, hv, hown, hne⟩ := h
  exact ⟨hB, v, (hb.block b hlt).trans hv, hown.kept (row := none) ⟨hb.os, hb.tape, hb.output, hb.size, fun k hk _ => hb.block k hk⟩ (Classical.em _), hne⟩
theorem isF_below {T e : TypeId} {B b : Nat} {bs : List Value} {W W' : World} (h : Lib.IsBuilderF T e B b bs W) (hb : Below W.heap.size W W') : Lib.IsBuilderF T e B b bs W' :=
  h.elim (fun x => .inl (atF_below x hb)) (fun x => .inr (atF_below x hb))

set_option maxRecDepth 1000000 in
set_option maxHeartbeats 4000000 in
theorem key_any (v : Value) (l : List Nat) (w : World) (h : NatsAt w v l) (hl : l.length ≤ 1000000) (hs : ∀ n ∈ l, n ≤ 1000000) (hT : Pow10 w) :
    Calls Tryz.prog 49 #[v] w fun e w' => e = .returned (.string ⟨(keyT l).toArray⟩) ∧ Below w.heap.size w w' := by
  obtain ⟨a, cap, rfl, -⟩ := id h
  have hfr := Lib.IsBuilderF.of (Lib.fresh_isBuilder 117 5 w)
  have H := Lib.hid (And.intro h (And.intro hs (And.intro hT hfr)))
  clear h hs hT hfr
  go_enter Tryz.func49, Tryz.ntmps49
  go_wp2_with fail
  go_loopw [5, 8] (fun _ c wr => ∃ j : Nat, j ≤ l.length ∧ c = .int .i64 j ∧ Lib.IsBuilderF 117 5 w.heap.size w.heap.size (Lib.byteCells (keyT (l.take j))) wr ∧ Below w.heap.size w wr ∧ w.heap.size < wr.heap.size) (fun _ c _ => l.length - (intOf c).toNat)
  case atStart => exact ⟨0, by omega, rfl, H.out.2.2.2, (Below.refl _ _).alloc (Nat.le_refl _) _, by simp⟩
  case round =>
    obtain ⟨j, hj, rfl, hI, hb, hz⟩ := hrel
    have hkl := keyT_len (l := l.take j) fun n hn => H.out.2.1 n (List.mem_of_mem_take hn)
    rw [List.length_take] at hkl
    have hmin : min j l.length ≤ 1000000 := by omega
    by_cases hlt : j < l.length
    · obtain ⟨n, hx⟩ : ∃ n, l[j]? = some n := ⟨_, List.getElem?_eq_getElem hlt⟩
      have hn6 := H.out.2.1 n (List.mem_of_getElem? hx)
      obtain ⟨b, off, rfl, m0⟩ := (H.out.1.below hb).get hx
      have hdl := dec_len hn6
      have hno : keyT (l.take (j + 1)) = keyT (l.take j) ++ Lib.decDigits n ++ [32] := by
        have ht : l.take (j + 1) = l.take j ++ [n] := by rw [List.take_add_one, hx]; rfl
        rw [ht, keyT_snoc]
      have hito := strconv_Itoa n (by omega) (by omega) wr (H.out.2.2.1.below hb (Nat.le_refl _))
      have hio : Lib.itoa (n : Int) = Lib.decDigits n := by rw [Lib.itoa, if_neg (by omega)]; simp
      rw [hio] at hito
      have HX := Lib.hid (And.intro hno (And.intro hI hb))
      clear hx hno hio hI hb
      go_wp2_with fail
      refine hito.mono ?_
      rintro e w2 ⟨rfl, k2, os2, hw2⟩
      have b2 : Below wr.heap.size wr w2 := by
        rw [hw2]
        exact (below_regrownN wr k2).grown (row := none) ⟨rfl, rfl, rfl, by simp, fun k hk _ => heap_grow_old _ _ hk⟩ (below_regrownN wr k2).size (fun k e => by cases e)
      have I2 := isF_below HX.out.2.1 b2
      have B2 := HX.out.2.2.trans (b2.mono (by omega))
      have hz2 := b2.size
      clear hw2 b2 hito m0
      have hsz : (⟨(Lib.decDigits n).toArray⟩ : ByteArray).size = (Lib.decDigits n).length := by show (Lib.decDigits n).toArray.size = _; simp
      have hws := Builder_WriteString_k w.heap.size w.heap.size _ ⟨(Lib.decDigits n).toArray⟩ w2 I2 (by rw [hsz]; simp [Lib.byteCells]; omega) (by omega)
      clear I2
      go_wp2_with fail
      refine hws.mono ?_
      rintro e w3 ⟨rfl, h3, b3, -⟩
      have B3 := B2.trans b3
      have hz3 := b3.size
      have h3' : Lib.BuilderAtF 117 5 w.heap.size w.heap.size (.pointer (some ⟨w.heap.size, 0, none⟩)) (Lib.byteCells (keyT (l.take j) ++ Lib.decDigits n)) w3 := by
        rw [Lib.strCells_eq] at h3
        have e1 : (⟨(Lib.decDigits n).toArray⟩ : ByteArray).data.toList = Lib.decDigits n := by simp
        rw [e1, ← Lib.byteCells_append] at h3
        exact h3
      have hwb := Builder_WriteByte_k w.heap.size w.heap.size _ 32 w3 (.inr h3') (by simp [Lib.byteCells]; omega) (by omega)
      clear h3 h3' b3 B2 hws
      go_wp2_with fail
      refine hwb.mono ?_
      rintro e w4 ⟨rfl, h4, b4, -⟩
      have B4 := B3.trans b4
      have hz4 := b4.size
      have h4' : Lib.IsBuilderF 117 5 w.heap.size w.heap.size (Lib.byteCells (keyT (l.take (j + 1)))) w4 := by
        rw [HX.out.1, Lib.byteCells_append]
        exact .inr h4
      clear h4 b4 B3 hwb
      go_wp2_with fail
      go_roundw
      case rel => exact ⟨j + 1, by omega, by go_num, h4', B4, by omega⟩
      case measure => simp [intOf]; omega
    · obtain rfl : j = l.length := by omega
      rw [List.take_length] at hI
      have HI := Lib.hid (And.intro hI hb)
      clear hI hb
      go_wp2_with fail
      refine (Builder_String_any_k w.heap.size w.heap.size _ wr HI.out.1 (by omega)).mono ?_
      rintro e w2 ⟨rfl, -, b2, -⟩
      have HB := Lib.hid (HI.out.2.trans b2)
      clear b2
      go_wp2_with fail
      go_ret
      exact ⟨rfl, HB.out⟩
end Go.Proofs.YtmmlakheimfijaaGreatDoor
namespace Go.Proofs.YtmmlakheimfijaaGreatDoor
set_option linter.unusedVariables false
set_option linter.unusedSimpArgs false
open Go.RowKit Go.Maps Go.Sort Go.ChangeShapes Go.WideShapes

/-- what the closure next reads -/
structure Env (w : World) (dB cB mB m n : Nat) (st fv bv nv cv : Value) (nxt : List (List Nat)) (cls one : Nat → Nat) (B : Nat) : Prop where
  box : Blk w dB 26 #[st, fv, bv, nv]
  rows : RowsAt w nv nxt fun _ => True
  cvar : Blk w cB 23 #[cv]
  cls : w.ownsRow B 3 1 cv nxt.length (clsCells cls nxt.length)
  mvar : Blk w mB 71 #[.map (some m)]
  tab : TabAt w m n one
theorem Env.below {w w' : World} {dB cB mB m n : Nat} {st fv bv nv cv : Value} {nxt : List (List Nat)} {cls one : Nat → Nat} {B : Nat} (h : Env w dB cB mB m n st fv bv nv cv nxt cls one B) (hb : Below w.heap.size w w') : Env w' dB cB mB m n st fv bv nv cv nxt cls one B where
  box := h.box.below hb h.box.lt
  rows := h.rows.below hb
  cvar := h.cvar.below hb h.cvar.lt
  cls := own_only h.cls (Only.of_below (S := []) hb) (by simp)
  mvar := h.mvar.below hb h.mvar.lt
  tab := h.tab.below hb h.tab.lt
theorem clsCells_at {f : Nat → Nat} {M x : Nat} (h : x < M) : (clsCells f M)[x]? = some (.int .i64 (f x : Int)) := by simp [clsCells, h]

set_option maxHeartbeats 8000000 in
set_option maxRecDepth 100000 in
theorem onext_any (w : World) (dB cB mB m n : Nat) (st fv bv nv cv : Value) (nxt : List (List Nat)) (cls one : Nat → Nat) (B wide c k : Nat) (h : Env w dB cB mB m n st fv bv nv cv nxt cls one B) (ho : NxtOk nxt wide) (h1 : one c < nxt.length) (h2 : k < wide) (h3 : nxt.length ≤ 1000000) (h4 : wide ≤ 1000000) (h5 : c ≤ 1000000) :
    Calls Tryz.prog 47 #[.int .i64 c, .int .i64 k, .pointer (some ⟨cB, 0, none⟩), .pointer (some ⟨dB, 0, none⟩), .pointer (some ⟨mB, 0, none⟩)] w fun e w' => e = .returned (.int .i64 (cls (nxtF nxt (one c) k))) ∧ Below w.heap.size w w' := by
  obtain ⟨x, hx⟩ : ∃ x, one c = x := ⟨_, rfl⟩
  rw [hx] at h1
  obtain ⟨l, hl⟩ : ∃ l, nxt[x]? = some l := ⟨_, List.getElem?_eq_getElem h1⟩
  obtain ⟨b, off, cap, a, cc, rfl, m0, hla⟩ := h.rows.get hl
  have hlw := (ho.row x l hl).1
  obtain ⟨y, hy⟩ : ∃ y, l[k]? = some y := ⟨_, List.getElem?_eq_getElem (by omega)⟩
  have hyn := (ho.row x l hl).2 y (List.mem_of_getElem? hy)
  obtain ⟨b2, o2, rfl, m1⟩ := hla.get hy
  have he : nxtF nxt (one c) k = y := by
    have e1 : nxt.getD x [] = l := by rw [List.getD_eq_getElem?_getD, hl]; rfl
    rw [hx]
    unfold nxtF
    rw [e1, List.getD_eq_getElem?_getD, hy]; rfl
  rw [he]
  obtain ⟨ac, kc, rfl⟩ := own_shape h.cls
  obtain ⟨gc, capc, hec, -, hgc⟩ := h.cls.form (by omega)
  have hec' : ac = some ⟨gc, 0, none⟩ := by simpa using (Value.slice.inj hec).1
  subst hec'
  have m2 := h.cls.cellAt y (by omega)
  rw [clsCells_at hyn] at m2
  have y3 := h.box.c4.1.2.2.2
  have v0 := h.cvar.cell 0
  have v1 := h.mvar.cell 0
  simp only [List.getElem?_toArray, List.getElem?_cons_zero] at v0 v1
  have hlook : ∀ d os, (Instr.lookup 71 (.map (some m)) (.int .i64 (c : Int)) false).run Tryz.prog (Sort.grow (redrawn w d) os) = .ok (.int .i64 (x : Int)) (Sort.grow (redrawn w d) os) := fun d os => by
    have := (h.tab.below (below_regrown w d os) h.tab.lt).look (x := c) (by unfold maxLen; omega)
    rw [hx] at this
    exact this
  have lc : ∀ {p : Addr} {v : Value}, w.cell? p = some v → ∀ d os, (Sort.grow (redrawn w d) os).cell? p = some v := fun {p v} hp d os => ((below_regrown w d os).cell (World.block_lt_of_cell? w p hp)).trans hp
  have q0 := lc m0
  have q1 := lc m1
  have q2 := lc m2
  have q3 := lc y3
  have q4 := lc v0
  have q5 := lc v1
  rw [hlw] at q0
  clear lc m0 m1 m2 y3 v0 v1 hl hy he hx hla h ho hec
  obtain ⟨z, hz⟩ : ∃ z, cls y = z := ⟨_, rfl⟩
  rw [hz] at q2
  rw [hz]
  clear hz
  go_enter Tryz.func47, Tryz.ntmps47
  go_wp2_with fail
  refine wp_region_quiet_below (by kernel_rfl) (by kernel_rfl) ?_
  repeat (go_big_quiet_step (fail))
  refine wpQuiet_nil ?_
  intro _ hw'
  obtain ⟨⟨dq, osq⟩, hw''⟩ := hw'
  subst hw''
  have bb : Below w.heap.size w (Sort.grow (redrawn w dq) osq) := below_regrown w dq osq
  generalize Sort.grow (redrawn w dq) osq = w2 at *
  clear q0 q1 q2 q3 q4 q5 hlook
  go_wp2_with fail
  go_ret
  exact ⟨rfl, bb⟩
set_option maxHeartbeats 8000000 in
set_option maxRecDepth 100000 in
/-- the closure Of$2 -/
theorem ostep_any (w : World) (dB cB mB nB bB c k x z : Nat) (av : Option Addr) (bl : List Nat) (cap : Nat) (hk : bl[k]? = some x) (hc : c ≤ 1000000) (hl : bl.length ≤ 1000000) (hx : x ≤ 1000000)
    (hn : Blk w nB 50 #[.func (.func 47) #[] #[.pointer (some ⟨cB, 0, none⟩), .pointer (some ⟨dB, 0, none⟩), .pointer (some ⟨mB, 0, none⟩)]])
    (hb : Blk w bB 23 #[.slice av bl.length cap]) (hbl : NatsAt w (.slice av bl.length cap) bl)
    (hnext : ∀ d os, Calls Tryz.prog 47 #[.int .i64 c, .int .i64 x, .pointer (some ⟨cB, 0, none⟩), .pointer (some ⟨dB, 0, none⟩), .pointer (some ⟨mB, 0, none⟩)] (Sort.grow (redrawn w d) os) fun e w' => e = .returned (.int .i64 z) ∧ Below (Sort.grow (redrawn w d) os).heap.size (Sort.grow (redrawn w d) os) w') :
    Calls Tryz.prog 51 #[.int .i64 c, .int .i64 k, .pointer (some ⟨nB, 0, none⟩), .pointer (some ⟨bB, 0, none⟩)] w fun e w' => e = .returned (.int .i64 z) ∧ Below w.heap.size w w' := by
  have hkl := (List.getElem?_eq_some_iff.1 hk).1
  obtain ⟨b2, o2, rfl, m1⟩ := hbl.get hk
  have v0 := hn.cell 0
  have v1 := hb.cell 0
  simp only [List.getElem?_toArray, List.getElem?_cons_zero] at v0 v1
  have lc : ∀ {p : Addr} {v : Value}, w.cell? p = some v → ∀ d os, (Sort.grow (redrawn w d) os).cell? p = some v := fun {p v} hp d os => ((below_regrown w d os).cell (World.block_lt_of_cell? w p hp)).trans hp
  have q0 := lc m1
  have q1 := lc v0
  have q2 := lc v1
  clear lc m1 v0 v1 hn hb hbl hk
  go_enter Tryz.func51, Tryz.ntmps51
  go_wp2_with fail
  refine wp_region_quiet_below (by kernel_rfl) (by kernel_rfl) ?_
  repeat (go_big_quiet_step (fail))
  go_big_quiet_step ((go_at_call 47; exact Calls.regrown_of (hnext _ _)))
  repeat (go_big_quiet_step (fail))
  refine wpQuiet_nil ?_
  intro _ hw'
  obtain ⟨⟨dq, osq⟩, hw''⟩ := hw'
  subst hw''
  have bb : Below w.heap.size w (Sort.grow (redrawn w dq) osq) := below_regrown w dq osq
  generalize Sort.grow (redrawn w dq) osq = w2 at *
  clear q0 q1 q2 hnext
  go_wp2_with fail
  go_ret
  exact ⟨rfl, bb⟩
end Go.Proofs.YtmmlakheimfijaaGreatDoor
namespace Go.Proofs.YtmmlakheimfijaaGreatDoor
set_option linter.unusedVariables false
set_option linter.unusedSimpArgs false
open Go.RowKit Go.Maps Go.Sort Go.ChangeShapes Go.WideShapes

/-! one state of each class -/
def oneF (cls : Nat → Nat) (R : List Nat) : Nat → Nat := R.foldl (fun f n => fun z => if z = cls n then n else f z) fun _ => 0
theorem oneF_snoc (cls : Nat → Nat) (R : List Nat) (n : Nat) : oneF cls (R ++ [n]) = fun z => if z = cls n then n else oneF cls R z := by simp [oneF]
theorem one_fold {cls : Nat → Nat} {S : Nat → Prop} {c : Nat} : ∀ (R : List Nat) (f : Nat → Nat), (∀ n ∈ R, S n) → ((∃ n ∈ R, cls n = c) ∨ (S (f c) ∧ cls (f c) = c)) →
    S (R.foldl (fun f n => fun z => if z = cls n then n else f z) f c) ∧ cls (R.foldl (fun f n => fun z => if z = cls n then n else f z) f c) = c
  | [], f, _, h => by
    rcases h with ⟨n, hn, _⟩ | h
    · cases hn
    · exact h
  | n :: R, f, hS, h => by
    rw [List.foldl_cons]
    refine one_fold R _ (fun m hm => hS m (by simp [hm])) ?_
    by_cases e : c = cls n
    · right
      show S (if c = cls n then n else f c) ∧ cls (if c = cls n then n else f c) = c
      rw [if_pos e]
      exact ⟨hS n (by simp), e.symm⟩
    · rcases h with ⟨m, hm, hc⟩ | h
      · rcases List.mem_cons.1 hm with rfl | hm
        · exact absurd hc.symm e
        · exact .inl ⟨m, hm, hc⟩
      · right
        show S (if c = cls n then n else f c) ∧ cls (if c = cls n then n else f c) = c
        rw [if_neg e]
        exact h
theorem oneF_ok {cls : Nat → Nat} {R : List Nat} {c : Nat} (h : ∃ n ∈ R, cls n = c) : oneF cls R c ∈ R ∧ cls (oneF cls R c) = c :=
  one_fold (S := (· ∈ R)) R _ (fun n hn => hn) (.inl h)
theorem oneF_lt {cls : Nat → Nat} {M : Nat} : ∀ (R : List Nat) (c : Nat), (∀ n ∈ R, n < M) → 0 < M → oneF cls R c < M := by
  intro R c hR h0
  unfold oneF
  have : ∀ (R : List Nat) (f : Nat → Nat), (∀ n ∈ R, n < M) → (∀ z, f z < M) → ∀ z, R.foldl (fun f n => fun z => if z = cls n then n else f z) f z < M := by
    intro R
    induction R with
    | nil => intro f _ hf z; exact hf z
    | cons n R ih =>
      intro f hR hf z
      rw [List.foldl_cons]
      refine ih _ (fun m hm => hR m (by simp [hm])) (fun z => ?_) z
      show (if z = cls n then n else f z) < M
      split
      · exact hR n (by simp)
      · exact hf z
  exact this R _ hR (fun _ => h0) c

/-! columns and their numbers -/
section
variable {d : Aut} {cls one : Nat → Nat} {many : Nat}
theorem blocksC_succ (k : Nat) : blocksC d cls one many (k + 1) = addR (eqC d cls one many) (blocksC d cls one many k) k := by simp [blocksC, List.range_succ]
theorem blocksC_le : ∀ k, (blocksC d cls one many k).length ≤ k ∧ ∀ x ∈ blocksC d cls one many k, x < k
  | 0 => by simp [blocksC]
  | k + 1 => by
    obtain ⟨h1, h2⟩ := blocksC_le k
    rw [blocksC_succ, addR]
    split
    · exact ⟨by omega, fun x hx => by have := h2 x hx; omega⟩
    · refine ⟨by simp; omega, fun x hx => ?_⟩
      rcases List.mem_append.1 hx with hx | hx
      · have := h2 x hx; omega
      · obtain rfl := List.mem_singleton.1 hx; omega
theorem blocksC_pre (k j : Nat) : ∃ t, blocksC d cls one many (k + j) = blocksC d cls one many k ++ t := by
  induction j with
  | zero => exact ⟨[], by simp⟩
  | succ j ih =>
    obtain ⟨t, ht⟩ := ih
    obtain ⟨t', ht'⟩ := addR_pre (eqC d cls one many) (blocksC d cls one many (k + j)) (k + j)
    exact ⟨t ++ t', by rw [← Nat.add_assoc, blocksC_succ, ht', ht, List.append_assoc]⟩
theorem blocksC_any {k n : Nat} (h : k < n) : (blocksC d cls one many n).any (eqC d cls one many k) = true := foldR_any eqC_refl _ _ k (by simpa using h)
theorem mergedC_at {k n : Nat} (h : k < n) : mergedC d cls one many n k = idxR (eqC d cls one many) (blocksC d cls one many (k + 1)) k := by
  obtain ⟨t, ht⟩ := blocksC_pre (d := d) (cls := cls) (one := one) (many := many) (k + 1) (n - (k + 1))
  rw [show k + 1 + (n - (k + 1)) = n by omega] at ht
  unfold mergedC
  rw [ht, idxR_pre t (blocksC_any (by omega))]
def colT (d : Aut) (cls one : Nat → Nat) (many k : Nat) : List UInt8 := keyT (colL d cls one many k)
def keysC (d : Aut) (cls one : Nat → Nat) (many k : Nat) : List (List UInt8) := (blocksC d cls one many k).map (colT d cls one many)
theorem eqC_colT (k j : Nat) : eqC d cls one many k j = decide (colT d cls one many k = colT d cls one many j) := by
  unfold eqC colT
  apply Bool.eq_iff_iff.2
  simp only [decide_eq_true_eq]
  exact ⟨fun h => by rw [h], fun h => keyT_inj h⟩
theorem addT_addR (ks : List (List UInt8)) (x : List UInt8) : addT ks x = addR (fun a b => decide (a = b)) ks x := by
  unfold addT addR
  have : (ks.any fun b => decide (x = b)) = true ↔ x ∈ ks := by simp
  by_cases h : x ∈ ks
  · rw [if_pos h, if_pos (this.2 h)]
  · rw [if_neg h, if_neg fun h2 => h (this.1 h2)]
theorem keysC_succ (k : Nat) : keysC d cls one many (k + 1) = addT (keysC d cls one many k) (colT d cls one many k) := by
  unfold keysC
  rw [blocksC_succ, addT_addR]
  exact addR_map (colT d cls one many) fun y _ => eqC_colT k y
theorem numOf_keysC (k : Nat) : numOf (keysC d cls one many k) (colT d cls one many k) = idxR (eqC d cls one many) (blocksC d cls one many k) k :=
  idxR_map (E' := fun a b => decide (a = b)) (colT d cls one many) fun y _ => eqC_colT k y
/-- the number of a column: an old one's, or the next -/
theorem merged_old {k : Nat} (h : (blocksC d cls one many k).any (eqC d cls one many k) = true) : blocksC d cls one many (k + 1) = blocksC d cls one many k ∧ numOf (keysC d cls one many k) (colT d cls one many k) < (blocksC d cls one many k).length := by
  rw [numOf_keysC, blocksC_succ, addR, if_pos h]
  exact ⟨rfl, idxR_lt h⟩
theorem merged_new {k : Nat} (h : ¬ (blocksC d cls one many k).any (eqC d cls one many k) = true) : blocksC d cls one many (k + 1) = blocksC d cls one many k ++ [k] ∧ numOf (keysC d cls one many k) (colT d cls one many k) = (blocksC d cls one many k).length := by
  rw [numOf_keysC, blocksC_succ, addR, if_neg h]
  refine ⟨rfl, ?_⟩
  unfold idxR
  exact List.findIdx_eq_length.2 fun y hy => by
    cases he : eqC d cls one many k y with
    | false => rfl
    | true => exact absurd (List.any_eq_true.2 ⟨y, hy, he⟩) h
theorem merged_is {k n : Nat} (h : k < n) : mergedC d cls one many n k = numOf (keysC d cls one many k) (colT d cls one many k) := by
  rw [mergedC_at h]
  by_cases ha : (blocksC d cls one many k).any (eqC d cls one many k) = true
  · rw [numOf_keysC, (merged_old ha).1]
  · rw [(merged_new ha).2, (merged_new ha).1, idxR_new (eqC_refl k) [] ha]
/-- the numbers up to k -/
def mgF (d : Aut) (cls one : Nat → Nat) (many wide k j : Nat) : Nat := if j < k then mergedC d cls one many wide j else 0
end

/-! a row of numbers, one set -/
theorem clsCells_len (f : Nat → Nat) (M : Nat) : (clsCells f M).length = M := by simp [clsCells]
theorem clsCells_set {f g : Nat → Nat} {M x y : Nat} (hx : x < M) (hg : ∀ z, z < M → g z = if z = x then y else f z) : (clsCells f M).set x (.int .i64 (y : Int)) = clsCells g M := by
  refine List.ext_getElem? fun i => ?_
  by_cases hi : i < M
  · rw [clsCells_at hi, hg i hi]
    by_cases e : i = x
    · subst e
      rw [List.getElem?_set_self (by rw [clsCells_len]; exact hi), if_pos rfl]
    · rw [List.getElem?_set_ne (fun h => e h.symm), clsCells_at hi, if_neg e]
  · rw [List.getElem?_eq_none (by rw [List.length_set, clsCells_len]; omega), List.getElem?_eq_none (by rw [clsCells_len]; omega)]
theorem clsCells_zero (M : Nat) : (madeCells (Value.int .i64 0).cells (M * 1)).toList = clsCells (fun _ => 0) M := by
  show (madeCells #[Value.int .i64 0] (M * 1)).toList = _
  rw [toList_madeCells_one]
  refine List.ext_getElem? fun i => ?_
  simp [clsCells, List.getElem?_replicate, List.getElem?_range]
  by_cases h : i < M
  · simp [h, List.getElem?_range h]
  · simp [h]
theorem clsCells_congr {f g : Nat → Nat} {M : Nat} (h : ∀ z, z < M → f z = g z) : clsCells f M = clsCells g M := by
  unfold clsCells
  exact List.map_congr_left fun x hx => by rw [h x (by simpa using hx)]
theorem clsCells_nats (f : Nat → Nat) (M : Nat) : clsCells f M = natCells ((List.range M).map f) := by simp [clsCells, natCells, Function.comp_def]

/-! places in the order -/
def atF (o : List Nat) (i c : Nat) : Nat := if idxR (fun a b => decide (a = b)) o c < i then idxR (fun a b => decide (a = b)) o c else 0
theorem idx_nodup {o : List Nat} (hn : o.Nodup) {i c : Nat} (h : o[i]? = some c) : idxR (fun a b => decide (a = b)) o c = i := by
  have hm := List.mem_of_getElem? h
  have ha : o.any (fun b => decide (c = b)) = true := List.any_eq_true.2 ⟨c, hm, by simp⟩
  have hl := idxR_lt (E := fun a b => decide (a = b)) ha
  obtain ⟨y, hy⟩ : ∃ y, o[idxR (fun a b => decide (a = b)) o c]? = some y := ⟨_, List.getElem?_eq_getElem hl⟩
  have hcy := of_decide_eq_true (idxR_at (E := fun a b => decide (a = b)) ha hy)
  subst hcy
  exact (List.getElem?_inj hl hn).1 (hy.trans h.symm)
theorem atF_succ {o : List Nat} (hn : o.Nodup) {i c : Nat} (h : o[i]? = some c) (z : Nat) : atF o (i + 1) z = if z = c then i else atF o i z := by
  have hc := idx_nodup hn h
  by_cases e : z = c
  · subst e
    rw [if_pos rfl, atF, hc, if_pos (by omega)]
  · rw [if_neg e]
    unfold atF
    by_cases e2 : idxR (fun a b => decide (a = b)) o z = i
    · -- then z would be c
      have ha : o.any (fun b => decide (z = b)) = true := by
        have hi := (List.getElem?_eq_some_iff.1 h).1
        rw [List.any_eq_true]
        have hlt : idxR (fun a b => decide (a = b)) o z < o.length := by omega
        unfold idxR at hlt
        exact List.findIdx_lt_length.1 hlt
      rw [← e2] at h
      exact absurd (of_decide_eq_true (idxR_at (E := fun a b => decide (a = b)) ha h)) e
    · by_cases e3 : idxR (fun a b => decide (a = b)) o z < i
      · rw [if_pos (by omega), if_pos e3]
      · rw [if_neg (by omega), if_neg e3]
theorem atF_all {o : List Nat} {c : Nat} (h : c ∈ o) : atF o o.length c = idxR (fun a b => decide (a = b)) o c := by
  unfold atF
  rw [if_pos (idxR_lt (List.any_eq_true.2 ⟨c, h, by simp⟩))]
end Go.Proofs.YtmmlakheimfijaaGreatDoor
namespace Go.Proofs.YtmmlakheimfijaaGreatDoor
set_option linter.unusedVariables false
set_option linter.unusedSimpArgs false
open Go.RowKit Go.Maps Go.Sort Go.ChangeShapes Go.WideShapes

theorem own_ne {w : World} {B B' : Nat} {e e' : TypeId} {s s' n n' : Nat} {v v' : Value} {xs xs' : List Value} (h : w.ownsRow B e s v n xs) (h' : w.ownsRow B' e' s' v' n' xs') (hne : e ≠ e') : ∀ g, v.ownBlock = some g → v'.ownBlock ≠ some g := by
  intro g hg hg'
  rcases h.2 with ⟨rfl, _⟩ | ⟨k, cap, cur, rfl, -, h1, -⟩
  · cases hg
  rcases h'.2 with ⟨rfl, _⟩ | ⟨k', cap', cur', rfl, -, h2, -⟩
  · cases hg'
  obtain rfl : k = g := Option.some.inj hg
  obtain rfl : k' = k := Option.some.inj hg'
  rw [h1] at h2
  injection h2 with h2
  injection h2 with _ h3
  exact hne h3
theorem NumAt.ne_blk {w : World} {b n g : Nat} {ks : List (List UInt8)} {t : TypeId} {cs : Array Value} (h : NumAt w b n ks) (hg : Blk w g t cs) : b ≠ g := by
  obtain ⟨D, h1, -⟩ := h
  exact blk_map_ne h1 hg
theorem NumAt.ne_own {w : World} {b n B k : Nat} {ks : List (List UInt8)} {e : TypeId} {v : Value} {xs : List Value} (h : NumAt w b n ks) (hv : w.ownsRow B e 1 v k xs) : v.ownBlock ≠ some b := by
  obtain ⟨D, ⟨es, clock, h1, -⟩, -⟩ := h
  intro hb
  rcases hv.2 with ⟨rfl, _⟩ | ⟨g, cap, cur, rfl, -, h2, -⟩
  · cases hb
  obtain rfl : g = b := Option.some.inj hb
  rw [h1] at h2
  cases h2

/-- the columns' numbers, the blocks and the merged blocks in memory -/
structure Cols (w : World) (B cB gm bB wide : Nat) (vB : Value) (bl : List Nat) (mg : Nat → Nat) (n : Nat) (ks : List (List UInt8)) : Prop where
  blk : Blk w bB 23 #[vB]
  bl : w.ownsRow B 3 1 vB bl.length (natCells bl)
  off : vB.ownBlock ≠ some gm
  mg : w.ownsRow B 3 1 (.slice (some ⟨gm, 0, none⟩) wide wide) wide (clsCells mg wide)
  num : NumAt w cB n ks
  bb : B ≤ bB
  bc : B ≤ cB
section
variable {w w' : World} {B cB gm bB wide : Nat} {vB : Value} {bl : List Nat} {mg : Nat → Nat} {n : Nat} {ks : List (List UInt8)}
theorem Cols.below (h : Cols w B cB gm bB wide vB bl mg n ks) (hb : Below w.heap.size w w') : Cols w' B cB gm bB wide vB bl mg n ks :=
  ⟨h.blk.below hb h.blk.lt, own_only h.bl (Only.of_below (S := []) hb) (by simp), h.off, own_only h.mg (Only.of_below (S := []) hb) (by simp), h.num.below hb h.num.lt, h.bb, h.bc⟩
theorem Cols.num_ {n' : Nat} {ks' : List (List UInt8)} (h : Cols w B cB gm bB wide vB bl mg n ks) (hg : w.grownBy w' (some cB)) (hn : NumAt w' cB n' ks') : Cols w' B cB gm bB wide vB bl mg n' ks' :=
  ⟨h.blk.grown hg (fun e => h.num.ne_blk h.blk (Option.some.inj e).symm), h.bl.kept hg (.inr (h.num.ne_own h.bl)), h.off, h.mg.kept hg (.inr (h.num.ne_own h.mg)), hn, h.bb, h.bc⟩
theorem Cols.bg (h : Cols w B cB gm bB wide vB bl mg n ks) : B ≤ gm ∧ gm < w.heap.size := h.mg.lt gm rfl
theorem Cols.set {k y : Nat} {mg' : Nat → Nat} (h : Cols w B cB gm bB wide vB bl mg n ks) (hk : k < wide) (hm : ∀ z, z < wide → mg' z = if z = k then y else mg z) : Cols (w.setCell ⟨gm, k, none⟩ (.int .i64 (y : Int))) B cB gm bB wide vB bl mg' n ks := by
  have hgb : gm ≠ bB := fun e => by
    have := own_blk_ne h.mg h.blk (by decide)
    exact this (by rw [e]; rfl)
  refine ⟨h.blk.far (fun e => hgb e.symm) _, own_set h.bl _ h.off, h.off, ?_, h.num.kept (grown_set w ⟨gm, k, none⟩ _) (fun e => h.num.ne_own h.mg (by rw [Option.some.inj e]; rfl)), h.bb, h.bc⟩
  have hst := (h.mg.stored k (.int .i64 (y : Int))).1
  rw [clsCells_set hk hm] at hst
  exact hst
theorem Cols.push {w3 : World} {x g cap : Nat} (h : Cols w B cB gm bB wide vB bl mg n ks) (hown : w3.ownsRow B 3 1 (.slice (some ⟨g, 0, none⟩) (bl.length + 1) cap) (bl.length + 1) (natCells bl ++ [.int .i64 (x : Int)])) (hgrow : (w.alloc (.cells #[.int .i64 (x : Int)] 3)).grownBy w3 vB.ownBlock)
    (hat : vB.ownBlock = some g ∨ g = (w.alloc (.cells #[.int .i64 (x : Int)] 3)).heap.size) : Cols (w3.setCell ⟨bB, 0, none⟩ (.slice (some ⟨g, 0, none⟩) (bl.length + 1) cap)) B cB gm bB wide (.slice (some ⟨g, 0, none⟩) (bl.length + 1) cap) (bl ++ [x]) mg n ks := by
  have hz : (w.alloc (.cells #[.int .i64 (x : Int)] 3)).heap.size = w.heap.size + 1 := by simp
  have hal := (Below.refl w.heap.size w).alloc (Nat.le_refl _) (.cells #[.int .i64 (x : Int)] 3)
  have h1 := h.below hal
  have hbv : vB.ownBlock ≠ some bB := own_blk_ne h.bl h.blk (by decide)
  have hb3 : Blk w3 bB 23 #[vB] := h1.blk.grown hgrow fun e => hbv e.symm
  have hm3 := h1.mg.kept hgrow (.inr (fun e => h.off e.symm))
  have hn3 := h1.num.kept hgrow fun e => h.num.ne_own h.bl e.symm
  have hgb : g ≠ bB := fun e => by
    have := own_blk_ne hown hb3 (by decide)
    exact this (by rw [e]; rfl)
  have hmb : gm ≠ bB := fun e => by
    have := own_blk_ne h.mg h.blk (by decide)
    exact this (by rw [e]; rfl)
  have hgm : g ≠ gm := fun e => by
    rcases hat with h2 | h2
    · exact h.off (by rw [h2, e])
    · have := h.bg.2; omega
  have hb4 := hb3.set_ 0 (.slice (some ⟨g, 0, none⟩) (bl.length + 1) cap)
  refine ⟨by simpa using hb4, ?_, fun e => hgm (Option.some.inj e), own_set hm3 _ (fun e => hmb (Option.some.inj e)), hn3.kept (grown_set _ _ _) (fun e => hn3.ne_blk hb3 (Option.some.inj e)), h.bb, h.bc⟩
  rw [natCells_snoc, List.length_append]
  exact own_set hown _ (fun e => hgb (Option.some.inj e))
end
theorem mgF_succ (d : Aut) (cls one : Nat → Nat) (many wide k : Nat) (z : Nat) : mgF d cls one many wide (k + 1) z = if z = k then mergedC d cls one many wide k else mgF d cls one many wide k z := by
  unfold mgF
  by_cases e : z = k
  · subst e; rw [if_pos (by omega), if_pos rfl]
  · rw [if_neg e]
    by_cases e2 : z < k
    · rw [if_pos (by omega), if_pos e2]
    · rw [if_neg (by omega), if_neg e2]
theorem colL_snoc (d : Aut) (cls one : Nat → Nat) (c k : Nat) : colL d cls one (c + 1) k = colL d cls one c k ++ [nextC d cls one c k] := by simp [colL, List.range_succ]
theorem colL_len (d : Aut) (cls one : Nat → Nat) (c k : Nat) : (colL d cls one c k).length = c := by simp [colL]
end Go.Proofs.YtmmlakheimfijaaGreatDoor
namespace Go.Proofs.YtmmlakheimfijaaGreatDoor
set_option linter.unusedVariables false
set_option linter.unusedSimpArgs false
open Go.RowKit Go.Maps Go.Sort Go.ChangeShapes Go.WideShapes

/-! the order -/
section
variable {d : Aut} {cls one : Nat → Nat} {many : Nat} {z : Nat → Int}
theorem orderC_mem (hc : ClsOk d cls one many) (hb : BlkOk z d.wide) (hf : Few (d.lang (blkF z))) {c : Nat} (h : c < many) : c ∈ orderC d cls one (blocksC d cls one many d.wide) := by
  obtain ⟨hr, he⟩ := hc.one c h
  obtain ⟨u, hu, e⟩ := reach_to hb.blk hr
  obtain ⟨v, hv, hve⟩ := statesL_all hf _ u rfl hu
  rw [← orderC_map hc hb]
  refine List.mem_map.2 ⟨v, hv, ?_⟩
  have h1 := clsU_eq hc hb hu (statesL_in _ v hv)
  rw [eqL_iff.2 hve] at h1
  rw [← of_decide_eq_true h1.symm]
  unfold clsU
  rw [e, he]
theorem orderC_nodup {bl : List Nat} : (orderC d cls one bl).Nodup := by
  unfold orderC
  rw [addN_eq, List.nodup_iff_pairwise_ne]
  refine (bfs_apart _ _ _ _ (List.pairwise_singleton _ _)).imp fun {a b} h e => ?_
  simp [e] at h
theorem orderC_many (hc : ClsOk d cls one many) (hb : BlkOk z d.wide) (hf : Few (d.lang (blkF z))) : (orderC d cls one (blocksC d cls one many d.wide)).length = many := by
  refine Nat.le_antisymm ?_ ?_
  · have := nodup_sub _ (List.range many) orderC_nodup fun c h => by simpa using orderC_lt hc hb c h
    simpa using this
  · have := nodup_sub (List.range many) (orderC d cls one (blocksC d cls one many d.wide)) List.nodup_range fun c h => orderC_mem hc hb hf (by simpa using h)
    simpa using this
end

/-! what is put out -/
theorem boolsAt_own {w : World} {B n : Nat} {v : Value} {l : List Bool} (h : w.ownsRow B 4 1 v n (l.map .bool)) : BoolsAt w v l.length fun i => l.getD i false := by
  have hn : l.length = n := by have := h.1; rw [List.length_map] at this; omega
  subst hn
  rcases h.2 with ⟨rfl, h0⟩ | ⟨g, cap, cur, rfl, hB, hg, -⟩
  · exact ⟨none, 0, by rw [h0], .inl h0⟩
  · refine ⟨_, cap, rfl, .inr ⟨g, 0, rfl, ?_, fun j hj => ?_⟩⟩
    · rcases Nat.lt_or_ge g w.heap.size with hlt | hge
      · exact hlt
      · rw [Array.getElem?_eq_none hge] at hg; cases hg
    · rw [Nat.zero_add, h.cellAt j (by omega), List.getElem?_map, List.getElem?_eq_getElem hj]
      show _ = some (Value.bool (l.getD j false))
      rw [List.getD_eq_getElem?_getD, List.getElem?_eq_getElem hj]
      rfl
structure Outs (w : World) (B oB gb : Nat) (fv nv : Value) (ms : List Value) (fins : List Bool) (rows : List (List Nat)) (bcs : List Value) : Prop where
  blk : Blk w oB 26 #[.int .i64 0, fv, .slice (some ⟨gb, 0, none⟩) 256 256, nv]
  fin : w.ownsRow B 4 1 fv fins.length (fins.map .bool)
  nxt : w.ownsRow B 23 1 nv rows.length ms
  row : ∀ (j : Nat) (l : List Nat), rows[j]? = some l → ∃ u, ms[j]? = some u ∧ w.ownsRow B 3 1 u l.length (natCells l)
  bls : w.ownsRow B 3 1 (.slice (some ⟨gb, 0, none⟩) 256 256) 256 bcs
  bo : B ≤ oB
section
variable {w w' : World} {B oB gb : Nat} {fv nv : Value} {ms : List Value} {fins : List Bool} {rows : List (List Nat)} {bcs : List Value}
theorem own_agree {w w2 : World} {B : Nat} {e : TypeId} {size n : Nat} {v : Value} {xs : List Value} (h : w.ownsRow B e size v n xs) (ha : ∀ k, B ≤ k → w2.heap[k]? = w.heap[k]?) : w2.ownsRow B e size v n xs := by
  refine ⟨h.1, ?_⟩
  rcases h.2 with h0 | ⟨g, cap, cur, rfl, hB, hg, h3⟩
  · exact .inl h0
  · exact .inr ⟨g, cap, cur, rfl, hB, (ha g hB).trans hg, h3⟩
theorem Outs.agree {w2 : World} (h : Outs w B oB gb fv nv ms fins rows bcs) (ha : ∀ k, B ≤ k → w2.heap[k]? = w.heap[k]?) : Outs w2 B oB gb fv nv ms fins rows bcs :=
  ⟨(ha oB h.bo).trans h.blk, own_agree h.fin ha, own_agree h.nxt ha, fun j l hj => by
    obtain ⟨u, hu, ho⟩ := h.row j l hj
    exact ⟨u, hu, own_agree ho ha⟩, own_agree h.bls ha, h.bo⟩
theorem Outs.below (h : Outs w B oB gb fv nv ms fins rows bcs) (hb : Below w.heap.size w w') : Outs w' B oB gb fv nv ms fins rows bcs :=
  ⟨h.blk.below hb h.blk.lt, own_only h.fin (Only.of_below (S := []) hb) (by simp), own_only h.nxt (Only.of_below (S := []) hb) (by simp), fun j l hj => by
    obtain ⟨u, hu, h1⟩ := h.row j l hj
    exact ⟨u, hu, own_only h1 (Only.of_below (S := []) hb) (by simp)⟩, own_only h.bls (Only.of_below (S := []) hb) (by simp), h.bo⟩
theorem Outs.pushRow {w3 : World} {u : Value} {l : List Nat} {g cap : Nat} (h : Outs w B oB gb fv nv ms fins rows bcs) (hu : w.ownsRow B 3 1 u l.length (natCells l))
    (hown : w3.ownsRow B 23 1 (.slice (some ⟨g, 0, none⟩) (rows.length + 1) cap) (rows.length + 1) (ms ++ [u])) (hgrow : (w.alloc (.cells #[u] 23)).grownBy w3 nv.ownBlock) :
    Outs (w3.setCell ⟨oB, 3, none⟩ (.slice (some ⟨g, 0, none⟩) (rows.length + 1) cap)) B oB gb fv (.slice (some ⟨g, 0, none⟩) (rows.length + 1) cap) (ms ++ [u]) fins (rows ++ [l]) bcs := by
  have hal := (Below.refl w.heap.size w).alloc (Nat.le_refl _) (.cells #[u] 23)
  have h1 := h.below hal
  have hu1 := own_only hu (Only.of_below (S := []) hal) (by simp)
  have hnb : nv.ownBlock ≠ some oB := own_blk_ne h.nxt h.blk (by decide)
  have hb3 := h1.blk.grown hgrow fun e => hnb e.symm
  have kp : ∀ {e : TypeId} {k : Nat} {v : Value} {xs : List Value}, (w.alloc (.cells #[u] 23)).ownsRow B e 1 v k xs → e ≠ 23 → e ≠ 26 → (w3.setCell ⟨oB, 3, none⟩ (.slice (some ⟨g, 0, none⟩) (rows.length + 1) cap)).ownsRow B e 1 v k xs := fun {e k v xs} ho h2 h3 => by
    have h4 : w3.ownsRow B e 1 v k xs := by
      refine own_only ho (only_grown hgrow) fun q hq hm => ?_
      have : nv.ownBlock = some q := by simpa using hm
      exact own_ne ho h1.nxt h2 q hq this
    exact own_set h4 _ (own_blk_ne h4 hb3 h3)
  have hml : ms.length = rows.length := by have := h.nxt.1; omega
  refine ⟨?_, kp h1.fin (by decide) (by decide), ?_, fun j l' hj => ?_, kp h1.bls (by decide) (by decide), h.bo⟩
  · have := hb3.set_ 3 (.slice (some ⟨g, 0, none⟩) (rows.length + 1) cap)
    simpa using this
  · rw [List.length_append]
    exact own_set hown _ (own_blk_ne hown hb3 (by decide))
  · by_cases hlt : j < rows.length
    · rw [List.getElem?_append_left hlt] at hj
      obtain ⟨v, hv, ho⟩ := h1.row j l' hj
      exact ⟨v, by rw [List.getElem?_append_left (by omega)]; exact hv, kp ho (by decide) (by decide)⟩
    · have hjl := (List.getElem?_eq_some_iff.1 hj).1
      simp at hjl
      obtain rfl : j = rows.length := by omega
      rw [List.getElem?_append_right (Nat.le_refl _), Nat.sub_self] at hj
      obtain rfl : l = l' := by simpa using hj
      exact ⟨u, by rw [← hml, List.getElem?_append_right (Nat.le_refl _), Nat.sub_self]; rfl, kp hu1 (by decide) (by decide)⟩
theorem Outs.pushFin {w3 : World} {b : Bool} {g cap : Nat} (h : Outs w B oB gb fv nv ms fins rows bcs)
    (hown : w3.ownsRow B 4 1 (.slice (some ⟨g, 0, none⟩) (fins.length + 1) cap) (fins.length + 1) (fins.map .bool ++ [.bool b])) (hgrow : (w.alloc (.cells #[.bool b] 4)).grownBy w3 fv.ownBlock) :
    Outs (w3.setCell ⟨oB, 1, none⟩ (.slice (some ⟨g, 0, none⟩) (fins.length + 1) cap)) B oB gb (.slice (some ⟨g, 0, none⟩) (fins.length + 1) cap) nv ms (fins ++ [b]) rows bcs := by
  have hal := (Below.refl w.heap.size w).alloc (Nat.le_refl _) (.cells #[.bool b] 4)
  have h1 := h.below hal
  have hnb : fv.ownBlock ≠ some oB := own_blk_ne h.fin h.blk (by decide)
  have hb3 := h1.blk.grown hgrow fun e => hnb e.symm
  have kp : ∀ {e : TypeId} {k : Nat} {v : Value} {xs : List Value}, (w.alloc (.cells #[.bool b] 4)).ownsRow B e 1 v k xs → e ≠ 4 → e ≠ 26 → (w3.setCell ⟨oB, 1, none⟩ (.slice (some ⟨g, 0, none⟩) (fins.length + 1) cap)).ownsRow B e 1 v k xs := fun {e k v xs} ho h2 h3 => by
    have h4 : w3.ownsRow B e 1 v k xs := by
      refine own_only ho (only_grown hgrow) fun q hq hm => ?_
      have : fv.ownBlock = some q := by simpa using hm
      exact own_ne ho h1.fin h2 q hq this
    exact own_set h4 _ (own_blk_ne h4 hb3 h3)
  refine ⟨?_, ?_, kp h1.nxt (by decide) (by decide), fun j l' hj => ?_, kp h1.bls (by decide) (by decide), h.bo⟩
  · have := hb3.set_ 1 (.slice (some ⟨g, 0, none⟩) (fins.length + 1) cap)
    simpa using this
  · rw [List.length_append, List.map_append]
    exact own_set hown _ (own_blk_ne hown hb3 (by decide))
  · obtain ⟨v, hv, ho⟩ := h1.row j l' hj
    exact ⟨v, hv, kp ho (by decide) (by decide)⟩
theorem own_far {w : World} {B : Nat} {e : TypeId} {size n : Nat} {v : Value} {xs : List Value} (h : w.ownsRow B e size v n xs) {a : Addr} (ha : a.block < B) (u : Value) : (w.setCell a u).ownsRow B e size v n xs :=
  own_set h u fun hb => by have := (h.lt _ hb).1; omega
theorem Outs.far (h : Outs w B oB gb fv nv ms fins rows bcs) {a : Addr} (ha : a.block < B) (u : Value) : Outs (w.setCell a u) B oB gb fv nv ms fins rows bcs :=
  ⟨h.blk.far (by have := h.bo; omega) u, own_far h.fin ha u, own_far h.nxt ha u, fun j l hj => by
    obtain ⟨v, hv, ho⟩ := h.row j l hj
    exact ⟨v, hv, own_far ho ha u⟩, own_far h.bls ha u, h.bo⟩
theorem Outs.dfaAt {blk : List Nat} (h : Outs w B oB gb fv nv ms fins rows (natCells blk)) : DfaAt w (.agg #[.int .i64 0, fv, .slice (some ⟨gb, 0, none⟩) 256 256, nv]) ⟨0, fins, intsOf blk, rows.map intsOf⟩ := by
  refine ⟨fv, _, nv, rfl, boolsAt_own h.fin, (NatsAt.of_own h.bls).intsAt, ?_⟩
  rcases h.nxt.2 with ⟨rfl, h0⟩ | ⟨g, cap, cur, rfl, hB, hg, -⟩
  · exact ⟨none, 0, by rw [List.length_map, h0], .inl (by rw [List.eq_nil_of_length_eq_zero h0]; rfl)⟩
  · refine ⟨_, cap, by rw [List.length_map], .inr ⟨g, 0, rfl, ?_, fun j l hj => ?_⟩⟩
    · rcases Nat.lt_or_ge g w.heap.size with hlt | hge
      · exact hlt
      · rw [Array.getElem?_eq_none hge] at hg; cases hg
    · rw [List.getElem?_map] at hj
      obtain ⟨l', hl', rfl⟩ := Option.map_eq_some_iff.1 hj
      obtain ⟨u, hu, ho⟩ := h.row j l' hl'
      refine ⟨u, ?_, (NatsAt.of_own ho).intsAt⟩
      rw [Nat.zero_add, h.nxt.cellAt j (by have := (List.getElem?_eq_some_iff.1 hl').1; omega)]
      exact hu
end
/-- a row that is filled step by step -/
def fillF (f : Nat → Nat) (k j : Nat) : Nat := if j < k then f j else 0
theorem fillF_succ (f : Nat → Nat) (k z : Nat) : fillF f (k + 1) z = if z = k then f k else fillF f k z := by
  unfold fillF
  by_cases e : z = k
  · subst e; rw [if_pos (by omega), if_pos rfl]
  · rw [if_neg e]
    by_cases e2 : z < k
    · rw [if_pos (by omega), if_pos e2]
    · rw [if_neg (by omega), if_neg e2]
theorem fillF_all (f : Nat → Nat) (k : Nat) : clsCells (fillF f k) k = natCells ((List.range k).map f) := by
  rw [clsCells_nats]
  congr 1
  exact List.map_congr_left fun x hx => by unfold fillF; rw [if_pos (by simpa using hx)]
/-- one cell of a row of numbers is set -/
theorem own_fill {w : World} {B g M k y : Nat} {f f' : Nat → Nat} (h : w.ownsRow B 3 1 (.slice (some ⟨g, 0, none⟩) M M) M (clsCells f M)) (hk : k < M) (hf : ∀ z, z < M → f' z = if z = k then y else f z) :
    (w.setCell ⟨g, k, none⟩ (.int .i64 (y : Int))).ownsRow B 3 1 (.slice (some ⟨g, 0, none⟩) M M) M (clsCells f' M) := by
  have hst := (h.stored k (.int .i64 (y : Int))).1
  rw [clsCells_set hk hf] at hst
  exact hst

/-! what comes out is the canonical automaton -/
/-- the canonical automaton of a language -/
noncomputable def canonI (L : Lang) : DfaI where
  start := 0
  fin := (List.range (statesL L).length).map (finL L)
  block := intsOf ((List.range byteN).map (blockL L))
  next := (List.range (statesL L).length).map fun i => intsOf ((List.range (bytesL L).length).map (stepL L i))
def noD : DfaI := ⟨0, [], [], []⟩
noncomputable def ofD (D : DfaI) : DfaI := if rightD D = true then canonI (langD D) else noD
def rowO (d : Aut) (cls one : Nat → Nat) (bl o : List Nat) (M c : Nat) : List Nat := (List.range bl.length).map fun k => atF o M (nextC d cls one c (bl.getD k 0))
theorem range_map_getD {α β : Type} (l : List α) (a : α) (f : α → β) : (List.range l.length).map (fun i => f (l.getD i a)) = l.map f := by
  refine List.ext_getElem? fun i => ?_
  rw [List.getElem?_map, List.getElem?_map]
  by_cases h : i < l.length
  · rw [List.getElem?_range h, List.getElem?_eq_getElem h]
    simp [List.getD_eq_getElem?_getD, List.getElem?_eq_getElem h]
  · rw [List.getElem?_eq_none (by simp; omega), List.getElem?_eq_none (by omega)]
    rfl
theorem canon_eq {d : Aut} {cls one : Nat → Nat} {many : Nat} {z : Nat → Int} (hc : ClsOk d cls one many) (hb : BlkOk z d.wide) (hd : d.Ok) (hf : Few (d.lang (blkF z))) {bl o : List Nat} (hbl : blocksC d cls one many d.wide = bl) (ho : orderC d cls one bl = o) (hom : o.length = many) :
    canonI (d.lang (blkF z)) = ⟨0, o.map (fun c => d.fin (one c)), intsOf ((List.range 256).map fun b => mergedC d cls one many d.wide (blkF z b)), (o.map (rowO d cls one bl o many)).map intsOf⟩ := by
  subst hbl
  subst ho
  have hlen := orderC_len hc hb
  have hbw := blocksC_len hc hb
  have hlt := orderC_lt hc hb
  have hmem : ∀ {c : Nat}, c < many → c ∈ orderC d cls one (blocksC d cls one many d.wide) := fun h => orderC_mem hc hb hf h
  have hrow := fun {i k : Nat} => rowC (i := i) (k := k) hc hb
  have hfin := fun {i : Nat} => finC (i := i) hc hb
  have hble := (blocksC_le (d := d) (cls := cls) (one := one) (many := many) d.wide).2
  generalize blocksC d cls one many d.wide = bl at *
  generalize orderC d cls one bl = o at *
  unfold canonI
  congr 1
  · rw [← range_map_getD o 0 fun c => d.fin (one c), hlen]
    exact List.map_congr_left fun i hi => (hfin (by simpa using hi)).symm
  · congr 1
    rw [byteN_eq]
    exact List.map_congr_left fun b h => (mergedC_blk hc hb (by simpa using h)).symm
  · rw [← range_map_getD o 0 (rowO d cls one bl o many), hlen, List.map_map]
    refine List.map_congr_left fun i hi => ?_
    have hi' : i < (statesL (d.lang (blkF z))).length := by simpa using hi
    show _ = intsOf _
    congr 1
    unfold rowO
    rw [hbw]
    refine List.map_congr_left fun k hk => ?_
    have hk' : k < (bytesL (d.lang (blkF z))).length := by simpa using hk
    rw [← hrow hi' hk', ← hom]
    have hci := hlt _ (getD_mem (a := 0) (show i < o.length by omega))
    have hbk := hble _ (getD_mem (a := 0) (show k < bl.length by omega))
    have hn : nextC d cls one (o.getD i 0) (bl.getD k 0) < many := hc.lt _ ((hc.one _ hci).1.nx hbk)
    rw [atF_all (hmem hn)]
    rfl
end Go.Proofs.YtmmlakheimfijaaGreatDoor
