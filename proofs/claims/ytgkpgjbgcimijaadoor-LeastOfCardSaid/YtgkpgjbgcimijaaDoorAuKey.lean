/-
  The walk of least's key: numbers as a text, no two lists alike. Conditions: the table of powers lies as laid.
-/
import Derived.Test.YtgkpgjbgcimijaaDoorAuShelf
import Derived.Test.YtgkpgjbgcimijaaDoorAuCls
import Derived.Test.YtgkpgjbgcimijaaDoorAuSame
import Derived.Lib.ItoaLen
import Derived.WalkSmall
namespace Go.Proofs.YtgkpgjbgcimijaaDoor
set_option linter.unusedVariables false
set_option linter.unusedSimpArgs false
open Go.RowKit Go.Maps Go.Sort Go.ChangeShapes Go.WideShapes

/-! plain words -/
theorem dec_in : ∀ (n u : Nat), u ≤ n → ∀ b ∈ Lib.decDigits u, b ≠ 32
  | n, u, hu, b, hb => by
    rw [Lib.decDigits] at hb
    split at hb
    · obtain rfl := List.mem_singleton.1 hb
      intro e
      have := congrArg UInt8.toNat e
      rw [UInt8.toNat_ofNat'] at this
      simp at this
      omega
    · rename_i h
      rcases List.mem_append.1 hb with h1 | h1
      · match n with
        | 0 => omega
        | n + 1 => exact dec_in n (u / 10) (by omega) b h1
      · obtain rfl := List.mem_singleton.1 h1
        intro e
        have := congrArg UInt8.toNat e
        rw [UInt8.toNat_ofNat'] at this
        simp at this
        omega
def valT (l : List UInt8) : Nat := l.foldl (fun a b => a * 10 + (b.toNat - 48)) 0
theorem val_dec : ∀ (n u : Nat), u ≤ n → valT (Lib.decDigits u) = u
  | n, u, hu => by
    rw [Lib.decDigits]
    split
    · simp only [valT, List.foldl_cons, List.foldl_nil, UInt8.toNat_ofNat']
      omega
    · rename_i h
      have ih : valT (Lib.decDigits (u / 10)) = u / 10 := match n with
        | 0 => by omega
        | n + 1 => val_dec n (u / 10) (by omega)
      unfold valT at ih ⊢
      rw [List.foldl_append, ih]
      simp only [List.foldl_cons, List.foldl_nil, UInt8.toNat_ofNat']
      omega
theorem dec_inj {u v : Nat} (h : Lib.decDigits u = Lib.decDigits v) : u = v := by
  rw [← val_dec u u (Nat.le_refl _), h, val_dec v v (Nat.le_refl _)]
theorem split_sp : ∀ {xs ys r s : List UInt8}, (∀ b ∈ xs, b ≠ 32) → (∀ b ∈ ys, b ≠ 32) → xs ++ 32 :: r = ys ++ 32 :: s → xs = ys ∧ r = s
  | [], [], r, s, _, _, h => ⟨rfl, by simpa using h⟩
  | [], y :: ys, r, s, _, hy, h => by
    simp at h
    exact absurd h.1.symm (hy y (by simp))
  | x :: xs, [], r, s, hx, _, h => by
    simp at h
    exact absurd h.1 (hx x (by simp))
  | x :: xs, y :: ys, r, s, hx, hy, h => by
    simp at h
    obtain ⟨h1, h2⟩ := split_sp (fun b hb => hx b (by simp [hb])) (fun b hb => hy b (by simp [hb])) h.2
    exact ⟨by rw [h.1, h1], h2⟩
def keyT (l : List Nat) : List UInt8 := l.flatMap fun n => Lib.decDigits n ++ [32]
theorem keyT_cons (n : Nat) (l : List Nat) : keyT (n :: l) = Lib.decDigits n ++ 32 :: keyT l := by simp [keyT]
theorem keyT_inj : ∀ {l m : List Nat}, keyT l = keyT m → l = m
  | [], [], _ => rfl
  | [], y :: m, h => by rw [keyT_cons] at h; simp [keyT] at h
  | x :: l, [], h => by rw [keyT_cons] at h; simp [keyT] at h
  | x :: l, y :: m, h => by
    rw [keyT_cons, keyT_cons] at h
    obtain ⟨h1, h2⟩ := split_sp (dec_in x x (Nat.le_refl _)) (dec_in y y (Nat.le_refl _)) h
    rw [dec_inj h1, keyT_inj h2]
theorem keyT_snoc (l : List Nat) (n : Nat) : keyT (l ++ [n]) = keyT l ++ Lib.decDigits n ++ [32] := by simp [keyT]
theorem dec_len {n : Nat} (h : n ≤ 1000000) : (Lib.decDigits n).length ≤ 21 := by
  have := Lib.itoa_length_le (n : Int) (by omega) (by omega)
  rw [Lib.itoa] at this
  rw [if_neg (by omega)] at this
  simpa using this
theorem keyT_len : ∀ {l : List Nat}, (∀ n ∈ l, n ≤ 1000000) → (keyT l).length ≤ l.length * 22
  | [], _ => by simp [keyT]
  | n :: l, h => by
    have h1 := dec_len (h n (by simp))
    have h2 := keyT_len (l := l) fun m hm => h m (by simp [hm])
    rw [keyT_cons]
    simp only [List.length_append, List.length_cons]
    omega

/-! the table -/
def Pow10 (w : World) : Prop := Lib.TabIs Tryd.prog w "internal/strconv.uint64pow10" .u64 Lib.pow10Tab
theorem Pow10.below {w w' : World} {B : Nat} (h : Pow10 w) (hb : Below B w w') (hB : w.heap.size ≤ B) : Pow10 w' := by
  have hg : Tryd.prog.globalNamed "internal/strconv.uint64pow10" = some 0 := by kernel_rfl
  have hlt : 0 < w.heap.size := by
    unfold Pow10 Lib.TabIs World.var? at h
    rw [hg] at h
    simp only [Option.bind_some] at h
    rcases Nat.lt_or_ge 0 w.heap.size with h2 | h2
    · exact h2
    · rw [Array.getElem?_eq_none h2] at h; cases h
  exact var?_below hb hg (by omega) h
theorem atF_below {T e : TypeId} {B b : Nat} {p : Value} {bs : List Value} {W W' : World} (h : Lib.BuilderAtF T e B b p bs W) (hb : Below W.heap.size W W') : Lib.BuilderAtF T e B b p bs W' := by
  have hlt := h.lt
  obtain ⟨hB, v, hv, hown, hne⟩ := h
  exact ⟨hB, v, (hb.block b hlt).trans hv, hown.kept (row := none) ⟨hb.os, hb.tape, hb.output, hb.size, fun k hk _ => hb.block k hk⟩ (Classical.em _), hne⟩
theorem isF_below {T e : TypeId} {B b : Nat} {bs : List Value} {W W' : World} (h : Lib.IsBuilderF T e B b bs W) (hb : Below W.heap.size W W') : Lib.IsBuilderF T e B b bs W' :=
  h.elim (fun x => .inl (atF_below x hb)) (fun x => .inr (atF_below x hb))

set_option maxRecDepth 1000000 in
set_option maxHeartbeats 4000000 in
theorem key_any (v : Value) (l : List Nat) (w : World) (h : NatsAt w v l) (hl : l.length ≤ 1000000) (hs : ∀ n ∈ l, n ≤ 1000000) (hT : Pow10 w) :
    Calls Tryd.prog 23 #[v] w fun e w' => e = .returned (.string ⟨(keyT l).toArray⟩) ∧ Below w.heap.size w w' := by
  obtain ⟨a, cap, rfl, -⟩ := id h
  have hfr := Lib.IsBuilderF.of (Lib.fresh_isBuilder 70 5 w)
  have H := Lib.hid (And.intro h (And.intro hs (And.intro hT hfr)))
  clear h hs hT hfr
  go_enter Tryd.func23, Tryd.ntmps23
  go_wp2_with fail
  go_loopw [5, 8] (fun _ c wr => ∃ j : Nat, j ≤ l.length ∧ c = .int .i64 j ∧ Lib.IsBuilderF 70 5 w.heap.size w.heap.size (Lib.byteCells (keyT (l.take j))) wr ∧ Below w.heap.size w wr ∧ w.heap.size < wr.heap.size) (fun _ c _ => l.length - (intOf c).toNat)
  case atStart => exact ⟨0, by omega, rfl, H.out.2.2.2, (Below.refl _ _).alloc (Nat.le_refl _) _, by simp⟩
  case round =>
    obtain ⟨j, hj, rfl, hI, hb, hz⟩ := hrel
    have hkl := keyT_len (l := l.take j) fun n hn => H.out.2.1 n (List.mem_of_mem_take hn)
    rw [List.length_take] at hkl
    have hmin : min j l.length ≤ 1000000 := by omega
    by_cases hlt : j < l.length
    · obtain ⟨n, hx⟩ : ∃ n, l[j]? = some n := ⟨_, List.getElem?_eq_getElem hlt⟩
      have hn6 := H.out.2.1 n (List.mem_of_getElem? hx)
      obtain ⟨b, off, rfl, m0⟩ := (H.out.1.below hb).get hx
      have hdl := dec_len hn6
      have hno : keyT (l.take (j + 1)) = keyT (l.take j) ++ Lib.decDigits n ++ [32] := by
        have ht : l.take (j + 1) = l.take j ++ [n] := by rw [List.take_add_one, hx]; rfl
        rw [ht, keyT_snoc]
      have hito := strconv_Itoa n (by omega) (by omega) wr (H.out.2.2.1.below hb (Nat.le_refl _))
      have hio : Lib.itoa (n : Int) = Lib.decDigits n := by rw [Lib.itoa, if_neg (by omega)]; simp
      rw [hio] at hito
      have HX := Lib.hid (And.intro hno (And.intro hI hb))
      clear hx hno hio hI hb
      go_wp2_with fail
      refine hito.mono ?_
      rintro e w2 ⟨rfl, k2, os2, hw2⟩
      have b2 : Below wr.heap.size wr w2 := by
        rw [hw2]
        exact (below_regrownN wr k2).grown (row := none) ⟨rfl, rfl, rfl, by simp, fun k hk _ => heap_grow_old _ _ hk⟩ (below_regrownN wr k2).size (fun k e => by cases e)
      have I2 := isF_below HX.out.2.1 b2
      have B2 := HX.out.2.2.trans (b2.mono (by omega))
      have hz2 := b2.size
      clear hw2 b2 hito m0
      have hsz : (⟨(Lib.decDigits n).toArray⟩ : ByteArray).size = (Lib.decDigits n).length := by show (Lib.decDigits n).toArray.size = _; simp
      have hws := Builder_WriteString_k w.heap.size w.heap.size _ ⟨(Lib.decDigits n).toArray⟩ w2 I2 (by rw [hsz]; simp [Lib.byteCells]; omega) (by omega)
      clear I2
      go_wp2_with fail
      refine hws.mono ?_
      rintro e w3 ⟨rfl, h3, b3, -⟩
      have B3 := B2.trans b3
      have hz3 := b3.size
      have h3' : Lib.BuilderAtF 70 5 w.heap.size w.heap.size (.pointer (some ⟨w.heap.size, 0, none⟩)) (Lib.byteCells (keyT (l.take j) ++ Lib.decDigits n)) w3 := by
        rw [Lib.strCells_eq] at h3
        have e1 : (⟨(Lib.decDigits n).toArray⟩ : ByteArray).data.toList = Lib.decDigits n := by simp
        rw [e1, ← Lib.byteCells_append] at h3
        exact h3
      have hwb := Builder_WriteByte_k w.heap.size w.heap.size _ 32 w3 (.inr h3') (by simp [Lib.byteCells]; omega) (by omega)
      clear h3 h3' b3 B2 hws
      go_wp2_with fail
      refine hwb.mono ?_
      rintro e w4 ⟨rfl, h4, b4, -⟩
      have B4 := B3.trans b4
      have hz4 := b4.size
      have h4' : Lib.IsBuilderF 70 5 w.heap.size w.heap.size (Lib.byteCells (keyT (l.take (j + 1)))) w4 := by
        rw [HX.out.1, Lib.byteCells_append]
        exact .inr h4
      clear h4 b4 B3 hwb
      go_wp2_with fail
      go_roundw
      case rel => exact ⟨j + 1, by omega, by go_num, h4', B4, by omega⟩
      case measure => simp [intOf]; omega
    · obtain rfl : j = l.length := by omega
      rw [List.take_length] at hI
      have HI := Lib.hid (And.intro hI hb)
      clear hI hb
      go_wp2_with fail
      refine (Builder_String_any_k w.heap.size w.heap.size _ wr HI.out.1 (by omega)).mono ?_
      rintro e w2 ⟨rfl, -, b2, -⟩
      have HB := Lib.hid (HI.out.2.trans b2)
      clear b2
      go_wp2_with fail
      go_ret
      exact ⟨rfl, HB.out⟩
end Go.Proofs.YtgkpgjbgcimijaaDoor
