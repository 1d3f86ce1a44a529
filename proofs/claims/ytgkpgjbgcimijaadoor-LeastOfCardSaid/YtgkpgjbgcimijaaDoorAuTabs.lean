/-
  A table from numbers to numbers, and a table that numbers texts, in memory. Conditions: each lemma says its own.
-/
import Derived.Test.YtgkpgjbgcimijaaDoorAuMaps
import Derived.Lib.SmallJoins
import Derived.MapViews
import Derived.DeepKeys4
namespace Go.Proofs.YtgkpgjbgcimijaaDoor
set_option linter.unusedVariables false
set_option linter.unusedSimpArgs false
open Go.RowKit Go.Maps Go.Sort Go.ChangeShapes Go.WideShapes Go.Joins

/-! map[int]int -/
theorem map_below {H : Type} {P : Program} {k : TypeId} {R : Value → Option (DataW H × List MemPlace)} {b n B : Nat} {D : DataW H} {w w' : World} (h : w.ownsMap P k R b n D) (hb : Below B w w') (hB : b < B) : w'.ownsMap P k R b n D := by
  obtain ⟨es, clock, h1, h2⟩ := h
  exact ⟨es, clock, (hb.block b hB).trans h1, h2⟩
def TabAt (w : World) (b n : Nat) (f : Nat → Nat) : Prop :=
  ∃ D : DataW Unit, w.ownsMap Tryd.prog 3 (plainElem Tryd.prog 3) b n D ∧ ∀ x : Nat, D.atKey (.int .i64 (x : Int)) (.lit (.int .i64 0)) = .lit (.int .i64 (f x : Int))
theorem TabAt.none (w : World) : TabAt (w.alloc (.map #[] 0)) w.heap.size 0 (fun _ => 0) := ⟨.map [], World.ownsMap_made _ _ _ _, fun x => rfl⟩
theorem TabAt.kept {w w' : World} {b n : Nat} {f : Nat → Nat} {row : Option Nat} (h : TabAt w b n f) (hg : w.grownBy w' row) (hne : some b ≠ row) : TabAt w' b n f := by
  obtain ⟨D, h1, h2⟩ := h
  exact ⟨D, h1.kept hg hne, h2⟩
theorem TabAt.lt {w : World} {b n : Nat} {f : Nat → Nat} (h : TabAt w b n f) : b < w.heap.size := by obtain ⟨D, h1, -⟩ := h; exact h1.lt
theorem TabAt.below {w w' : World} {b n B : Nat} {f : Nat → Nat} (h : TabAt w b n f) (hb : Below B w w') (hB : b < B) : TabAt w' b n f := by
  obtain ⟨D, h1, h2⟩ := h
  exact ⟨D, map_below h1 hb hB, h2⟩
theorem TabAt.look {w : World} {b n : Nat} {f : Nat → Nat} (h : TabAt w b n f) {x : Nat} (hx : x ≤ maxLen) : (Instr.lookup 41 (.map (some b)) (.int .i64 (x : Int)) false).run Tryd.prog w = .ok (.int .i64 (f x : Int)) w := by
  obtain ⟨D, h1, h2⟩ := h
  obtain ⟨c, hrun, hat2, -⟩ := h1.lookup_int lawI Tryd.underlying41 Tryd.underlying3 (zeroI w) (int_key hx)
  rw [h2] at hat2
  simp only [DataW.lit.injEq, Lit.int.injEq, true_and] at hat2
  rw [hrun, hat2]
theorem TabAt.put {w : World} {b n : Nat} {f : Nat → Nat} (h : TabAt w b n f) {x y : Nat} (hx : x ≤ maxLen) (hy : y ≤ maxLen) (hn : n < maxLen) :
    ∃ w', (Instr.mapUpdate 41 (.map (some b)) (.int .i64 (x : Int)) (.int .i64 (y : Int))).run Tryd.prog w = .ok () w' ∧ TabAt w' b (n + 1) (fun z => if z = x then y else f z) ∧ w.grownBy w' (some b) := by
  obtain ⟨D, h1, h2⟩ := h
  obtain ⟨w', hrun, r1, r2⟩ := h1.update lawI Tryd.underlying41 hn (int_key hx) (plainElem_int Tryd.underlying3 (wf_nat hy))
  refine ⟨w', hrun, ⟨_, r1, fun z => ?_⟩, r2⟩
  have hM := h1.isMap
  by_cases e : z = x
  · subst e
    rw [atKey_put_same hM (lawI.key (int_key hx))]
    simp
  · have hne : (Lit.int .i64 (z : Int)) ≠ .int .i64 (x : Int) := by intro e'; simp at e'; exact e (by exact_mod_cast e')
    rw [atKey_put_other hne, h2]
    simp [e]

/-! map[string]int: texts numbered as they come -/
theorem lawS : Keyed Tryd.prog 9 := string_keyed Tryd.underlying9
theorem str_key (s : ByteArray) (hs : s.size ≤ maxLen) : keyOf Tryd.prog 9 (.string s) = some (.string s.data.toList) := WideMaps.keyOf_string_mk Tryd.underlying9 hs
def numOf (ks : List (List UInt8)) (x : List UInt8) : Nat := ks.findIdx fun y => decide (x = y)
theorem numOf_new {ks : List (List UInt8)} {x : List UInt8} (h : x ∉ ks) : numOf ks x = ks.length := by
  unfold numOf
  exact List.findIdx_eq_length.2 fun y hy => decide_eq_false fun e => h (by rw [e]; exact hy)
theorem numOf_old {ks : List (List UInt8)} {x : List UInt8} (h : x ∈ ks) (t : List (List UInt8)) : numOf (ks ++ t) x = numOf ks x := by
  have hl : ks.findIdx (fun y => decide (x = y)) < ks.length := List.findIdx_lt_length.2 ⟨x, h, by simp⟩
  unfold numOf
  rw [List.findIdx_append, if_pos hl]
theorem numOf_snoc {ks : List (List UInt8)} {x : List UInt8} (h : x ∉ ks) : numOf (ks ++ [x]) x = ks.length := by
  have := numOf_new h
  unfold numOf at this ⊢
  rw [List.findIdx_append, if_neg (by omega)]
  simp
def addT (ks : List (List UInt8)) (x : List UInt8) : List (List UInt8) := if x ∈ ks then ks else ks ++ [x]
structure NumD (D : DataW Unit) (ks : List (List UInt8)) : Prop where
  mem : ∀ x : List UInt8, has D (.string x) = decide (x ∈ ks)
  look : ∀ (x : List UInt8) (z : DataW Unit), x ∈ ks → D.atKey (.string x) z = .lit (.int .i64 (numOf ks x : Int))
  none : ∀ (x : List UInt8) (z : DataW Unit), x ∉ ks → D.atKey (.string x) z = z
  count : size D = ks.length
def NumAt (w : World) (b n : Nat) (ks : List (List UInt8)) : Prop := ∃ D : DataW Unit, w.ownsMap Tryd.prog 9 (plainElem Tryd.prog 3) b n D ∧ NumD D ks
theorem NumAt.made (w : World) : NumAt (w.alloc (.map #[] 0)) w.heap.size 0 [] :=
  ⟨.map [], World.ownsMap_made _ _ _ _, ⟨fun x => by simp; rfl, fun x z h => (List.not_mem_nil h).elim, fun x z h => rfl, rfl⟩⟩
theorem NumAt.kept {w w' : World} {b n : Nat} {ks : List (List UInt8)} {row : Option Nat} (h : NumAt w b n ks) (hg : w.grownBy w' row) (hne : some b ≠ row) : NumAt w' b n ks := by
  obtain ⟨D, h1, h2⟩ := h
  exact ⟨D, h1.kept hg hne, h2⟩
theorem NumAt.lt {w : World} {b n : Nat} {ks : List (List UInt8)} (h : NumAt w b n ks) : b < w.heap.size := by obtain ⟨D, h1, -⟩ := h; exact h1.lt
theorem NumD.put {D : DataW Unit} {ks : List (List UInt8)} (h : NumD D ks) (hT : Tidy D) {s : ByteArray} (hs : s.size ≤ maxLen) (hn : s.data.toList ∉ ks) : NumD (D.put (.string s.data.toList) (.lit (.int .i64 (ks.length : Int)))) (ks ++ [s.data.toList]) := by
  have hM := hT.isMap
  have hk := lawS.key (str_key s hs)
  have hsz := size_put (k := .string s.data.toList) hT (.lit (.int .i64 (ks.length : Int)))
  have hhas := h.mem s.data.toList
  rw [hhas, decide_eq_false hn] at hsz
  refine ⟨fun x => ?_, fun x z hx => ?_, fun x z hx => ?_, ?_⟩
  · by_cases e : x = s.data.toList
    · subst e
      exact (has_put_same hM hk _).trans (by simp)
    · have hne : (Lit.string x) ≠ .string s.data.toList := fun e' => e (by injection e')
      rw [has_put_other hne, h.mem x]
      simp [e]
  · by_cases e : x = s.data.toList
    · subst e
      rw [numOf_snoc hn]
      exact atKey_put_same hM hk _ _
    · have hne : (Lit.string x) ≠ .string s.data.toList := fun e' => e (by injection e')
      have hx2 : x ∈ ks := by simpa [e] using hx
      rw [numOf_old hx2]
      exact (atKey_put_other hne _ _).trans (h.look x z hx2)
  · have hx1 : x ∉ ks := fun h => hx (by simp [h])
    have e : x ≠ s.data.toList := fun e => hx (by simp [e])
    have hne : (Lit.string x) ≠ .string s.data.toList := fun e' => e (by injection e')
    exact (atKey_put_other hne _ _).trans (h.none x z hx1)
  · rw [List.length_append, List.length_singleton]
    have := h.count
    simp at hsz
    omega

theorem NumAt.below {w w' : World} {b n B : Nat} {ks : List (List UInt8)} (h : NumAt w b n ks) (hb : Below B w w') (hB : b < B) : NumAt w' b n ks := by
  obtain ⟨D, h1, h2⟩ := h
  exact ⟨D, map_below h1 hb hB, h2⟩
set_option maxHeartbeats 4000000 in
set_option maxRecDepth 100000 in
/-- (numbers[string]).of -/
theorem numof_any (b n : Nat) (ks : List (List UInt8)) (s : ByteArray) (w : World) (h : NumAt w b n ks) (hs : s.size ≤ maxLen) (hn : n < maxLen) (hk : ks.length ≤ 1000000) :
    Calls Tryd.prog 22 #[.map (some b), .string s] w fun e w' => e = .returned (.int .i64 (numOf ks s.data.toList : Int)) ∧ (∃ m, m ≤ n + 1 ∧ NumAt w' b m (addT ks s.data.toList)) ∧ w.grownBy w' (some b) := by
  obtain ⟨D, hown, hD⟩ := h
  have hkey := str_key s hs
  obtain ⟨N, hN⟩ : ∃ N : Int, (numOf ks s.data.toList : Int) = N := ⟨_, rfl⟩
  simp only [hN]
  by_cases hm : s.data.toList ∈ ks
  · have o1 : has D (.string s.data.toList) = true := by rw [hD.mem, decide_eq_true hm]
    have o2 := hD.look s.data.toList (.lit (.int .i64 0)) hm
    rw [hN] at o2
    have O1 := Lib.hid o1
    have O2 := Lib.hid (And.intro o2 (And.intro hm hD))
    clear o1 o2 hN hm hD
    go_enter Tryd.func22, Tryd.ntmps22
    go_wp2_with (first
      | (at_lookup; refine wpList_lookup_own_ok_int _ rfl _ _ 44 rfl 9 3 .i64 lawS Tryd.underlying44 Tryd.underlying3 (zeroI _) b n D rfl hown _ _ rfl hkey ?_; intro c hat hwc; (obtain rfl : c = N := by have := hat.symm.trans O2.out.1; simpa using this); rw [O1.out])
      | go_in)
    go_ret
    refine ⟨rfl, ⟨n, by omega, ?_⟩, ⟨rfl, rfl, rfl, Nat.le_refl _, fun _ _ _ => rfl⟩⟩
    rw [addT, if_pos O2.out.2.1]
    exact ⟨D, hown, O2.out.2.2⟩
  · have o1 : has D (.string s.data.toList) = false := by rw [hD.mem, decide_eq_false hm]
    have sz : (size D : Int) = N := by rw [hD.count, ← hN, numOf_new hm]
    have hkN : (ks.length : Int) = N := by rw [← hN, numOf_new hm]
    have hwf : (Lit.int .i64 N).wf = true := by rw [← hkN]; exact wf_nat (by unfold maxLen; omega)
    have hput := hD.put (hown.tidy lawS) hs hm
    rw [hkN] at hput
    have O1 := Lib.hid o1
    have O2 := Lib.hid (And.intro hput hm)
    have SZ := Lib.hid sz
    clear o1 hN hm hD hput sz hkN
    go_enter Tryd.func22, Tryd.ntmps22
    go_wp2_with (first
      | (at_lookup; refine wpList_lookup_own_ok_int _ rfl _ _ 44 rfl 9 3 .i64 lawS Tryd.underlying44 Tryd.underlying3 (zeroI _) b n D rfl hown _ _ rfl hkey ?_; intro c hat hwc; rw [O1.out])
      | (at_len; refine wpList_len_own _ rfl _ 44 rfl 9 3 Tryd.underlying44 _ b n D rfl hown ?_; rw [SZ.out])
      | (at_mapUpdate; refine wpList_mapUpdate_own _ rfl _ _ _ 44 rfl 9 3 lawS Tryd.underlying44 _ b n D rfl hown hn _ _ _ rfl rfl hkey (.lit (.int .i64 N)) [] (plainElem_int Tryd.underlying3 hwf) ?_; intro w6 hown6 hgrow6)
      | go_in)
    go_ret
    refine ⟨rfl, ⟨n + 1, by omega, ?_⟩, hgrow6⟩
    rw [addT, if_neg O2.out.2]
    exact ⟨_, hown6, O2.out.1⟩
end Go.Proofs.YtgkpgjbgcimijaaDoor
