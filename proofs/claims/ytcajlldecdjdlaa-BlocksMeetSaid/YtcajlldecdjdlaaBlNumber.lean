/-
  The contract of number: the numbers of a closure's keys. Conditions: the closure's own contract.
-/
import Derived.Test.YtcajlldecdjdlaaBlNum
import Derived.Deep.RegionHeld3
import Derived.Deep.DeepCutAuto
import Derived.Deep.CutBlock
import Derived.OwnWalk
import Derived.Laws.OwnMore
namespace Go.Proofs.Ytcajlldecdjdlaa
set_option linter.unusedVariables false
open Go.RowKit Go.Maps Go.Sort

theorem grown_of_below {w w' : World} (h : Below w.heap.size w w') : w.grownBy w' none := ⟨h.os, h.tape, h.output, h.size, fun k hk _ => h.block k hk⟩
theorem below_of_grown {w w' : World} {B : Nat} {row : Option Nat} (h : w.grownBy w' row) (hB : B ≤ w.heap.size) (hr : ∀ k, row = some k → B ≤ k) : Below B w w' := (Below.refl B w).grown h hB hr

theorem Try.info3 : (Try.prog.info? 3).map (fun i => (i.zero, i.size, i.bytes)) = some (some (.int .i64 0), 1, 8) := by kernel_rfl

/-- the numbers as cells -/
def numCells {α : Type} [DecidableEq α] (f : Nat → α) : List Value := (List.range 256).map fun b => Value.int .i64 (Bl.num f b)

theorem wf_num (f : Nat → Int × Int) (k : Nat) (h : k < 256) : (Lit.int .i64 (Bl.num f k)).wf = true := by
  have := Bl.num_lt_256 f k h
  simp [Lit.wf, IntKind.min, IntKind.max, IntKind.signed, IntKind.bits]
  omega

theorem set_num (f : Nat → Int × Int) (xs : List Value) (k : Nat) (N : Int) (h : ∀ i, i < k → xs[i]? = some (.int .i64 (Bl.num f i))) (hN : (Bl.num f k : Int) = N) (hl : xs.length = 256) (hk : k < 256) :
    ∀ i, i < k + 1 → (xs.set k (.int .i64 N))[i]? = some (.int .i64 (Bl.num f i)) := by
  intro i hi
  by_cases e : i = k
  · subst e
    rw [List.getElem?_set_self (by omega), hN]
  · rw [List.getElem?_set_ne (by omega)]
    exact h i (by omega)
theorem all_num (f : Nat → Int × Int) (xs : List Value) (h : ∀ i, i < 256 → xs[i]? = some (.int .i64 (Bl.num f i))) (hl : xs.length = 256) : xs = numCells f := by
  apply List.ext_getElem?
  intro i
  by_cases hi : i < 256
  · rw [h i hi]; simp [numCells, hi]
  · rw [List.getElem?_eq_none (by omega), List.getElem?_eq_none (by simp [numCells]; omega)]

set_option maxHeartbeats 4000000 in
set_option maxRecDepth 100000 in
theorem number_any (g : FuncId) (hg : g = 18 ∨ g = 21) (c0 c1 : Value) (f : Nat → Int × Int) (w : World) (hf : ∀ k, k < 256 → PairIn (f k))
    (hkey : ∀ (k : Nat) (W : World), k < 256 → Below w.heap.size w W → Calls Try.prog g #[.int .i64 k, c0, c1] W fun e W' => e = .returned (pairV (f k)) ∧ Below W.heap.size W W') :
    Calls Try.prog 17 #[.func (.func g) #[] #[c0, c1]] w fun e w' =>
      e = .returned (.slice (some ⟨w.heap.size, 0, none⟩) 256 256) ∧ w'.ownsRow w.heap.size 3 1 (.slice (some ⟨w.heap.size, 0, none⟩) 256 256) 256 (numCells f) ∧ Below w.heap.size w w' := by
  have hmm := @run_makeMap Try.prog
  obtain ⟨i0, hi, hz0, hz1, hz2⟩ := info_parts Try.info3
  have hk1 : ∀ k, k < 256 → ∀ p q, f k = (p, q) → ∀ W, Below w.heap.size w W → Calls Try.prog g #[.int .i64 k, c0, c1] W fun e W' => e = .returned (.agg #[.int .i64 p, .int .i64 q]) ∧ Below W.heap.size W W' := fun k hlt p q hp W hW => by
    have := hkey k W hlt hW
    rw [hp] at this
    exact this
  clear hkey
  rcases hg with rfl | rfl
  all_goals
    go_enter Try.func17, Try.ntmps17
    go_wp2_with (first
      | (at_make; refine wpList_make_full _ rfl _ _ 24 rfl w.heap.size 3 i0 (.int .i64 0) 1 Try.underlying24 hi hz0 hz1 .i64 .i64 256 256 256 rfl rfl rfl rfl (by rw [hz2]; decide) (by decide) (Nat.le_refl _) ?_; intro w1 hown1 hgrow1)
      | go_in)
    have hB1 : Below w.heap.size w w1 := below_of_grown hgrow1 (Nat.le_refl _) (fun _ h => by cases h)
    have hlt1 : w.heap.size < w1.heap.size := (hown1.lt _ rfl).2
    obtain ⟨M, hM⟩ : ∃ M, w1.heap.size = M := ⟨_, rfl⟩
    have hmap := World.ownsMap_made w1 Try.prog 38 (plainElem (H := Unit) Try.prog 3)
    rw [hM] at hmap
    have hMlt : w.heap.size < M := by omega
    clear hgrow1
    go_wp2_with fail
    rw [hM]
    go_loopw [13] (fun c wr => ∃ (k : Nat) (D : DataW Unit) (xs : List Value), k ≤ 256 ∧ c = .int .i64 k ∧ wr.ownsRow w.heap.size 3 1 (.slice (some ⟨w.heap.size, 0, none⟩) 256 256) 256 xs ∧ Hid (∀ i, i < k → xs[i]? = some (.int .i64 (Bl.num f i))) ∧
        wr.ownsMap Try.prog 38 (plainElem Try.prog 3) M k D ∧ Hid (Holds f k D) ∧ Below w.heap.size w wr) (fun c _ => 256 - (intOf c).toNat)
    case atStart => exact ⟨0, _, _, by omega, rfl, hown1.alloc _, Lib.hid (fun i hi => by omega), hmap, Lib.hid (holds_none f), hB1.alloc (by omega) _⟩
    case round =>
      obtain ⟨k, D, xs, hk, rfl, hrow, hxs, hown, hH, hB⟩ := hrel
      by_cases hlt : k < 256
      · obtain ⟨⟨p, q⟩, hp⟩ : ∃ x, f k = x := ⟨_, rfl⟩
        have hk2 := hk1 k hlt p q hp
        have HP := Lib.hid hp
        clear hp
        go_wp2_with fail
        refine (hk2 _ hB).mono ?_
        rintro e w5 ⟨rfl, b5⟩
        have hrow5 := hrow.kept (grown_of_below b5) (.inr (by simp [Value.ownBlock]))
        have hown5 := hown.kept (grown_of_below b5) (by simp)
        have hB5 : Below w.heap.size w w5 := hB.trans (b5.mono hB.size)
        have hM5 := hown5.lt
        clear hk2 hrow hown hB b5
        have hlen : xs.length = 256 := by have := hrow5.1; omega
        obtain ⟨l, hl⟩ := keyK (p, q) (by rw [← HP.out]; exact hf k hlt)
        change keyOf Try.prog 38 (.agg #[.int .i64 p, .int .i64 q]) = some l at hl
        obtain ⟨u, hu⟩ : ∃ u, xs[k]? = some u := ⟨xs[k]'(by omega), List.getElem?_eq_getElem (by omega)⟩
        have hc0 := hrow5.cellAt k (by omega)
        rw [hu] at hc0
        have hfz := hrow5.frozenAt k
        have hz5 : w.heap.size < w5.heap.size := by omega
        have hmax : k < maxLen := by unfold maxLen; omega
        obtain ⟨N, hN⟩ : ∃ N : Int, (Bl.num f k : Int) = N := ⟨_, rfl⟩
        have hwf := wf_num f k hlt
        rw [hN] at hwf
        by_cases hold : ∃ j, j < k ∧ f j = f k
        · obtain ⟨j, hj, hfj⟩ := hold
          obtain ⟨o1, o2⟩ := hH.out.old j (p, q) l hj (hfj.trans HP.out) hl
          rw [Bl.num_key f j k hfj, hN] at o2
          have O2 := Lib.hid o2
          have O1 := Lib.hid o1
          have HN := Lib.hid hN
          have HH := Lib.hid (holds_old f k D hH.out j hj hfj)
          clear hN o1 o2 hu hH
          go_wp2_with (first
            | (at_lookup; refine wpList_lookup_own_ok_int _ rfl _ _ 42 rfl 38 3 .i64 lawK Try.underlying42 Try.underlying3 (zeroK _) M k D rfl (hown5.alloc _) _ l rfl hl ?_; intro c hat hwc; (obtain rfl : c = N := by have := hat.symm.trans (O2.out _); simpa using this); rw [O1.out])
            | go_in)
          exact ⟨⟨k + 1, D, xs.set k (.int .i64 c), by omega, by simp, (hrow5.stored k _).1.alloc _, Lib.hid (set_num f xs k c hxs.out HN.out hlen hlt), ((hown5.setCell (by show M ≠ w.heap.size; omega) _).mono (by omega)).alloc _, HH, Below.alloc (hB5.setCell (Nat.le_refl _) _) (by simp; omega) _⟩, by simp [intOf]; omega⟩
        · have hnew : ∀ j, j < k → f j ≠ f k := fun j hj e => hold ⟨j, hj, e⟩
          have o1 := hH.out.new (p, q) l (fun j hj e => hnew j hj (e.trans HP.out.symm)) hl
          have sz : (size D : Int) = N := by rw [hH.out.count, ← Bl.num_new f k hnew, hN]
          have hl2 : keyOf Try.prog 38 (pairV (f k)) = some l := by rw [HP.out]; exact hl
          have hh := holds_new f k D hH.out hnew l hl2
          rw [← Bl.num_new f k hnew, hN] at hh
          have SZ := Lib.hid sz
          have O1 := Lib.hid o1
          have HN := Lib.hid hN
          have HH := Lib.hid hh
          clear hN o1 hu hH hh sz hl2 hnew hold
          go_wp2_with (first
            | (at_lookup; refine wpList_lookup_own_ok_int _ rfl _ _ 42 rfl 38 3 .i64 lawK Try.underlying42 Try.underlying3 (zeroK _) M k D rfl (hown5.alloc _) _ l rfl hl ?_; intro c hat hwc; rw [O1.out])
            | (at_len; refine wpList_len_own _ rfl _ 42 rfl 38 3 Try.underlying42 _ M k D rfl (hown5.alloc _) ?_; rw [SZ.out])
            | (at_mapUpdate; refine wpList_mapUpdate_own _ rfl _ _ _ 42 rfl 38 3 lawK Try.underlying42 _ M k D rfl (hown5.alloc _) hmax _ _ l rfl rfl hl (.lit (.int .i64 N)) [] (plainElem_int Try.underlying3 hwf) ?_; intro w6 hown6 hgrow6; have hrow6 := (hrow5.alloc _).kept hgrow6 (.inr (by simp [Value.ownBlock]; omega)); have hc6 := hrow6.cellAt k (by omega); have hfz6 := hrow6.frozenAt k)
            | go_in)
          have hB6 : Below w.heap.size w w6 := (hB5.alloc (by omega) _).grown hgrow6 (by simp; omega) (fun k e => by cases e; omega)
          exact ⟨⟨k + 1, _, xs.set k (.int .i64 N), by omega, by simp, (hrow6.stored k _).1, Lib.hid (set_num f xs k N hxs.out HN.out hlen hlt), hown6.setCell (by show M ≠ w.heap.size; omega) _, HH, hB6.setCell (Nat.le_refl _) _⟩, by simp [intOf]; omega⟩
      · have e : k = 256 := by omega
        subst e
        have hlen : xs.length = 256 := by have := hrow.1; omega
        have E := all_num f xs hxs.out hlen
        subst E
        go_wp2_with fail
        go_ret
        exact ⟨rfl, hrow, hB⟩
end Go.Proofs.Ytcajlldecdjdlaa
