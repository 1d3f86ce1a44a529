/-
  The walk of least's met. Conditions: the closure's own contract.
-/
import Derived.Test.YtgkpgjbgcimijaaDoorAuMaps
import Derived.Test.YtgkpgjbgcimijaaDoorAuOpen
import Derived.Test.YtgkpgjbgcimijaaDoorAuBfs
namespace Go.Proofs.YtgkpgjbgcimijaaDoor
set_option linter.unusedVariables false
set_option linter.unusedSimpArgs false
open Go.RowKit Go.Maps Go.Sort Go.ChangeShapes Go.WideShapes

/-- things as they are met from a first one on -/
def metF (f : Nat → Nat → Nat) (wide : Nat) : Nat → Nat → List Nat → List Nat := bfs addN fun n => (List.range wide).map (f n)
def stepsTo (f : Nat → Nat → Nat) (n : Nat) (k : Nat) (o : List Nat) : List Nat := ((List.range k).map (f n)).foldl addN o
theorem stepsTo_next (f : Nat → Nat → Nat) (n k : Nat) (o : List Nat) : stepsTo f n (k + 1) o = addN (stepsTo f n k o) (f n k) := by
  simp [stepsTo, List.range_succ]
theorem addN_len (o : List Nat) (x : Nat) : o.length ≤ (addN o x).length ∧ (addN o x).length ≤ o.length + 1 := by
  unfold addN; split <;> simp
theorem addN_pre (o : List Nat) (x : Nat) : ∃ t, addN o x = o ++ t := by
  unfold addN; split
  · exact ⟨[], by simp⟩
  · exact ⟨[x], rfl⟩
theorem stepsTo_pre (f : Nat → Nat → Nat) (n : Nat) (o : List Nat) : ∀ k, ∃ t, stepsTo f n k o = o ++ t
  | 0 => ⟨[], by simp [stepsTo]⟩
  | k + 1 => by
    obtain ⟨t, ht⟩ := stepsTo_pre f n o k
    obtain ⟨t', ht'⟩ := addN_pre (stepsTo f n k o) (f n k)
    exact ⟨t ++ t', by rw [stepsTo_next, ht', ht, List.append_assoc]⟩
theorem stepsTo_in {f : Nat → Nat → Nat} {M n : Nat} {o : List Nat} (ho : o.Nodup ∧ ∀ x ∈ o, x < M) : ∀ k, (∀ j, j < k → f n j < M) → (stepsTo f n k o).Nodup ∧ ∀ x ∈ stepsTo f n k o, x < M
  | 0, _ => by simpa [stepsTo] using ho
  | k + 1, h => by
    obtain ⟨h1, h2⟩ := stepsTo_in ho k fun j hj => h j (by omega)
    rw [stepsTo_next]
    refine ⟨addN_nodup h1, fun x hx => ?_⟩
    rcases addN_mem.1 hx with h3 | h3
    · exact h2 x h3
    · rw [h3]; exact h k (by omega)
theorem few_of {o : List Nat} {M : Nat} (h : o.Nodup ∧ ∀ x ∈ o, x < M) : o.length ≤ M := by
  have := nodup_sub o (List.range M) h.1 fun x hx => by simpa using h.2 x hx
  simpa using this

set_option maxRecDepth 100000 in
set_option maxHeartbeats 8000000 in
theorem met_any (g : FuncId) (cs : Array Value) (hg : (g = 29 ∧ ∃ c0, cs = #[c0]) ∨ (g = 25 ∧ ∃ c0 c1, cs = #[c0, c1])) (f : Nat → Nat → Nat) (first wide M fuel : Nat) (w : World) (hM : M ≤ 1000000) (hwd : wide ≤ 1000000)
    (hf : ∀ n k, n < M → k < wide → f n k < M) (hfi : first < M) (hfu : M < fuel)
    (hnext : ∀ n k W, n < M → k < wide → Below w.heap.size w W → Calls Tryd.prog g (#[.int .i64 n, .int .i64 k] ++ cs) W fun e W' => e = .returned (.int .i64 (f n k)) ∧ Below W.heap.size W W') :
    Calls Tryd.prog 24 #[.int .i64 first, .int .i64 wide, .func (.func g) #[] cs] w fun e w' => ∃ v, e = .returned v ∧ w'.ownsRow (w.heap.size + 1) 3 1 v (metF f wide fuel 0 [first]).length (natCells (metF f wide fuel 0 [first])) ∧ Below w.heap.size w w' := by
  have hmm := @run_makeMap Tryd.prog
  obtain ⟨i0, hi0, hz00, hz01, hz02⟩ := info_parts infoInt
  have hfl : first ≤ maxLen := by unfold maxLen; omega
  obtain ⟨w2, hput, hs2, hg2⟩ := (SeenAt.none w).put hfl (by decide)
  rcases hg with ⟨rfl, c0, rfl⟩ | ⟨rfl, c0, c1, rfl⟩
  all_goals
    go_enter Tryd.func24, Tryd.ntmps24
    have hz2 : w.heap.size < w2.heap.size := by have := hs2.lt; omega
    have hB2 : Below w.heap.size w w2 := ((Below.refl w.heap.size w).alloc (Nat.le_refl _) (.map #[] 0)).grown hg2 (by simp) (fun k e => by cases e; exact Nat.le_refl _)
    have hown0 := World.ownsRow_lit (base := w.heap.size + 1) (e := 3) (size := 1) w2 #[.int .i64 (first : Int)] 1 (by omega) (by decide) (by simp)
    have hs0 := hs2.kept (grown_alloc w2 (.cells #[.int .i64 (first : Int)] 3)) (by simp)
    have hB0 := hB2.alloc (by omega) (.cells #[.int .i64 (first : Int)] 3)
    clear hg2 hs2 hB2
    go_wp2_with fail
    clear hput
    generalize w2.alloc (.cells #[.int .i64 (first : Int)] 3) = W0 at *
    go_loopw [8, 9, 10, 11] (fun c8 c9 _ _ wr => ∃ (i fu n : Nat) (o S : List Nat), c9 = .int .i64 i ∧ wr.ownsRow (w.heap.size + 1) 3 1 c8 o.length (natCells o) ∧ SeenAt wr w.heap.size n S ∧ Hid ((∀ x, x ∈ S ↔ x ∈ o) ∧ metF f wide fuel 0 [first] = metF f wide fu i o ∧ (o.Nodup ∧ ∀ x ∈ o, x < M)) ∧ n = o.length ∧ i ≤ o.length ∧ M < i + fu ∧ o.length ≤ M ∧ Below w.heap.size w wr) (fun _ c _ _ _ => M - (intOf c).toNat)
    case atStart =>
      refine ⟨0, fuel, 1, [first], [first], rfl, hown0, hs0, Lib.hid ⟨fun x => Iff.rfl, rfl, by simp, fun x hx => ?_⟩, rfl, by simp, by omega, by simp; omega, hB0⟩
      obtain rfl := List.mem_singleton.1 hx
      exact hfi
    case round =>
      clear hown0 hs0 hB0
      obtain ⟨i, fu, n, o, S, rfl, hown, hS, hh, rfl, hio, hfu2, hoM, hB⟩ := hrel
      obtain ⟨ao, capo, rfl⟩ := own_shape hown
      by_cases hlt : i < o.length
      · have k1 : decide (i < o.length) = true := decide_eq_true hlt
        obtain ⟨x, hx⟩ : ∃ x, o[i]? = some x := ⟨_, List.getElem?_eq_getElem hlt⟩
        have hxM := hh.out.2.2.2 x (List.mem_of_getElem? hx)
        have HX := Lib.hid hx
        have HO := Lib.hid (And.intro hown (And.intro hS hB))
        clear hx hown hS hB
        go_wp2_with fail
        go_loopw [8, 10, 11, 24] (fun c8 _ _ c24 wi => ∃ (k n : Nat) (o' S : List Nat), k ≤ wide ∧ c24 = .int .i64 k ∧ wi.ownsRow (w.heap.size + 1) 3 1 c8 o'.length (natCells o') ∧ SeenAt wi w.heap.size n S ∧ Hid ((∀ x, x ∈ S ↔ x ∈ o') ∧ o' = stepsTo f x k o) ∧ n = o'.length ∧ Below w.heap.size w wi) (fun _ _ _ c _ => wide - (intOf c).toNat)
        case atStart => exact ⟨0, o.length, o, S, by omega, rfl, HO.out.1, HO.out.2.1, Lib.hid ⟨hh.out.1, rfl⟩, rfl, HO.out.2.2⟩
        case round =>
          clear HO
          obtain ⟨k, n, o', S', hk, rfl, hown, hS, hh', rfl, hB⟩ := hrel
          obtain ⟨ho'n, ho'M⟩ : o'.Nodup ∧ ∀ y ∈ o', y < M := by
            rw [hh'.out.2]; exact stepsTo_in hh.out.2.2 k fun j hj => hf x j hxM (by omega)
          have hol := few_of ⟨ho'n, ho'M⟩
          obtain ⟨tl, htl⟩ := stepsTo_pre f x o k
          have hx' : o'[i]? = some x := by rw [hh'.out.2, htl, List.getElem?_append_left hlt]; exact HX.out
          have hlt' : i < o'.length := (List.getElem?_eq_some_iff.1 hx').1
          have HM := Lib.hid (And.intro ho'n ho'M)
          clear ho'n ho'M htl
          by_cases hkw : k < wide
          · have q1 : decide (k < wide) = true := decide_eq_true hkw
            obtain ⟨a8, cap8, rfl⟩ := own_shape hown
            obtain ⟨b8, cp8, he8, -, hb8⟩ := hown.form (by omega)
            have he8' : a8 = some ⟨b8, 0, none⟩ := by simpa using (Value.slice.inj he8).1
            subst he8'
            have m0 := hown.cellAt i (by omega)
            rw [natCells_at hx'] at m0
            have hcall := hnext x k wr hxM hkw hB
            obtain ⟨z, hz⟩ : ∃ z, f x k = z := ⟨_, rfl⟩
            have hzM : z < M := by rw [← hz]; exact hf x k hxM hkw
            rw [hz] at hcall
            have HZ := Lib.hid hz
            have hzl : z ≤ maxLen := by unfold maxLen; omega
            have HOwn := Lib.hid (And.intro hown (And.intro hS hB))
            clear hown hS hB hz hx'
            go_wp2_with fail
            refine hcall.mono ?_
            rintro e w5 ⟨rfl, b5⟩
            have hown5 := HOwn.out.1.kept (grown_below b5) (.inr (by simp [Value.ownBlock]))
            have hS5 := HOwn.out.2.1.kept (grown_below b5) (by simp)
            have hB5 := HOwn.out.2.2.trans (b5.mono HOwn.out.2.2.size)
            have hlook := hS5.look hzl
            have hm5 := hS5.lt
            clear HOwn m0 b5 hcall
            by_cases hzS : z ∈ S'
            · rw [decide_eq_true hzS] at hlook
              have HIn := Lib.hid ((hh'.out.1 z).1 hzS)
              clear hzS
              go_wp2_with fail
              go_roundw
              case rel =>
                refine ⟨k + 1, o'.length, o', S', by omega, by go_num, hown5, hS5, Lib.hid ⟨hh'.out.1, ?_⟩, rfl, hB5⟩
                rw [stepsTo_next, HZ.out, ← hh'.out.2, addN, if_pos HIn.out]
              case measure => simp [intOf]; omega
            · rw [decide_eq_false hzS] at hlook
              have HOut := Lib.hid (fun hm => hzS ((hh'.out.1 z).2 hm))
              obtain ⟨w6, hput6, hS6, hg6⟩ := hS5.put hzl (by unfold maxLen; omega)
              have hown6 := hown5.kept hg6 (.inr (fun e => by have := (hown5.lt b8 rfl).1; simp [Value.ownBlock] at e; omega))
              have hB6 := hB5.grown hg6 (by omega) (fun j e => by cases e; exact Nat.le_refl _)
              have hone := one_at (w := w6) (u := .int .i64 (z : Int)) (t := 3)
              have hown7 := hown6.alloc (.cells #[.int .i64 (z : Int)] 3)
              have hz6 := hS6.lt
              clear hzS hS5 hB5 hown5 hg6
              go_wp2_with (at_builtin; refine wpList_append_own _ rfl _ _ 23 rfl (w.heap.size + 1) 3 i0 (.int .i64 0) 1 8 Tryd.underlying23 hi0 hz00 hz01 hz02 rfl (by decide) _ _ _ rfl hown7 ⟨w6.heap.size, 0, none⟩ 1 1 [.int .i64 (z : Int)] rfl rfl hone (fun u hu => by simp at hu; subst hu; rfl) (by unfold maxLen; omega) (by omega) (by simp; omega) ?_; intro v' w8 hown8 hgrow8 _)
              go_roundw
              case rel =>
                refine ⟨k + 1, o'.length + 1, o' ++ [z], z :: S', by omega, by go_num, ?_, (hS6.kept (grown_alloc w6 _) (by simp)).kept hgrow8 (fun e => ?_), Lib.hid ⟨fun y => ?_, ?_⟩, by simp, (hB6.alloc (by omega) _).grown hgrow8 (by simp; omega) (fun j e => by have := (hown6.lt j e).1; omega)⟩
                · rw [natCells_snoc, List.length_append]; exact hown8
                · have := (hown6.lt w.heap.size e.symm).1; omega
                · rw [List.mem_cons, hh'.out.1 y, List.mem_append, List.mem_singleton]
                  exact Or.comm
                · rw [stepsTo_next, HZ.out, ← hh'.out.2, addN, if_neg HOut.out]
              case measure => simp [intOf]; omega
          · obtain rfl : k = wide := by omega
            have q1 : decide (k < k) = false := decide_eq_false (by omega)
            have HOwn := Lib.hid (And.intro hown (And.intro hS hB))
            clear hown hS hB hx'
            go_wp2_with fail
            go_roundw
            case rel =>
              obtain ⟨fu', rfl⟩ : ∃ q, fu = q + 1 := ⟨fu - 1, by omega⟩
              refine ⟨i + 1, fu', o'.length, o', S', by go_num, HOwn.out.1, HOwn.out.2.1, Lib.hid ⟨hh'.out.1, ?_, HM.out⟩, rfl, by omega, by omega, hol, HOwn.out.2.2⟩
              rw [hh.out.2.1]
              show bfs addN _ (fu' + 1) i o = _
              rw [bfs, HX.out]
              simp only
              rw [hh'.out.2]
              rfl
            case measure => simp [intOf]; omega
      · obtain rfl : i = o.length := by omega
        have k1 : decide (o.length < o.length) = false := decide_eq_false (by omega)
        have he : metF f wide fuel 0 [first] = o := by
          rw [hh.out.2.1]
          obtain ⟨fu', rfl⟩ : ∃ q, fu = q + 1 := ⟨fu - 1, by omega⟩
          show bfs addN _ (fu' + 1) o.length o = o
          rw [bfs, List.getElem?_eq_none (Nat.le_refl _)]
        have HE := Lib.hid he
        clear he
        go_wp2_with fail
        go_ret
        refine ⟨_, rfl, ?_⟩
        rw [HE.out]
        exact ⟨hown, hB⟩
end Go.Proofs.YtgkpgjbgcimijaaDoor
