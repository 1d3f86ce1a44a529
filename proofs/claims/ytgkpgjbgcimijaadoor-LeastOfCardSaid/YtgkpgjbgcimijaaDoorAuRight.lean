/-
  The walk of dfa.Right: whether an automaton is right. Conditions: the automaton lies in memory.
-/
import Derived.Test.YtgkpgjbgcimijaaDoorAuDfa
namespace Go.Proofs.YtgkpgjbgcimijaaDoor
set_option linter.unusedVariables false
set_option linter.unusedSimpArgs false
open Go.RowKit Go.Maps Go.Sort Go.ChangeShapes Go.WideShapes

def inB (many : Nat) (l : List Int) : Bool := l.all fun n => decide (0 ≤ n) && decide (n < many)
theorem rowB_eq (wide : Int) (many : Nat) (l : List Int) : rowB wide many l = (decide ((l.length : Int) = wide) && inB many l) := rfl
theorem inB_take {many : Nat} {l : List Int} {j : Nat} {x : Int} (hx : l[j]? = some x) : inB many (l.take (j + 1)) = (inB many (l.take j) && (decide (0 ≤ x) && decide (x < many))) := by
  have ht : l.take (j + 1) = l.take j ++ [x] := by rw [List.take_add_one, hx]; rfl
  rw [ht, inB, List.all_append, inB]; simp
theorem inB_no {many : Nat} {l : List Int} {j : Nat} {x : Int} (hx : l[j]? = some x) (h : (decide (0 ≤ x) && decide (x < many)) = false) : inB many l = false := by
  unfold inB
  rw [List.all_eq_false]
  exact ⟨x, List.mem_of_getElem? hx, by simp [h]⟩

set_option maxHeartbeats 4000000 in
set_option maxRecDepth 100000 in
theorem rclo_any (p M : Nat) (x : Int) (B : Bool) (w : World) (hp : w.cell? ⟨p, 0, none⟩ = some (.int .i64 M)) (hx1 : -9223372036854775808 ≤ x) (hx2 : x ≤ 9223372036854775807) (hM : M ≤ 9223372036854775807) (hB : (decide (0 ≤ x) && decide (x < M)) = B) :
    Calls Tryd.prog 47 #[.int .i64 x, .pointer (some ⟨p, 0, none⟩)] w fun e w' => e = .returned (.bool (!B)) ∧ w' = w := by
  subst hB
  go_enter Tryd.func47, Tryd.ntmps47
  by_cases c1 : x < 0
  · go_wp2_with fail
    go_ret
    exact ⟨ret_bool (by simp; try omega), rfl⟩
  · by_cases c2 : (M : Int) ≤ x
    · go_wp2_with fail
      go_ret
      exact ⟨ret_bool (by simp; try omega), rfl⟩
    · go_wp2_with fail
      go_ret
      exact ⟨ret_bool (by simp; try omega), rfl⟩
set_option maxHeartbeats 4000000 in
set_option maxRecDepth 100000 in
theorem idxf_any (p M : Nat) (v : Value) (l : List Int) (w : World) (h : IntsAt w v l) (hi : IntsIn l) (hp : w.cell? ⟨p, 0, none⟩ = some (.int .i64 M)) (hM : M ≤ 9223372036854775807) :
    Calls Tryd.prog 54 #[v, .func (.func 47) #[] #[.pointer (some ⟨p, 0, none⟩)]] w fun e w' => (∃ k : Int, e = .returned (.int .i64 k) ∧ decide (0 ≤ k) = !inB M l ∧ -1 ≤ k ∧ k ≤ 9223372036854775807) ∧ w' = w := by
  obtain ⟨a, cap, rfl, -⟩ := id h
  have hl := hi.1
  have HI := Lib.hid (And.intro h hi)
  clear h hi
  go_enter Tryd.func54, Tryd.ntmps54
  go_wp2_with fail
  go_loop [5, 8] (fun _ c => ∃ j : Nat, j ≤ l.length ∧ c = .int .i64 j ∧ Hid (inB M (l.take j) = true)) (fun _ c => l.length - (intOf c).toNat)
  case atStart => exact ⟨0, by omega, rfl, Lib.hid rfl⟩
  case round =>
    obtain ⟨j, hj, rfl, hok⟩ := hrel
    by_cases hlt : j < l.length
    · obtain ⟨x, hx⟩ : ∃ x, l[j]? = some x := ⟨_, List.getElem?_eq_getElem hlt⟩
      obtain ⟨hx1, hx2⟩ := HI.out.2.2 x (List.mem_of_getElem? hx)
      obtain ⟨b, off, rfl, m0⟩ := HI.out.1.get hx
      have HX := Lib.hid hx
      clear hx
      cases hB : (decide (0 ≤ x) && decide (x < M)) with
      | true =>
        have hcall := rclo_any p M x true w hp hx1 hx2 hM hB
        have HB := Lib.hid hB
        clear hB hp
        go_wp2_with fail
        refine hcall.mono ?_
        rintro e w1 ⟨rfl, rfl⟩
        go_wp2_with fail
        go_round
        case rel => exact ⟨j + 1, by omega, by go_num, Lib.hid (by rw [inB_take HX.out, hok.out, HB.out]; rfl)⟩
        case measure => simp [intOf]; omega
      | false =>
        have hcall := rclo_any p M x false w hp hx1 hx2 hM hB
        have HB := Lib.hid hB
        clear hB hp
        go_wp2_with fail
        refine hcall.mono ?_
        rintro e w1 ⟨rfl, rfl⟩
        go_wp2_with fail
        go_ret
        exact ⟨⟨(j : Int), rfl, by rw [inB_no HX.out HB.out]; simp, by omega, by omega⟩, rfl⟩
    · obtain rfl : j = l.length := by omega
      have hok' := hok.out
      rw [List.take_length] at hok'
      have HOK := Lib.hid hok'
      clear hok' hok
      go_wp2_with fail
      go_ret
      exact ⟨⟨-1, rfl, by rw [HOK.out]; rfl, by omega, by omega⟩, rfl⟩
set_option maxHeartbeats 4000000 in
set_option maxRecDepth 100000 in
theorem conf_any (p M : Nat) (v : Value) (l : List Int) (w : World) (h : IntsAt w v l) (hi : IntsIn l) (hp : w.cell? ⟨p, 0, none⟩ = some (.int .i64 M)) (hM : M ≤ 9223372036854775807) :
    Calls Tryd.prog 46 #[v, .func (.func 47) #[] #[.pointer (some ⟨p, 0, none⟩)]] w fun e w' => e = .returned (.bool (!inB M l)) ∧ w' = w := by
  have hc := idxf_any p M v l w h hi hp hM
  go_enter Tryd.func46, Tryd.ntmps46
  go_wp2_with fail
  refine hc.mono ?_
  rintro e w1 ⟨⟨k, rfl, hk, h1, h2⟩, rfl⟩
  go_wp2_with fail
  go_ret
  exact ⟨ret_bool (by rw [← hk]), rfl⟩

set_option maxHeartbeats 8000000 in
set_option maxRecDepth 100000 in
theorem dright_any (v : Value) (D : DfaI) (w : World) (h : DfaAt w v D) (hD : D.In) : Calls Tryd.prog 28 #[v] w fun e w' => e = .returned (.bool (rightD D)) ∧ Below w.heap.size w w' := by
  obtain ⟨fv, bv, nv, rfl, hf, hb, hn⟩ := h
  obtain ⟨af, cf, rfl, -⟩ := id hf
  obtain ⟨ab, cb, rfl, -⟩ := id hb
  obtain ⟨an, cn, rfl, -⟩ := id hn
  obtain ⟨hS1, hS2⟩ := hD.start
  have hF := hD.fin
  have hM := hD.many
  obtain ⟨S, hS⟩ : ∃ S, D.start = S := ⟨_, rfl⟩
  obtain ⟨M, hMe⟩ : ∃ M, D.next.length = M := ⟨_, rfl⟩
  obtain ⟨F, hFe⟩ : ∃ F, D.fin.length = F := ⟨_, rfl⟩
  have hR : rightD D = ((decide (1 ≤ M) && decide (M ≤ 4096) && decide (F = M) && decide (0 ≤ S) && decide (S < M)) && (decide (0 < wideI D) && D.next.all (rowB (wideI D) M))) := by rw [rightD, hS, hMe, hFe]
  rw [hS] at hS1 hS2
  rw [hFe] at hF
  rw [hMe] at hM
  simp only [hS, hMe, hFe]
  have hbw := (Below.refl w.heap.size w).alloc (Nat.le_refl _) (.cells #[.int .i64 S, .slice af F cf, .slice ab D.block.length cb, .slice an M cn] 26)
  have hq := Blk.new w 26 #[.int .i64 S, .slice af F cf, .slice ab D.block.length cb, .slice an M cn]
  obtain ⟨⟨y0, y1, y2, y3⟩, -⟩ := hq.c4
  have H := Lib.hid (And.intro hb (And.intro hn (And.intro hD (And.intro hMe (And.intro hR (And.intro hbw hq))))))
  clear hf hb hn hbw hq hD hMe hFe hR hS
  go_enter Tryd.func28, Tryd.ntmps28
  by_cases k1 : M < 1
  · go_wp2_with fail
    go_ret
    exact ⟨ret_bool (by rw [H.out.2.2.2.2.1]; simp; omega), H.out.2.2.2.2.2.1.alloc (by simp) _⟩
  by_cases k2 : 4096 < M
  · go_wp2_with fail
    go_ret
    exact ⟨ret_bool (by rw [H.out.2.2.2.2.1]; simp; omega), H.out.2.2.2.2.2.1.alloc (by simp) _⟩
  by_cases k3 : F = M
  case neg =>
    have k3' : ((F : Int) == (M : Int)) = false := by simp; omega
    go_wp2_with fail
    go_ret
    exact ⟨ret_bool (by rw [H.out.2.2.2.2.1]; simp; omega), H.out.2.2.2.2.2.1.alloc (by simp) _⟩
  obtain rfl : F = M := k3
  by_cases k4 : S < 0
  · go_wp2_with fail
    go_ret
    exact ⟨ret_bool (by rw [H.out.2.2.2.2.1]; simp; omega), H.out.2.2.2.2.2.1.alloc (by simp) _⟩
  by_cases k5 : F ≤ S
  · go_wp2_with fail
    go_ret
    exact ⟨ret_bool (by rw [H.out.2.2.2.2.1]; simp; omega), H.out.2.2.2.2.2.1.alloc (by simp) _⟩
  have hbw0 := H.out.2.2.2.2.2.1.alloc (by simp) (.cells #[.int .i64 (F : Int)] 3)
  have hq0 := H.out.2.2.2.2.2.2.alloc (.cells #[.int .i64 (F : Int)] 3)
  have hp0 := Blk.new (w.alloc (.cells #[.int .i64 S, .slice af F cf, .slice ab D.block.length cb, .slice an F cn] 26)) 3 #[.int .i64 (F : Int)]
  have hz0 : ((w.alloc (.cells #[.int .i64 S, .slice af F cf, .slice ab D.block.length cb, .slice an F cn] 26)).alloc (.cells #[.int .i64 (F : Int)] 3)).heap.size = w.heap.size + 2 := by simp
  have hz1 : (w.alloc (.cells #[.int .i64 S, .slice af F cf, .slice ab D.block.length cb, .slice an F cn] 26)).heap.size = w.heap.size + 1 := by simp
  rw [hz1] at hp0
  have hcount := count_any ab D.block.length cb D.z ((w.alloc (.cells #[.int .i64 S, .slice af F cf, .slice ab D.block.length cb, .slice an F cn] 26)).alloc (.cells #[.int .i64 (F : Int)] 3)) ((H.out.1.below hbw0).isInts H.out.2.2.1.block)
  have HW := Lib.hid (And.intro hbw0 (And.intro hq0 hp0))
  clear hbw0 hq0 hp0
  have hl : D.block.length ≤ 9223372036854775807 := H.out.2.2.1.block.1
  go_wp2_with fail
  refine hcount.mono ?_
  rintro e w1 ⟨rfl, b1⟩
  clear hcount
  rw [hz0] at b1
  have hz2 := b1.size
  rw [hz0] at hz2
  have HW1 := Lib.hid (And.intro (HW.out.1.trans (b1.mono (by omega))) (And.intro (HW.out.2.1.below b1 (by omega)) (HW.out.2.2.below b1 (by omega))))
  clear b1 HW
  obtain ⟨y0, y1, y2, y3⟩ := HW1.out.2.1.c4.1
  have p0 := HW1.out.2.2.cell 0
  simp at p0
  obtain ⟨wd, hwd⟩ : ∃ wd, wideI D = wd := ⟨_, rfl⟩
  have hcd : countI D.z D.block.length = wd := hwd
  have hR := H.out.2.2.2.2.1
  rw [hwd] at hR
  have hR2 : rightD D = (decide (0 < wd) && D.next.all (rowB wd F)) := by rw [hR]; simp; omega
  have HR := Lib.hid (And.intro hR2 hwd)
  rw [hcd]
  clear hR hR2 hwd hcd
  have HN := Lib.hid (H.out.2.1.below HW1.out.1)
  go_wp2_with fail
  go_loop [6, 40] (fun _ c => ∃ j : Nat, j ≤ F ∧ c = .int .i64 j ∧ Hid ((D.next.take j).all (rowB wd F) = true)) (fun _ c => F - (intOf c).toNat)
  case atStart => exact ⟨0, by omega, rfl, Lib.hid rfl⟩
  case round =>
    obtain ⟨j, hj, rfl, hok⟩ := hrel
    have hlen := H.out.2.2.2.1
    by_cases hlt : j < F
    · obtain ⟨l, hl⟩ : ∃ l, D.next[j]? = some l := ⟨_, List.getElem?_eq_getElem (by omega)⟩
      have hlm := List.mem_of_getElem? hl
      have hlI := H.out.2.2.1.rows l hlm
      obtain ⟨b, off, a, c, rfl, m0, hIl⟩ := HN.out.get hl
      have HL := Lib.hid (And.intro hl hlm)
      have hlz := hlI.1
      clear hl hlm
      have hno : rowB wd F l = false → D.next.all (rowB wd F) = false := fun h => by
        rw [List.all_eq_false]
        exact ⟨l, HL.out.2, by simp [h]⟩
      have hyes : rowB wd F l = true → (D.next.take (j + 1)).all (rowB wd F) = true := fun h => by
        have ht : D.next.take (j + 1) = D.next.take j ++ [l] := by rw [List.take_add_one, HL.out.1]; rfl
        rw [ht, List.all_append, hok.out]
        simp [h]
      have HNY := Lib.hid (And.intro hno hyes)
      clear hno hyes hlen
      by_cases k6 : (l.length : Int) = wd
      · have k6' : ((l.length : Int) != wd) = false := by simp [k6]
        have K6 := Lib.hid k6
        have hcf := conf_any (w.heap.size + 1) F (.slice a l.length c) l w1 hIl hlI p0 hM
        clear k6
        cases hB : inB F l with
        | true =>
          rw [hB] at hcf
          have HB := Lib.hid hB
          clear hB
          go_wp2_with fail
          refine hcf.mono ?_
          rintro e w2 ⟨rfl, rfl⟩
          go_wp2_with fail
          go_round
          case rel => exact ⟨j + 1, by omega, by go_num, Lib.hid (HNY.out.2 (by rw [rowB_eq, HB.out, K6.out]; simp))⟩
          case measure => simp [intOf]; omega
        | false =>
          rw [hB] at hcf
          have HB := Lib.hid hB
          clear hB
          go_wp2_with fail
          refine hcf.mono ?_
          rintro e w2 ⟨rfl, rfl⟩
          go_wp2_with fail
          go_ret
          exact ⟨ret_bool (by rw [HR.out.1, HNY.out.1 (by rw [rowB_eq, HB.out]; simp)]; simp), HW1.out.1⟩
      · have k6' : ((l.length : Int) != wd) = true := by simp [k6]
        have K6 := Lib.hid k6
        clear k6
        go_wp2_with fail
        go_ret
        exact ⟨ret_bool (by rw [HR.out.1, HNY.out.1 (by rw [rowB_eq, decide_eq_false K6.out]; rfl)]; simp), HW1.out.1⟩
    · obtain rfl : j = F := by omega
      have hok' := hok.out
      rw [List.take_of_length_le (by omega)] at hok'
      have HOK := Lib.hid hok'
      clear hok' hok hlen
      by_cases k7 : 0 < wd
      · go_wp2_with fail
        go_ret
        exact ⟨ret_bool (by rw [HR.out.1, HOK.out]; simp; try omega), HW1.out.1⟩
      · go_wp2_with fail
        go_ret
        exact ⟨ret_bool (by rw [HR.out.1, HOK.out]; simp; try omega), HW1.out.1⟩
end Go.Proofs.YtgkpgjbgcimijaaDoor
