/-
  The walk of lang.First. Conditions: the automaton lies in memory.
-/
import Derived.Test.YtmmlakheimfijaaGreatDoorJLgAll
import Derived.Test.YtmmlakheimfijaaGreatDoorJLgRes
import Derived.Deep.CutBlock
namespace Go.Proofs.YtmmlakheimfijaaGreatDoor
set_option linter.unusedVariables false
set_option linter.unusedSimpArgs false
open Go.RowKit Go.Maps Go.Sort Go.ChangeShapes Go.WideShapes

theorem find_atS {α : Type} {p : α → Bool} : ∀ {l : List α} {j : Nat} {x : α}, l[j]? = some x → p x = true → (∀ y ∈ l.take j, p y = false) → l.find? p = some x
  | y :: l, 0, x, hx, hp, _ => by
    cases hx
    rw [List.find?_cons, hp]
  | y :: l, j + 1, x, hx, hp, hn => by
    rw [List.find?_cons, hn y (by simp)]
    exact find_atS (j := j) (by simpa using hx) hp fun z hz => hn z (by simp [hz])
theorem find_noS {α : Type} {p : α → Bool} {l : List α} (h : ∀ y ∈ l, p y = false) : l.find? p = none :=
  List.find?_eq_none.2 fun y hy => by rw [h y hy]; decide
theorem recv_run (o : Oper) (ho : o.op = .recv 43 (.tmp 9) true) (ρ : Operand → Value) (c : Nat) (w : World) (hρ : ρ (.tmp 9) = .chan (some c)) :
    (execOp ρ o).run Tryz.prog w = .ok (.comm #[Conc.rcase c (.agg #[.int .i64 0, .string ⟨#[]⟩])] true (.recv true)) w := by
  have hu := Tryz.underlying43
  have hz := Tryz.zeroValue46 w
  unfold execOp Conc.rcase
  rw [ho]
  go_simp
set_option maxHeartbeats 8000000 in
set_option maxRecDepth 1000000 in
theorem lfirst_any (v : Value) (D : DfaI) (w : World) (h : DfaAt w v D) (hD : D.In) : Calls Tryz.prog 9 #[v] w fun e w' => e = .returned (firstV D) ∧ Below w.heap.size w w' := by
  cases hr : rightD D with
  | false =>
    obtain ⟨S, af, ab, an, F, B, M, cf, cb, cn, hS, hF, hB, hM, rfl⟩ := h.form
    have hal := (Below.refl w.heap.size w).alloc (Nat.le_refl _) (.cells #[.int .i64 S, .slice af F cf, .slice ab B cb, .slice an M cn] 26)
    have hq := Blk.new w 26 #[.int .i64 S, .slice af F cf, .slice ab B cb, .slice an M cn]
    obtain ⟨⟨y0, y1, y2, y3⟩, -⟩ := hq.c4
    have hcall := dright_any _ D _ (h.below hal) hD
    have H := Lib.hid hal
    have hre : firstV D = .tuple #[.string ⟨#[]⟩, .bool false] := by unfold firstV firstRes; rw [if_neg (by rw [hr]; decide)]; rfl
    rw [hr] at hcall
    rw [hre]
    clear h hal hq hr hre hS hF hB hM
    go_enter Tryz.func9, Tryz.ntmps9
    go_wp2_with fail
    refine hcall.mono ?_
    rintro e w1 ⟨rfl, b1⟩
    clear y0 y1 y2 y3
    go_wp2_with fail
    refine bodyPost_ret (results_tmp2 rfl _ _ _) rfl ?_
    exact ⟨rfl, H.out.trans (b1.mono (by simp))⟩
  | true =>
    have hR := rightD_iff.1 hr
    have hall := fun W => all_any v D W
    obtain ⟨S, M, af, ab, an, cf, cb, cn, hS, hM, rfl, hd⟩ := RefD.mk_ h hR
    have hal := (Below.refl w.heap.size w).alloc (Nat.le_refl _) (.cells #[.int .i64 (S : Int), .slice af M cf, .slice ab 256 cb, .slice an M cn] 26)
    have hcall := dright_any _ D _ (h.below hal) hD
    have hre : firstRes D = firstD D := by unfold firstRes; rw [if_pos hr]
    have hM4 : M ≤ 4096 := by have := hR.m2; omega
    have hz1 : (w.alloc (.cells #[.int .i64 (S : Int), .slice af M cf, .slice ab 256 cb, .slice an M cn] 26)).heap.size = w.heap.size + 1 := by simp
    rw [hr] at hcall
    obtain ⟨⟨y0, y1, y2, y3⟩, -⟩ := hd.q.c4
    have H := Lib.hid (And.intro hal (And.intro hd (And.intro (h.below hal) hall)))
    have hst : ∀ x ∈ swD D.aut, x.1 < M := fun x hx => by
      obtain ⟨h1, h2⟩ := swD_in x hx
      rw [← h2, ← hM, ← D.nx_len]
      exact Aut.run_in hR.ok _ _ hR.ok.st h1
    have HP := Lib.hid (And.intro hR (And.intro hM (And.intro hre hst)))
    clear h hal hd hr hre hR hS hM hall hst
    go_enter Tryz.func9, Tryz.ntmps9
    go_wp2_with fail
    generalize w.alloc (.cells #[.int .i64 (S : Int), .slice af M cf, .slice ab 256 cb, .slice an M cn] 26) = W at *
    refine hcall.mono ?_
    rintro e w1 ⟨rfl, b1⟩
    clear y0 y1 y2 y3 hcall
    have hzz := b1.size
    have hd1 := H.out.2.1.below b1
    have hbw := H.out.1.trans (b1.mono H.out.1.size)
    have hcall := H.out.2.2.2 w1 (H.out.2.2.1.below b1) HP.out.1
    obtain ⟨⟨y0, y1, y2, y3⟩, -⟩ := hd1.q.c4
    have H1 := Lib.hid (And.intro hbw hd1)
    clear H b1 hd1 hbw
    go_wp2_with fail
    refine hcall.mono ?_
    rintro e w2 ⟨ch, sn, rfl, hch, hc, b2⟩
    rw [HP.out.2.1] at hc
    obtain ⟨L, hL⟩ : ∃ L, swD D.aut = L := ⟨_, rfl⟩
    rw [hL] at hc
    have HL := Lib.hid hL
    have H2 := Lib.hid (And.intro hc b2)
    clear y0 y1 y2 y3 hcall hc b2 hL
    go_wp2_with fail
    go_loopg [] L.length (fun gk wr => ∃ (j s r : Nat), gk + j = L.length ∧ Hid (∀ x ∈ L.take j, D.aut.fin x.1 = false) ∧ wr.heap[ch]? = some (.chan M ((L.drop j).map (swV D.z)).toArray true s r false) ∧ RowKit.Below w1.heap.size w1 wr)
    case atStart => exact ⟨0, sn, 0, by omega, Lib.hid (fun x hx => by simp at hx), by simpa using H2.out.1, H2.out.2⟩
    case round =>
      obtain ⟨j, s, r, hgk, hno, hc, hbr⟩ := hrel
      have hbw := H1.out.1.trans (hbr.mono H1.out.1.size)
      by_cases hlj : j < L.length
      · obtain ⟨x, hx⟩ : ∃ x, L[j]? = some x := ⟨_, List.getElem?_eq_getElem hlj⟩
        have hdrop : L.drop j = x :: L.drop (j + 1) := by
          rw [List.drop_eq_getElem_cons hlj]
          congr 1
          exact (List.getElem?_eq_some_iff.1 hx).2
        rw [hdrop, List.map_cons] at hc
        have hxM : x.1 < M := HP.out.2.2.2 x (by rw [HL.out]; exact List.mem_of_getElem? hx)
        have HX := Lib.hid (And.intro hx hxM)
        clear hdrop
        go_upto_region 4 with (fail)
        refine wp_region_sem ?_
        show SemOps _ _ _ [0, 1] _ _
        refine sem_recv (ok := true) rfl rfl (recv_run _ rfl _ ch wr rfl) hc (by simp) ?_
        refine sem_list 1 rfl ?_
        have hcn := Conc.heap_setChan wr ch M ((swV D.z x :: (L.drop (j + 1)).map (swV D.z)).toArray.extract 1 (swV D.z x :: (L.drop (j + 1)).map (swV D.z)).toArray.size) true s (r + 1) false (by
          rcases Nat.lt_or_ge ch wr.heap.size with h | h
          · exact h
          · rw [Array.getElem?_eq_none h] at hc; cases hc)
        have hbn := Conc.below_setChan hbr hch M ((swV D.z x :: (L.drop (j + 1)).map (swV D.z)).toArray.extract 1 (swV D.z x :: (L.drop (j + 1)).map (swV D.z)).toArray.size) true s (r + 1) false
        have hbuf : (swV D.z x :: (L.drop (j + 1)).map (swV D.z)).toArray.extract 1 (swV D.z x :: (L.drop (j + 1)).map (swV D.z)).toArray.size = ((L.drop (j + 1)).map (swV D.z)).toArray := by
          simp [List.extract_toArray]
          exact List.take_of_length_le (by simp)
        have hg0 : (swV D.z x :: (L.drop (j + 1)).map (swV D.z)).toArray.getD 0 undef = swV D.z x := rfl
        rw [hg0]
        generalize wr.setChan ch M ((swV D.z x :: (L.drop (j + 1)).map (swV D.z)).toArray.extract 1 (swV D.z x :: (L.drop (j + 1)).map (swV D.z)).toArray.size) true s (r + 1) false = wS at *
        rw [hbuf] at hcn
        have HS := Lib.hid (And.intro hcn hbn)
        obtain ⟨tx, htx⟩ : ∃ tx, swT D.z x = tx := ⟨_, rfl⟩
        have hal := (Below.refl wS.heap.size wS).alloc (Nat.le_refl _) (.cells #[.int .i64 (x.1 : Int), .string tx] 46)
        have hbn2 := hbn.trans (hal.mono hbn.size)
        have hq2 := Blk.new wS 46 #[.int .i64 (x.1 : Int), .string tx]
        obtain ⟨⟨n0, n1⟩, -⟩ := hq2.c2
        have hd := H1.out.2.below hbn2
        obtain ⟨⟨y0, y1, y2, y3⟩, -⟩ := hd.q.c4
        obtain ⟨bf, of_, cf', haf, m1⟩ := hd.f.get hxM
        obtain ⟨rfl, -, rfl⟩ := Value.slice.inj haf
        obtain ⟨f0, hf0⟩ : ∃ f0, D.fin.getD x.1 false = f0 := ⟨_, rfl⟩
        rw [hf0] at m1
        have hcl : (wS.alloc (.cells #[.int .i64 (x.1 : Int), .string tx] 46)).heap[ch]? = some (.chan M ((L.drop (j + 1)).map (swV D.z)).toArray true s (r + 1) false) := by
          refine (hal.block ch ?_).trans hcn
          rcases Nat.lt_or_ge ch wS.heap.size with h | h
          · exact h
          · rw [Array.getElem?_eq_none h] at hcn; cases hcn
        have HV := Lib.hid (And.intro (show D.aut.fin x.1 = f0 from hf0) (And.intro htx (And.intro hcl hbn2)))
        show wpList _ _ _ (_ :: []) _ _
        unfold Conc.got swV
        rw [htx]
        simp only [Act.put, List.getElem?_toArray, List.getElem?_cons_zero]
        clear hcn hbn hc hx hbw hbuf hg0 hd haf hf0 htx hal hbn2 hq2 hcl
        cases f0 with
        | true =>
          have hfd : firstD D = some (x.2.map (fbyte D.z)) := by
            unfold firstD
            rw [HL.out, find_atS (p := fun z : SW => D.aut.fin z.1) HX.out.1 HV.out.1 hno.out]
            rfl
          have hres : firstV D = .tuple #[.string tx, .bool true] := by
            unfold firstV
            rw [HP.out.2.2.1, hfd, ← HV.out.2.1]
            rfl
          have hbb := H1.out.1.trans (HV.out.2.2.2.mono H1.out.1.size)
          have HZ := Lib.hid (And.intro hres hbb)
          clear hfd hres hbb
          go_wp2_with fail
          refine bodyPost_ret (results_tmp2 rfl _ _ _) rfl ?_
          exact ⟨by rw [HZ.out.1]; rfl, HZ.out.2⟩
        | false =>
          go_wp2_with fail
          go_roundg (gk - 1)
          case rel =>
            refine ⟨j + 1, s, r + 1, by omega, Lib.hid fun y hy => ?_, HV.out.2.2.1, HV.out.2.2.2⟩
            rw [List.take_add_one, HX.out.1] at hy
            rcases List.mem_append.1 hy with hy | hy
            · exact hno.out y hy
            · have : y = x := by simpa using hy
              rw [this]; exact HV.out.1
          case measure => omega
      · obtain rfl : j = L.length := by omega
        rw [List.drop_length] at hc
        have hfd : firstD D = none := by
          unfold firstD
          rw [HL.out, find_noS (p := fun z : SW => D.aut.fin z.1) (by have := hno.out; rwa [List.take_length] at this)]
          rfl
        have hres : firstV D = .tuple #[.string ⟨#[]⟩, .bool false] := by
          unfold firstV
          rw [HP.out.2.2.1, hfd]
          rfl
        have HZ := Lib.hid (And.intro hres hbw)
        clear hfd hres hbw
        go_upto_region 4 with (fail)
        refine wp_region_sem ?_
        show SemOps _ _ _ [0, 1] _ _
        refine sem_shut (ok := true) rfl rfl (recv_run _ rfl _ ch wr rfl) hc ?_
        refine sem_list 1 rfl ?_
        show wpList _ _ _ (_ :: []) _ _
        unfold Conc.got
        simp only [Act.put, List.getElem?_toArray, List.getElem?_cons_zero]
        go_wp2_with fail
        refine bodyPost_ret (results_tmp2 rfl _ _ _) rfl ?_
        exact ⟨by rw [HZ.out.1]; rfl, HZ.out.2⟩
end Go.Proofs.YtmmlakheimfijaaGreatDoor
