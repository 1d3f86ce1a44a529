/-
  The walk of labels.Of. Conditions: the labels lie as Go's; texts no longer than texts can be.
-/
import Derived.Test.YtgdfklgbdfpinaaDoorLbMap
namespace Go.Proofs.YtgdfklgbdfpinaaDoor
set_option linter.unusedVariables false
set_option linter.unusedSimpArgs false
open Go.RowKit Go.Maps Go.Sort Go.ChangeShapes Go.WideShapes

theorem infoLab : (Tryd.prog.info? 42).map (fun i => (i.zero, i.size, i.bytes)) = some (some (.agg #[.string ⟨#[]⟩, .string ⟨#[]⟩]), 2, 32) := by kernel_rfl
theorem two_new {w : World} {u v : Value} {t : TypeId} : ∀ j x, [u, v][j]? = some x → (w.alloc (.cells #[u, v] t)).cell? ((⟨w.heap.size, 0, none⟩ : Addr).add j) = some x := by
  intro j x hj
  rw [Addr.add_lit, (Blk.new w t #[u, v]).cell]
  simpa using hj
theorem map_below {H : Type} {P : Program} {k : TypeId} {R : Value → Option (DataW H × List MemPlace)} {b n B : Nat} {D : DataW H} {w w' : World} (h : w.ownsMap P k R b n D) (hb : Below B w w') (hB : b < B) : w'.ownsMap P k R b n D := by
  obtain ⟨es, clock, h1, h2⟩ := h
  exact ⟨es, clock, (hb.block b hB).trans h1, h2⟩
theorem own_ge {w : World} {B : Nat} {e : TypeId} {size n j : Nat} {v : Value} {xs : List Value} (h : w.ownsRow B e size v n xs) (hj : v.ownBlock = some j) : B ≤ j := by
  rcases h.2 with ⟨rfl, _⟩ | ⟨g, cap, cur, rfl, hBg, _⟩
  · simp [Value.ownBlock] at hj
  · have : g = j := by simpa [Value.ownBlock] using hj
    omega
/-- a row of texts, as a slice -/
theorem row_form {w : World} {base : Nat} {v : Value} {ks : List (List UInt8)} {n : Nat} (h : w.ownsRow base 9 1 v n (ks.map encStr)) : ∃ A c, v = .slice A n c ∧ ∀ j k, ks[j]? = some k → ∃ g, A = some ⟨g, 0, none⟩ ∧ g < w.heap.size ∧ w.cell? ⟨g, j, none⟩ = some (.string ⟨k.toArray⟩) := by
  rcases Nat.eq_zero_or_pos n with h0 | h0
  · have hk : ks = [] := by
      have := h.1
      rw [h0] at this
      simpa using this
    subst hk
    subst h0
    rcases h.2 with ⟨rfl, _⟩ | ⟨g, cap, cur, rfl, _⟩
    · exact ⟨none, 0, rfl, fun j k hj => by simp at hj⟩
    · exact ⟨_, _, rfl, fun j k hj => by simp at hj⟩
  · obtain ⟨g, cap, hv, _, hlt⟩ := h.form h0
    subst hv
    refine ⟨_, _, rfl, fun j k hj => ⟨g, rfl, hlt, ?_⟩⟩
    have k0 := h.cells (g := g) rfl j (encStr k) (by rw [List.getElem?_map, hj]; rfl)
    rw [Addr.add_lit] at k0
    simpa using k0
def accOf (l : List Lab) (ks : List (List UInt8)) (j : Nat) : List Lab := (ks.take j).filterMap (pick l)
theorem accOf_next {l : List Lab} {ks : List (List UInt8)} {j : Nat} {k : List UInt8} (h : ks[j]? = some k) : accOf l ks (j + 1) = accOf l ks j ++ (pick l k).toList := by
  rw [accOf, List.take_add_one, h, List.filterMap_append]
  congr 1
theorem accOf_len (l : List Lab) (ks : List (List UInt8)) (j : Nat) : (accOf l ks j).length ≤ j := by
  refine Nat.le_trans (List.length_filterMap_le _ _) ?_
  rw [List.length_take]
  omega
/-- what Of tells -/
def OfTells (l : List Lab) (e : Ending) (w w' : World) : Prop :=
  ∃ A c out, e = .returned (.tuple #[.slice A out.length c, .int .i64 (ofErr l)]) ∧ IsLab w' w'.heap.size A out ∧ (ofErr l = 0 → IsOf l out) ∧ (ofErr l ≠ 0 → out = []) ∧ Below w.heap.size w w'
theorem ofTells_bad {l : List Lab} {w w' : World} {e : Int} (he : ofErr l = e) (hne : e ≠ 0) (hb : Below w.heap.size w w') : OfTells l (.returned (.tuple #[.slice none 0 0, .int .i64 e])) w w' :=
  ⟨none, 0, [], by rw [he]; rfl, .inl rfl, fun h => absurd (he.symm.trans h) hne, fun _ => rfl, hb⟩

set_option maxRecDepth 100000 in
set_option maxHeartbeats 4000000 in
theorem of_any (A : Option Addr) (cap : Nat) (l : List Lab) (w : World) (h : IsLab w w.heap.size A l) (hlen : l.length ≤ 100000) (hs : ∀ x ∈ l, x.1.size ≤ maxLen ∧ x.2.size ≤ maxLen) :
    Calls Tryd.prog 9 #[.slice A l.length cap] w fun e w' => OfTells l e w w' := by
  by_cases h8 : 32 < l.length
  · have h8' : decide (32 < (l.length : Int)) = true := decide_eq_true (by omega)
    have HE : Hid (ofErr l = 3) := Lib.hid (by rw [ofErr, if_pos h8])
    go_enter Tryd.func9, Tryd.ntmps9
    go_wp2_with fail
    refine bodyPost_ret (by simp [results, Tryd.results9, go_sem]; try rfl) rfl ?_
    exact ofTells_bad HE.out (by decide) (Below.refl _ _)
  have h8' : decide (32 < (l.length : Int)) = false := decide_eq_false (by omega)
  have hmm := @run_makeMap Tryd.prog
  have H := Lib.hid (And.intro h hs)
  clear h hs
  go_enter Tryd.func9, Tryd.ntmps9
  go_wp2_with fail
  have m2 := World.ownsMap_made w Tryd.prog 9 (plainElem (H := Unit) Tryd.prog 3)
  have b2 : Below w.heap.size w (w.alloc (.map #[] 0)) := (Below.refl _ _).alloc (Nat.le_refl _) _
  have s2 : w.heap.size + 1 ≤ (w.alloc (.map #[] 0)).heap.size := by simp
  generalize w.alloc (.map #[] 0) = w2 at *
  go_loopw [18] (fun c wr => ∃ (j : Nat) (D : DataW Unit), j ≤ l.length ∧ c = .int .i64 j ∧ wr.ownsMap Tryd.prog 9 (plainElem Tryd.prog 3) w.heap.size j D ∧ Hid (Places D l j ∧ (l.take j).find? badB = none) ∧ Below w.heap.size w wr ∧ w.heap.size + 1 ≤ wr.heap.size) (fun c _ => l.length - (intOf c).toNat)
  case atStart => exact ⟨0, _, by omega, rfl, m2, Lib.hid ⟨places_none l, rfl⟩, b2, s2⟩
  case round =>
    clear m2 b2 s2
    obtain ⟨j, D, hj, rfl, hm, hc, hb, hz⟩ := hrel
    by_cases hlt : j < l.length
    · obtain ⟨b, off, ⟨nm, vl⟩, rfl, hbB, hx, hcell⟩ := H.out.1.at_ hlt
      obtain ⟨m0, m1⟩ := hcell wr hb
      obtain ⟨s1, s2⟩ := H.out.2 _ (List.mem_of_getElem? hx)
      simp only at m0 m1 s1 s2
      have e4 := hm.alloc (.cells #[.string nm, .string vl] 42)
      have q4 := Blk.new wr 42 #[.string nm, .string vl]
      have b4 := hb.alloc (by omega) (.cells #[.string nm, .string vl] 42)
      have HX := Lib.hid (And.intro hx (And.intro q4 (And.intro b4 e4)))
      clear hx q4 b4 e4 hcell
      obtain ⟨oe, hoe⟩ : ∃ oe, oneE (nm, vl) = oe := ⟨_, rfl⟩
      have HO := Lib.hid hoe
      clear hoe
      go_wp2_with fail
      refine (one_lit nm vl oe _ s1 s2 HO.out).mono ?_
      rintro e w5 ⟨rfl, b5⟩
      have q5 := HX.out.2.1.below b5 (by simp)
      have B5 : Below w.heap.size w w5 := HX.out.2.2.1.trans (b5.mono (by simp; omega))
      have e5 : w5.ownsMap Tryd.prog 9 (plainElem Tryd.prog 3) w.heap.size j D := map_below HX.out.2.2.2 b5 (by simp; omega)
      obtain ⟨⟨v0, v1⟩, -⟩ := q5.c2
      have hz5 : w.heap.size + 1 ≤ w5.heap.size := by have := b5.size; simp at this; omega
      have H5 := Lib.hid B5
      clear q5 B5 b5
      by_cases hoe0 : oe = 0
      · subst hoe0
        go_wp2_with (at_mapUpdate; refine wpList_mapUpdate_own _ rfl _ _ _ 43 rfl 9 3 lawS Tryd.underlying43 _ w.heap.size j D rfl e5 (by unfold maxLen; omega) _ _ (.string nm.data.toList) rfl rfl (str_key nm s1) (.lit (.int .i64 j)) [] (plainElem_int Tryd.underlying3 (WalkArith.wf_i64 (by omega))) ?_; intro w8 hown8 hgrow8)
        refine ⟨⟨j + 1, _, by omega, by go_num, hown8, Lib.hid ⟨?_, ?_⟩, H5.out.grown hgrow8 (by omega) (fun k e => by cases e; omega), by have := hgrow8.size; omega⟩, by simp [intOf]; omega⟩
        · exact hc.out.1.put (e5.tidy lawS) HX.out.1 s1
        · exact find_next hc.out.2 HX.out.1 (by rw [badB, HO.out]; rfl)
      · have hoe' : (oe == 0) = false := by simp [hoe0]
        have hoe'' : (oe != 0) = true := by simp [hoe0]
        have HZ := Lib.hid hoe0
        clear hoe0
        go_wp2_with fail
        refine bodyPost_ret (by simp [results, Tryd.results9, go_sem]; try rfl) rfl ?_
        refine ofTells_bad ?_ HZ.out H5.out
        rw [ofErr, if_neg h8, find_at hc.out.2 HX.out.1 (by rw [badB, HO.out]; exact decide_eq_true HZ.out)]
        exact HO.out
    · obtain rfl : j = l.length := by omega
      have hfind : l.find? badB = none := by
        have := hc.out.2
        rwa [List.take_of_length_le (Nat.le_refl _)] at this
      have hpl := hc.out.1
      have hlenm : ∀ ty, _ := fun ty => hm.len Tryd.underlying43 ty
      by_cases hnd : (names l).Nodup
      · have hsz : size D = l.length := hpl.all (by rw [List.take_of_length_le (Nat.le_refl _)]; exact hnd)
        have k1 : decide (size D < l.length) = false := decide_eq_false (by omega)
        have HF := Lib.hid (And.intro hfind (And.intro hpl (And.intro hnd hsz)))
        have HM := Lib.hid hm
        have hkeys := (callsIn_wide (n := 5)).1 (maps_Keys_24 (some w.heap.size) wr)
        have hsorted := (callsIn_wide (n := 5)).1 (slices_Sorted_keys_23_24 w.heap.size l.length D _ wr hm (by rw [hsz]; unfold maxLen; omega) (by rw [hsz]; omega))
        have HKS := Lib.hid (And.intro hkeys hsorted)
        clear hfind hpl hnd hsz hkeys hsorted hm
        go_wp2_with fail
        refine HKS.out.1.mono ?_
        rintro e w' ⟨rfl, rfl⟩
        go_wp2_with fail
        refine HKS.out.2.mono ?_
        rintro e w5 ⟨v, ss, rfl, hS, hrow, hnil, hb5⟩
        obtain ⟨A2, c2, rfl, hrd⟩ := row_form hrow
        obtain ⟨hfind, hpl, hnd, hsz⟩ := HF.out
        obtain ⟨hl2, hpw, hmem⟩ := keys_sorted HM.out hpl hnd hS
        have hkl := (List.mergeSort_perm ss (fun x y => decide (x ≤ y))).length_eq
        obtain ⟨ks, hks⟩ : ∃ ks, ss.mergeSort (fun x y => decide (x ≤ y)) = ks := ⟨_, rfl⟩
        rw [hks] at hrd hpw hmem hkl
        rw [hl2] at hkl ⊢
        have hz1 : w.heap.size < (wr.alloc (.cells #[.map (some w.heap.size)] 43)).heap.size := by simp; omega
        have B5 : Below w.heap.size w w5 := (hb.alloc (by omega) (.cells #[.map (some w.heap.size)] 43)).trans (hb5.mono (by omega))
        have e5 : w5.ownsMap Tryd.prog 9 (plainElem Tryd.prog 3) w.heap.size l.length D := map_below (HM.out.alloc _) hb5 hz1
        have hz5 : w.heap.size < w5.heap.size := by have := hb5.size; omega
        have HK := Lib.hid (And.intro hpw (And.intro hmem (And.intro B5 (And.intro e5 hrd))))
        clear hfind hpl hnd hsz hpw hmem B5 e5 hrd hS hrow hnil hb5 hz1 HKS HM hlenm hks
        obtain ⟨i0, hi0, hz00, hz01, hz02⟩ := info_parts infoLab
        go_wp2_with fail
        go_loopw [8, 42] (fun v2 c wr => ∃ (j : Nat), j ≤ l.length ∧ c = .int .i64 j ∧ wr.ownsRow w5.heap.size 42 2 v2 (accOf l ks j).length (labCells (accOf l ks j)) ∧ Below w5.heap.size w5 wr) (fun _ c _ => l.length - (intOf c).toNat)
        case atStart => exact ⟨0, by omega, rfl, World.ownsRow_nil _ _ _ _, Below.refl _ _⟩
        case round =>
          obtain ⟨j, hj, rfl, hown, hb2⟩ := hrel
          by_cases hlt2 : j < l.length
          · have hjk : j < ks.length := by omega
            obtain ⟨k, hk⟩ : ∃ k, ks[j]? = some k := ⟨_, List.getElem?_eq_getElem hjk⟩
            obtain ⟨hpw, hmem, B5, e5, hrd⟩ := HK.out
            obtain ⟨-, hpl, hnd, -⟩ := HF.out
            obtain ⟨g, rfl, hg, hcg⟩ := hrd j k hk
            obtain ⟨y, hy, rfl⟩ := names_mem.1 ((hmem k).1 (List.mem_of_getElem? hk))
            have hcg2 : wr.cell? ⟨g, j, none⟩ = some (.string y.1) := (hb2.cell (p := ⟨g, j, none⟩) hg).trans (hcg.trans (by rw [show (⟨(nm y).toArray⟩ : ByteArray) = y.1 from txt_data y.1]))
            have e6 := map_below e5 hb2 hz5
            obtain ⟨i, y', hil, hyi, hyy, hlk⟩ := place_look e6 hpl y.1 (H.out.2 y hy).1 (by rw [List.take_of_length_le (Nat.le_refl _)]; exact names_mem.2 ⟨y, hy, rfl⟩)
            obtain rfl : y' = y := same_name hnd (List.mem_of_getElem? hyi) hy (by rw [nm, nm, hyy])
            have hsy := H.out.2 _ hy
            have hacc := accOf_next (l := l) hk
            rw [pick_at hnd hy] at hacc
            obtain ⟨nm', vl⟩ := y'
            obtain ⟨b, off, x', rfl, hbB, hx', hcell⟩ := H.out.1.at_ hil
            obtain rfl : x' = (nm', vl) := Option.some.inj (hx'.symm.trans hyi)
            have B6 : Below w.heap.size w wr := B5.trans (hb2.mono (by omega))
            obtain ⟨m0, m1⟩ := hcell wr B6
            simp only at m0 m1 hsy hcg2 hlk
            have q4 := Blk.new wr 42 #[.string nm', .string vl]
            obtain ⟨⟨v0, v1⟩, -⟩ := q4.c2
            have hz6 := hb2.size
            have hla := accOf_len l ks j
            have HR := Lib.hid (And.intro hk (And.intro hacc (And.intro hown hb2)))
            clear hk hacc hown hb2 hpw hmem B5 e5 hrd hpl hnd hcg hy e6 hyi hyy hx' hcell B6 q4
            by_cases hv : vl.size = 0
            · have ev := empty_bytes hv
              have ev' : vl.toList = [] := nil_of_zero hv
              have HV := Lib.hid hv
              clear hv
              go_wp2_with fail
              go_roundw
              case rel =>
                refine ⟨j + 1, by omega, by go_num, ?_, HR.out.2.2.2.alloc (by omega) _⟩
                rw [HR.out.2.1, if_neg (by rw [HV.out]; simp)]
                simpa using HR.out.2.2.1.alloc _
              case measure => simp [intOf]; omega
            · have ev := some_of_pos (s := vl) (by omega)
              have ev' : ¬ vl.toList = [] := by intro e; rw [e] at ev; cases ev
              have HV := Lib.hid hv
              clear hv
              have hown2 := (HR.out.2.2.1.alloc (.cells #[.string nm', .string vl] 42)).alloc (.cells #[.string nm', .string vl] 42)
              have htwo : ∀ j u, [Value.string nm', .string vl][j]? = some u → ((wr.alloc (.cells #[.string nm', .string vl] 42)).alloc (.cells #[.string nm', .string vl] 42)).cell? ((⟨wr.heap.size + 1, 0, none⟩ : Addr).add j) = some u := by
                have := two_new (w := wr.alloc (.cells #[.string nm', .string vl] 42)) (u := .string nm') (v := .string vl) (t := 42)
                simpa using this
              go_wp2_with (at_builtin; refine wpList_append_own _ rfl _ _ 22 rfl w5.heap.size 42 i0 (.agg #[.string ⟨#[]⟩, .string ⟨#[]⟩]) 2 32 Tryd.underlying22 hi0 hz00 hz01 hz02 rfl (by decide) _ _ _ rfl hown2 ⟨wr.heap.size + 1, 0, none⟩ 1 1 [.string nm', .string vl] rfl rfl htwo (fun u hu => by simp at hu; rcases hu with rfl | rfl <;> rfl) (by unfold maxLen; omega) (by omega) (by simp; omega) ?_; intro v' w7 hown7 hgrow7 _)
              go_roundw
              case rel =>
                refine ⟨j + 1, by omega, by go_num, ?_, ((HR.out.2.2.2.alloc (o := .cells #[.string nm', .string vl] 42) (by omega)).alloc (o := .cells #[.string nm', .string vl] 42) (by simp; omega)).grown hgrow7 (by simp; omega) (fun j e => own_ge HR.out.2.2.1 e)⟩
                rw [HR.out.2.1, if_pos HV.out, Option.toList_some, labCells_snoc, List.length_append]
                exact hown7
              case measure => simp [intOf]; omega
          · obtain rfl : j = l.length := by omega
            have hof : IsOf l (accOf l ks l.length) := by
              rw [accOf, List.take_of_length_le (by omega)]
              exact isOf_keys HF.out.2.2.1 HK.out.1 HK.out.2.1
            have hE : ofErr l = 0 := by rw [ofErr, if_neg h8, HF.out.1]; exact if_pos HF.out.2.2.1
            obtain ⟨A3, c3, rfl, hlab⟩ := isLab_row hown
            have HT := Lib.hid (And.intro hof (And.intro hE (And.intro hlab (HK.out.2.2.1.trans (hb2.mono (by omega))))))
            clear hof hE hlab hown hb2
            go_wp2_with fail
            refine bodyPost_ret (by simp [results, Tryd.results9, go_sem]; try rfl) rfl ?_
            exact ⟨A3, c3, _, by rw [HT.out.2.1], HT.out.2.2.1, fun _ => HT.out.1, fun h => absurd HT.out.2.1 h, HT.out.2.2.2⟩
      · have hsz : size D < l.length := hpl.less (by rw [List.take_of_length_le (Nat.le_refl _)]; exact hnd)
        have k1 : decide (size D < l.length) = true := decide_eq_true (by omega)
        have HE : Hid (ofErr l = 5) := Lib.hid (by rw [ofErr, if_neg h8, hfind]; exact if_neg hnd)
        clear hfind hpl hnd hsz
        go_wp2_with fail
        refine bodyPost_ret (by simp [results, Tryd.results9, go_sem]; try rfl) rfl ?_
        exact ofTells_bad HE.out (by decide) hb
end Go.Proofs.YtgdfklgbdfpinaaDoor
