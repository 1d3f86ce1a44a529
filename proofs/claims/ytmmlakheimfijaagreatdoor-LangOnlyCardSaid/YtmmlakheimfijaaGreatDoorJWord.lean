/-
  A word's automaton in memory as it is made. Conditions: each lemma says its own.
  The walk of dfa.Word. Conditions: the word is at most 1024 bytes long.
-/
import Derived.Test.YtmmlakheimfijaaGreatDoorJPl
import Derived.Test.YtmmlakheimfijaaGreatDoorJSet
import Derived.Test.YtmmlakheimfijaaGreatDoorJRows
import Derived.Test.YtmmlakheimfijaaGreatDoorJBoth
namespace Go.Proofs.YtmmlakheimfijaaGreatDoor
set_option linter.unusedVariables false
set_option linter.unusedSimpArgs false
open Go.RowKit Go.Maps Go.Sort Go.ChangeShapes Go.WideShapes Go.Joins Cs

def finW (l : List Nat) (k : Nat) : List Bool := (List.range k).map fun i => decide (i = l.length)
theorem finW_snoc (l : List Nat) (k : Nat) : finW l (k + 1) = finW l k ++ [decide (k = l.length)] := by simp [finW, List.range_succ]
structure WordAt (B : Nat) (w : World) (q : Nat) (bv : Value) (l : List Nat) (kf kn : Nat) (fv nv : Value) (RS : List Value) : Prop where
  blk : Blk w q 26 #[.int .i64 0, fv, bv, nv]
  fin : w.ownsRow B 4 1 fv kf ((finW l kf).map .bool)
  out : w.ownsRow B 23 1 nv kn RS
  rows : ∀ j, j < kn → ∃ v, RS[j]? = some v ∧ w.ownsRow B 3 1 v (wideW l) (natCells (rowW l j))
  bk : w.ownsRow B 3 1 bv 256 (natCells (bW l))
section
variable {B q kf kn : Nat} {w w' : World} {bv fv nv : Value} {l : List Nat} {RS : List Value}
theorem WordAt.below (h : WordAt B w q bv l kf kn fv nv RS) (hb : Below w.heap.size w w') : WordAt B w' q bv l kf kn fv nv RS where
  blk := h.blk.below hb h.blk.lt
  fin := own_under h.fin hb fun g hg => own_lt h.fin hg
  out := own_under h.out hb fun g hg => own_lt h.out hg
  rows := fun j hj => by
    obtain ⟨v, hv, hr⟩ := h.rows j hj
    exact ⟨v, hv, own_under hr hb fun g hg => own_lt hr hg⟩
  bk := own_under h.bk hb fun g hg => own_lt h.bk hg
theorem WordAt.pushN {rv nv' : Value} {n : Nat} (h : WordAt B w q bv l kf kn fv nv RS) (hn : wideW l = n) (hr : w.ownsRow B 3 1 rv n (natCells (rowW l kn)))
    (hown : w'.ownsRow B 23 1 nv' (kn + 1) (RS ++ [rv])) (hgrow : w.grownBy w' nv.ownBlock) : WordAt B (w'.setCell ⟨q, 3, none⟩ nv') q bv l kf (kn + 1) fv nv' (RS ++ [rv]) := by
  subst hn
  have hlen : RS.length = kn := by have := h.out.1; omega
  have q5 := h.blk.grown hgrow (fun e => own_blk_ne h.out h.blk (by decide) e.symm)
  have q6 := q5.set_ 3 nv'
  have keep : ∀ {e : TypeId} {n : Nat} {v : Value} {xs : List Value}, w.ownsRow B e 1 v n xs → e ≠ 23 → e ≠ 26 → (w'.setCell ⟨q, 3, none⟩ nv').ownsRow B e 1 v n xs := fun {e n v xs} hv h1 h2 => by
    refine own_sameP hv fun g hg => ?_
    exact (Below.heap_setCell _ ⟨q, 3, none⟩ _ g (fun e => own_blk_ne hv h.blk h2 (by rw [hg, e]))).trans (hgrow.block g (own_lt hv hg) fun e => own_ne hv h.out h1 g hg e.symm)
  refine ⟨by simpa using q6, keep h.fin (by decide) (by decide), own_set hown nv' (a := ⟨q, 3, none⟩) (own_blk_ne hown q5 (by decide)), fun j hj => ?_, keep h.bk (by decide) (by decide)⟩
  by_cases e : j = kn
  · subst e
    exact ⟨rv, by rw [List.getElem?_append_right (by omega), hlen]; simp, keep hr (by decide) (by decide)⟩
  · obtain ⟨v, hv, hr'⟩ := h.rows j (by omega)
    exact ⟨v, by rw [List.getElem?_append_left (by omega)]; exact hv, keep hr' (by decide) (by decide)⟩
theorem WordAt.pushF {fv' : Value} (h : WordAt B w q bv l kf kn fv nv RS) (hown : w'.ownsRow B 4 1 fv' (kf + 1) ((finW l kf).map .bool ++ [.bool (decide (kf = l.length))])) (hgrow : w.grownBy w' fv.ownBlock) :
    WordAt B (w'.setCell ⟨q, 1, none⟩ fv') q bv l (kf + 1) kn fv' nv RS := by
  have q5 := h.blk.grown hgrow (fun e => own_blk_ne h.fin h.blk (by decide) e.symm)
  have q6 := q5.set_ 1 fv'
  have keep : ∀ {e : TypeId} {n : Nat} {v : Value} {xs : List Value}, w.ownsRow B e 1 v n xs → e ≠ 4 → e ≠ 26 → (w'.setCell ⟨q, 1, none⟩ fv').ownsRow B e 1 v n xs := fun {e n v xs} hv h1 h2 => by
    refine own_sameP hv fun g hg => ?_
    exact (Below.heap_setCell _ ⟨q, 1, none⟩ _ g (fun e => own_blk_ne hv h.blk h2 (by rw [hg, e]))).trans (hgrow.block g (own_lt hv hg) fun e => own_ne hv h.fin h1 g hg e.symm)
  refine ⟨by simpa using q6, ?_, keep h.out (by decide) (by decide), fun j hj => ?_, keep h.bk (by decide) (by decide)⟩
  · have := own_set hown fv' (a := ⟨q, 1, none⟩) (own_blk_ne hown q5 (by decide))
    rw [finW_snoc, List.map_append]
    exact this
  · obtain ⟨v, hv, hr'⟩ := h.rows j hj
    exact ⟨v, hv, keep hr' (by decide) (by decide)⟩
theorem WordAt.done (h : WordAt B w q bv l (l.length + 2) (l.length + 2) fv nv RS) : DfaAt w (.agg #[.int .i64 0, fv, bv, nv]) (wordD l) := by
  have hlen : RS.length = l.length + 2 := by have := h.out.1; omega
  have hb := boolsAt_own h.fin
  have hl : (wordD l).next.length = l.length + 2 := by simp [wordD]
  refine ⟨fv, bv, nv, rfl, hb, (NatsAt.of_own h.bk).intsAt, ?_⟩
  rcases h.out.2 with ⟨rfl, h0⟩ | ⟨g, cap, cur, rfl, hB, hg, -⟩
  · omega
  · refine ⟨_, cap, by rw [hl], .inr ⟨g, 0, rfl, own_lt h.out rfl, fun j r hj => ?_⟩⟩
    have hjl : j < l.length + 2 := by rw [← hl]; exact (List.getElem?_eq_some_iff.1 hj).1
    obtain ⟨v, hv, hr⟩ := h.rows j hjl
    refine ⟨v, ?_, ?_⟩
    · rw [Nat.zero_add, h.out.cellAt j (by omega)]
      exact hv
    · have e : r = intsOf (rowW l j) := by
        unfold wordD at hj
        simp only [List.getElem?_map, List.getElem?_range hjl, Option.map_some, Option.some.injEq] at hj
        exact hj.symm
      rw [e]
      exact (NatsAt.of_own hr).intsAt
end
/-- the sets of its bytes -/
def setCells (ds : List Nat) : List Value := ds.flatMap fun c => [.int .u64 (ofS c c 0), .int .u64 (ofS c c 1), .int .u64 (ofS c c 2), .int .u64 (ofS c c 3)]
theorem setCells_snoc (ds : List Nat) (c : Nat) : setCells (ds ++ [c]) = setCells ds ++ [.int .u64 (ofS c c 0), .int .u64 (ofS c c 1), .int .u64 (ofS c c 2), .int .u64 (ofS c c 3)] := by simp [setCells]
theorem setCells_len (ds : List Nat) : (setCells ds).length = ds.length * 4 := by
  induction ds with
  | nil => rfl
  | cons x o ih => simp [setCells] at ih ⊢; omega
theorem setCells_get {ds : List Nat} {k c i : Nat} (h : ds[k]? = some c) (hi : i < 4) : (setCells ds)[k * 4 + i]? = some (.int .u64 (ofS c c i)) := by
  induction ds generalizing k with
  | nil => simp at h
  | cons y o ih =>
    cases k with
    | zero =>
      obtain rfl : y = c := by simpa using h
      match i, hi with
      | 0, _ => rfl
      | 1, _ => rfl
      | 2, _ => rfl
      | 3, _ => rfl
    | succ k =>
      have h' : o[k]? = some c := by simpa using h
      have h1 := ih h'
      have e : (k + 1) * 4 + i = 4 + (k * 4 + i) := by omega
      rw [e]
      have e2 : setCells (y :: o) = [Value.int .u64 (ofS y y 0), .int .u64 (ofS y y 1), .int .u64 (ofS y y 2), .int .u64 (ofS y y 3)] ++ setCells o := rfl
      rw [e2, List.getElem?_append_right (by simp)]
      simpa using h1
theorem isSets_own {w : World} {B n : Nat} {v : Value} {ds : List Nat} (h : w.ownsRow B 55 4 v n (setCells ds)) (hn : n ≤ 1000000) : ∃ x c, v = .slice x n c ∧ n = ds.length ∧ IsSets w x n c (sfW ds) := by
  have hlen : n = ds.length := by have := h.1; rw [setCells_len] at this; omega
  have hin : ∀ j, SetIn (sfW ds j) := fun j => spanIn _ _
  have h0 := h.2
  rcases h0 with ⟨rfl, h0⟩ | ⟨g, cap, cur, rfl, hB, hg, -⟩
  · subst h0
    exact ⟨none, 0, rfl, hlen, .inl rfl, hin, by omega⟩
  · refine ⟨_, cap, rfl, hlen, .inr ⟨g, 0, rfl, own_lt h rfl, fun j hj i hi => ?_⟩, hin, by omega⟩
    obtain ⟨c, hc⟩ : ∃ c, ds[j]? = some c := ⟨_, List.getElem?_eq_getElem (by omega)⟩
    rw [Nat.zero_add, h.cellAt (j * 4 + i) (by omega), setCells_get hc hi]
    unfold sfW
    rw [List.getD_eq_getElem?_getD, hc]
    rfl
/-- a byte that has not come before -/
theorem index_neg (s : ByteArray) (k : Nat) (hk : k ≤ s.size) (c : Nat) (hc : c < 256) : Lib.indexByte (s.extract 0 k).data.toList ((c : Int).toNat.toUInt8) < 0 ↔ c ∉ bytesTo s k := by
  have key : ∀ (m : List UInt8) (c : UInt8), Lib.indexByte m c < 0 ↔ c ∉ m := fun m c => by
    induction m with
    | nil => simp [Lib.indexByte]
    | cons b m ih =>
      have hge := Lib.indexByte_ge m c
      unfold Lib.indexByte
      by_cases h1 : b = c
      · subst h1; simp
      · rw [if_neg (by simpa using h1)]
        by_cases h2 : Lib.indexByte m c = -1
        · rw [if_pos (by simpa using h2)]
          have := ih.1 (by omega)
          simp [this, Ne.symm h1]
        · rw [if_neg (by simpa using h2)]
          have h3 : ¬ Lib.indexByte m c < 0 := by omega
          have h4 : c ∈ m := Classical.byContradiction fun h => h3 (ih.2 h)
          constructor
          · intro h; omega
          · intro h; exact absurd (List.mem_cons_of_mem _ h4) h
  rw [key]
  have hcu : ((c : Int).toNat.toUInt8).toNat = c := by
    show (UInt8.ofNat c).toNat = c
    rw [UInt8.toNat_ofNat']
    exact Nat.mod_eq_of_lt hc
  have hm : ∀ x : UInt8, x ∈ (s.extract 0 k).data.toList ↔ ∃ i, i < k ∧ s.get! i = x := fun x => by
    rw [List.mem_iff_getElem?]
    have hsz : (s.extract 0 k).data.size = k := by
      show (s.extract 0 k).size = k
      rw [ByteArray.size_extract]; omega
    have hat : ∀ i, i < k → (s.extract 0 k).data.toList[i]? = some (s.get! i) := fun i hi => by
      rw [get_at s i (by omega), Array.getElem?_toList, Array.getElem?_eq_getElem (by omega)]
      have h2 : i < (s.extract 0 k).size := by show i < (s.extract 0 k).data.size; omega
      have h3 := ByteArray.getElem_extract (b := s) (start := 0) (stop := k) (i := i) (h := h2)
      have h4 : (s.extract 0 k)[i]'h2 = s[i]'(by omega) := h3.trans (by congr 1; omega)
      exact congrArg some h4
    constructor
    · rintro ⟨i, hi⟩
      have hl := (List.getElem?_eq_some_iff.1 hi).1
      rw [Array.length_toList, hsz] at hl
      exact ⟨i, hl, by rw [hat i hl] at hi; exact Option.some.inj hi⟩
    · rintro ⟨i, hi, rfl⟩
      exact ⟨i, hat i hi⟩
  rw [hm]
  have : (∃ i, i < k ∧ s.get! i = (c : Int).toNat.toUInt8) ↔ c ∈ bytesTo s k := by
    unfold bytesTo
    rw [List.mem_map]
    constructor
    · rintro ⟨i, hi, e⟩
      exact ⟨i, by simpa using hi, by unfold byt; rw [e, hcu]⟩
    · rintro ⟨i, hi, e⟩
      refine ⟨i, by simpa using hi, UInt8.toNat_inj.1 ?_⟩
      rw [hcu]
      exact e
  exact not_congr this
theorem dsW_next (s : ByteArray) (k : Nat) : dsW (bytesTo s (k + 1)) = addN (dsW (bytesTo s k)) (byt s k) := by
  rw [bytesTo_succ]
  unfold dsW
  rw [List.foldl_append]
  rfl
theorem bytesTo_len (s : ByteArray) (k : Nat) : (bytesTo s k).length = k := by simp [bytesTo]
theorem bytesTo_at (s : ByteArray) {k i : Nat} (h : i < k) : (bytesTo s k).getD i 0 = byt s i := by
  unfold bytesTo
  rw [List.getD_eq_getElem?_getD, List.getElem?_map, List.getElem?_range h]
  rfl
theorem numCells_bW (l : List Nat) : numCells (memF (sfW (dsW l)) (dsW l).length) = natCells (bW l) := by
  unfold numCells natCells bW
  rw [List.map_map]
  rfl
end Go.Proofs.YtmmlakheimfijaaGreatDoor
namespace Go.Proofs.YtmmlakheimfijaaGreatDoor
set_option linter.unusedVariables false
set_option linter.unusedSimpArgs false
open Go.RowKit Go.Maps Go.Sort Go.ChangeShapes Go.WideShapes Go.Joins Cs

theorem infoSet : (Tryz.prog.info? 55).map (fun i => (i.zero, i.size, i.bytes)) = some (some (.agg #[.int .u64 0, .int .u64 0, .int .u64 0, .int .u64 0]), 4, 32) := by kernel_rfl
theorem four_new {w : World} {u0 u1 u2 u3 : Value} {t : TypeId} : ∀ j x, [u0, u1, u2, u3][j]? = some x → (w.alloc (.cells #[u0, u1, u2, u3] t)).cell? ((⟨w.heap.size, 0, none⟩ : Addr).add j) = some x := by
  intro j x hj
  rw [Addr.add_lit, (Blk.new w t #[u0, u1, u2, u3]).cell]
  simpa using hj
theorem cntW (l : List Nat) : countI (fun b => ((Bl.num (fW l) b : Nat) : Int)) 256 = (wideW l : Int) := by
  obtain ⟨h1, h2⟩ := Bl.num_right (fW l) 256
  unfold countI
  rw [if_pos (by unfold Bl.right; rw [h1]; rfl)]
  exact (Bl.most_top _ _ h1).trans h2
set_option maxHeartbeats 8000000 in
set_option maxRecDepth 1000000 in
theorem word_any (s : ByteArray) (hs : s.size ≤ 1024) (w : World) :
    Calls Tryz.prog 16 #[.string s] w fun e w' => ∃ rv, e = .returned (.tuple #[rv, .int .i64 0]) ∧ DfaOut w w' rv (wordD (bytesTo s s.size)) ∧ Below w.heap.size w w' := by
  have hb0 := (Below.refl w.heap.size w).alloc (Nat.le_refl _) (.cells #[.int .i64 0, .slice none 0 0, .slice none 0 0, .slice none 0 0] 26)
  have hq0 := Blk.new w 26 #[.int .i64 0, .slice none 0 0, .slice none 0 0, .slice none 0 0]
  have hz0 : (w.alloc (.cells #[.int .i64 0, .slice none 0 0, .slice none 0 0, .slice none 0 0] 26)).heap.size = w.heap.size + 1 := by simp
  have H := Lib.hid (And.intro hb0 hq0)
  clear hb0 hq0
  go_enter Tryz.func16, Tryz.ntmps16
  go_wp2_with fail
  generalize w.alloc (.cells #[.int .i64 0, .slice none 0 0, .slice none 0 0, .slice none 0 0] 26) = W at *
  go_loopw [4, 5, 16] (fun c4 _ c16 wr => ∃ (k : Nat), c16 = .int .i64 k ∧ k ≤ s.size ∧ Hid (wr.ownsRow W.heap.size 55 4 c4 (dsW (bytesTo s k)).length (setCells (dsW (bytesTo s k))) ∧ Below W.heap.size W wr)) (fun _ _ c _ => s.size - (intOf c).toNat)
  case atStart => exact ⟨0, rfl, by omega, Lib.hid ⟨World.ownsRow_nil _ _ _ _, Below.refl _ _⟩⟩
  case round =>
    obtain ⟨k, rfl, hk, HS⟩ := hrel
    obtain ⟨A4, cc4, rfl⟩ := own_slice HS.out.1
    by_cases hlt : k < s.size
    · have hbt := byt_at s k hlt
      have hb256 := byt_lt s k
      obtain ⟨v, hv⟩ : ∃ v, Lib.indexByte (s.extract 0 k).data.toList (((byt s k : Nat) : Int).toNat.toUInt8) = v := ⟨_, rfl⟩
      have hneg := index_neg s k hk (byt s k) hb256
      rw [hv] at hneg
      have hdl : (dsW (bytesTo s k)).length ≤ 1024 := by have := dsW_len (bytesTo s k); rw [bytesTo_len] at this; omega
      have hnx := dsW_next s k
      have HX := Lib.hid (And.intro hv (And.intro hneg hnx))
      clear hv hneg hnx
      go_wp2_with fail
      refine wp_region_T [] (by kernel_rfl) ?_
      intro W3 bb
      refine stepsQ [0, 1, 2, 3, 4, 5] (by kernel_rfl) (by kernel_rfl) (by kernel_rfl) (Grown.of_below (Below.refl _ _)) ?_
      simp only [atIdx, List.filterMap_cons, List.filterMap_nil, List.getElem?_toArray, List.getElem_toArray, List.getElem?_cons_zero, List.getElem?_cons_succ, List.getElem_cons_zero, List.getElem_cons_succ]
      iterate 6 (show wpQuiet _ _ _ _ (_ :: _) _; go_big_quiet_step (fail))
      refine wpQuiet_nil ?_
      show stepT _ _ _ _ _ _ _ _ _
      refine stepS (i := 6) rfl (by kernel_rfl) ?_
      intro K hK
      go_simp
      refine (strings_IndexByte _ _ _).mono ?_
      rintro e w3 ⟨rfl, rfl⟩
      rw [HX.out.1]
      refine hK _ _ ⟨fun _ => Grown.of_below (Below.refl _ _), ?_⟩
      clear hK K
      refine stepsQ [7] (by kernel_rfl) (by kernel_rfl) (by kernel_rfl) (Grown.of_below (Below.refl _ _)) ?_
      simp only [atIdx, List.filterMap_cons, List.filterMap_nil, List.getElem?_toArray, List.getElem_toArray, List.getElem?_cons_zero, List.getElem?_cons_succ, List.getElem_cons_zero, List.getElem_cons_succ]
      iterate 1 (show wpQuiet _ _ _ _ (_ :: _) _; go_big_quiet_step (fail))
      refine wpQuiet_nil ?_
      show stepT _ _ _ _ _ _ _ _ _
      refine stepT_end (by kernel_rfl) ?_
      have H3 := Lib.hid (And.intro (own_under HS.out.1 bb fun g hg => own_lt HS.out.1 hg) (HS.out.2.trans (bb.mono HS.out.2.size)))
      clear bb HS hbt
      by_cases hin : byt s k ∈ bytesTo s k
      · have hd : 0 ≤ v := Int.not_lt.1 fun h => HX.out.2.1.1 h hin
        have hsame : addN (dsW (bytesTo s k)) (byt s k) = dsW (bytesTo s k) := by unfold addN; rw [if_pos (dsW_mem.2 hin)]
        have HY := Lib.hid hsame
        clear hin hsame
        go_wp2_with fail
        go_roundw
        case rel => exact ⟨k + 1, by go_num, by omega, by rw [HX.out.2.2, HY.out]; exact H3⟩
        case measure => first | (simp [intOf]; done) | (simp [intOf]; omega)
      · have hd : v < 0 := HX.out.2.1.2 hin
        have hsame : addN (dsW (bytesTo s k)) (byt s k) = dsW (bytesTo s k) ++ [byt s k] := by unfold addN; rw [if_neg (fun h => hin (dsW_mem.1 h))]
        have HY := Lib.hid hsame
        clear hin hsame
        have hbt := byt_at s k hlt
        go_wp2_with fail
        refine wp_region_T [9, 10] (by kernel_rfl) ?_
        intro W5 bb
        refine stepsQ [0, 1, 2, 3, 4, 5, 6] (by kernel_rfl) (by kernel_rfl) (by kernel_rfl) (Grown.of_below (Below.refl _ _)) ?_
        simp only [atIdx, List.filterMap_cons, List.filterMap_nil, List.getElem?_toArray, List.getElem_toArray, List.getElem?_cons_zero, List.getElem?_cons_succ, List.getElem_cons_zero, List.getElem_cons_succ]
        iterate 7 (show wpQuiet _ _ _ _ (_ :: _) _; go_big_quiet_step (fail))
        refine wpQuiet_nil ?_
        show stepT _ _ _ _ _ _ _ _ _
        refine stepS (i := 7) rfl (by kernel_rfl) ?_
        intro K hK
        go_simp
        refine (charset_of (byt s k) (byt s k) _ hb256 hb256).mono ?_
        rintro e w7 ⟨rfl, b7⟩
        unfold setV
        refine hK _ _ ⟨fun _ => Grown.of_below b7, ?_⟩
        clear hK K
        have b57 := bb.trans (b7.mono bb.size)
        have hone := four_new (w := w7) (u0 := .int .u64 (ofS (byt s k) (byt s k) 0)) (u1 := .int .u64 (ofS (byt s k) (byt s k) 1)) (u2 := .int .u64 (ofS (byt s k) (byt s k) 2)) (u3 := .int .u64 (ofS (byt s k) (byt s k) 3)) (t := 55)
        have b8 := b7.alloc b7.size (.cells #[.int .u64 (ofS (byt s k) (byt s k) 0), .int .u64 (ofS (byt s k) (byt s k) 1), .int .u64 (ofS (byt s k) (byt s k) 2), .int .u64 (ofS (byt s k) (byt s k) 3)] 55)
        have b58 := b57.alloc b57.size (.cells #[.int .u64 (ofS (byt s k) (byt s k) 0), .int .u64 (ofS (byt s k) (byt s k) 1), .int .u64 (ofS (byt s k) (byt s k) 2), .int .u64 (ofS (byt s k) (byt s k) 3)] 55)
        have hown8 := own_under H3.out.1 b58 fun g hg => own_lt H3.out.1 hg
        have hB8 := H3.out.2.trans (b58.mono H3.out.2.size)
        have hz7 := b57.size
        have hz3 := H3.out.2.size
        obtain ⟨i0, hi0, hz00, hz01, hz02⟩ := info_parts infoSet
        refine stepS (i := 8) rfl (by kernel_rfl) ?_
        intro K hK
        go_simp
        refine hK _ _ ⟨fun _ => Grown.of_below b8, ?_⟩
        clear hK K
        refine stepS (i := 9) rfl (by kernel_rfl) ?_
        intro K hK
        refine step_append_lies _ rfl (.tmp 27) (.tmp 35) 51 rfl W.heap.size 55 i0 (.agg #[.int .u64 0, .int .u64 0, .int .u64 0, .int .u64 0]) 4 32 Tryz.underlying51 hi0 hz00 hz01 hz02 rfl (by decide) _ _ _ (by simp [Act.eval, Act.put]) hown8 ⟨w7.heap.size, 0, none⟩ 1 1 [.int .u64 (ofS (byt s k) (byt s k) 0), .int .u64 (ofS (byt s k) (byt s k) 1), .int .u64 (ofS (byt s k) (byt s k) 2), .int .u64 (ofS (byt s k) (byt s k) 3)] (by simp [Act.eval, Act.put]) rfl hone (fun u hu => by simp at hu; rcases hu with rfl | rfl | rfl | rfl <;> rfl) (by decide) (by unfold maxLen; omega) (by omega) (by simp; omega) _ rfl ?_
        intro g14 cap14 w14 hown14 hgrow14 hat14 hlt14
        refine hK _ _ ⟨fun h => absurd (by decide) h, ?_⟩
        clear hK K
        have hB14 := hB8.grown hgrow14 hB8.size (fun j e => (hown8.lt j e).1)
        have HZ := Lib.hid (And.intro hown14 hB14)
        clear hown14 hgrow14 hat14 hlt14 hone b57 b58 b8 b7 bb hown8 hB8 hB14
        refine stepS (i := 10) rfl (by kernel_rfl) ?_
        intro K hK
        go_simp
        refine hK _ _ ⟨fun h => absurd (by decide) h, ?_⟩
        clear hK K
        refine stepT_end (by kernel_rfl) ?_
        go_wp2_with fail
        go_roundw
        case rel =>
          refine ⟨k + 1, by go_num, by omega, ?_⟩
          rw [HX.out.2.2, HY.out, setCells_snoc, List.length_append, List.length_singleton]
          exact HZ
        case measure => first | (simp [intOf]; done) | (simp [intOf]; omega)
    · obtain rfl : k = s.size := by omega
      have hdl : (dsW (bytesTo s s.size)).length ≤ 1024 := by have := dsW_len (bytesTo s s.size); rw [bytesTo_len] at this; omega
      obtain ⟨x, c, he, -, hsets⟩ := isSets_own HS.out.1 (by omega)
      obtain ⟨rfl, -, rfl⟩ := Value.slice.inj he
      have HT := Lib.hid hsets
      clear hsets he
      go_wp2_with fail
      refine (blocks_of _ _ _ (sfW (dsW (bytesTo s s.size))) _ HT.out).mono ?_
      rintro e w1 ⟨g, rfl, hr1, b1⟩
      obtain ⟨l, hl⟩ : ∃ l, bytesTo s s.size = l := ⟨_, rfl⟩
      rw [hl] at hr1 HT hdl ⊢
      have hll : l.length = s.size := by rw [← hl, bytesTo_len]
      have hi1 := ints_num hr1
      rw [numCells_bW] at hr1
      have hB1 := HS.out.2.trans (b1.mono HS.out.2.size)
      have hz1 := hB1.size
      have hal := (Below.refl w1.heap.size w1).alloc (Nat.le_refl _) (.cells #[.int .i64 0, .slice none 0 0, .slice (some ⟨g, 0, none⟩) 256 256, .slice none 0 0] 26)
      have hA : WordAt W.heap.size (w1.alloc (.cells #[.int .i64 0, .slice none 0 0, .slice (some ⟨g, 0, none⟩) 256 256, .slice none 0 0] 26)) w1.heap.size (.slice (some ⟨g, 0, none⟩) 256 256) l 0 0 (.slice none 0 0) (.slice none 0 0) [] :=
        ⟨Blk.new w1 _ _, World.ownsRow_nil _ _ _ _, World.ownsRow_nil _ _ _ _, fun j hj => by omega, own_weak (own_under hr1 hal fun g hg => own_lt hr1 hg) HS.out.2.size⟩
      have H1 := Lib.hid (And.intro (hi1.keep hal) (And.intro hA (And.intro (hB1.trans (hal.mono hz1)) hl)))
      obtain ⟨⟨-, -, y2, -⟩, -⟩ := hA.blk.c4
      clear hi1 hr1 hB1 b1 hal hA HS HT hl
      go_wp2_with fail
      generalize w1.alloc (.cells #[.int .i64 0, .slice none 0 0, .slice (some ⟨g, 0, none⟩) 256 256, .slice none 0 0] 26) = w2 at *
      refine (count_any _ _ _ _ w2 H1.out.1).mono ?_
      rintro e w3 ⟨rfl, b3⟩
      have hcw := cntW l
      unfold fW at hcw
      rw [hcw]
      obtain ⟨n, hn⟩ : ∃ n, wideW l = n := ⟨_, rfl⟩
      have hn1 := wideW_pos l
      have hn2 := wideW_le l
      rw [hn] at hn1 hn2 ⊢
      obtain ⟨Q, hQ⟩ : ∃ Q, w1.heap.size = Q := ⟨_, rfl⟩
      have H3 := Lib.hid (And.intro (H1.out.2.1.below b3) (And.intro (H1.out.2.2.1.trans (b3.mono H1.out.2.2.1.size)) (And.intro H1.out.2.2.2 hn)))
      rw [hQ] at H3 hz1
      rw [hQ]
      clear b3 hcw hn y2 H1 hQ
      go_wp2_with fail
      go_loopw [8, 9, 47] (fun _ _ c47 wr => ∃ (k : Nat) (fv nv : Value) (RS : List Value), c47 = .int .i64 k ∧ k ≤ s.size + 2 ∧ Hid (WordAt W.heap.size wr Q (.slice (some ⟨g, 0, none⟩) 256 256) l k k fv nv RS ∧ Below W.heap.size W wr)) (fun _ _ c _ => s.size + 2 - (intOf c).toNat)
      case atStart => exact ⟨0, _, _, _, rfl, by omega, Lib.hid ⟨H3.out.1, H3.out.2.1⟩⟩
      case round =>
        obtain ⟨k, fv, nv, RS, rfl, hk, HS⟩ := hrel
        obtain ⟨af, cf, rfl⟩ := own_slice HS.out.1.fin
        obtain ⟨an, cn, rfl⟩ := own_slice HS.out.1.out
        have hzr := HS.out.2.size
        by_cases hlt : k < s.size + 2
        · have hwsz : IntKind.i64.wrap ((s.size : Int) + 1) = (s.size : Int) + 1 := IntWalk.i64_in _ (by omega)
          go_wp2_with fail
          have ha1 := (Below.refl wr.heap.size wr).alloc (Nat.le_refl _) (.cells #[.int .i64 ((s.size : Int) + 1)] 3)
          refine (repeat_any wr.heap.size 0 1 ((s.size : Int) + 1) n _ hn1 (by omega) (by have := one_at (w := wr) (u := .int .i64 ((s.size : Int) + 1)) (t := 3) 0 _ rfl; simp at this ⊢)).mono ?_
          rintro e w5 ⟨gr, rfl, hr5, b5⟩
          have b15 := ha1.trans (b5.mono ha1.size)
          have H5 := Lib.hid (And.intro (HS.out.1.below b15) (And.intro (HS.out.2.trans (b15.mono HS.out.2.size)) (own_weak hr5 (B' := W.heap.size) (by simp; omega))))
          have hgr := (hr5.lt gr rfl).1
          have hgr2 := (hr5.lt gr rfl).2
          simp at hgr
          have hrow0 : List.replicate n (Value.int .i64 ((s.size : Int) + 1)) = natCells (List.replicate n (s.size + 1)) := by unfold natCells; rw [List.map_replicate]; rfl
          rw [hrow0] at H5
          clear hr5 b5 ha1 hrow0
          by_cases hks : k < s.size
          · have hbt := byt_at s k hks
            have hb256 := byt_lt s k
            have hlk : l.getD k 0 = byt s k := by rw [← H3.out.2.2.1]; exact bytesTo_at s hks
            obtain ⟨c, hc⟩ : ∃ c, byt s k = c := ⟨_, rfl⟩
            rw [hc] at hbt hb256 hlk
            have m1 := H5.out.1.bk.cellAt c (by omega)
            have hmb : (natCells (bW l))[c]? = some (.int .i64 (blkW l c : Int)) := by
              unfold natCells bW
              rw [List.getElem?_map, List.getElem?_map, List.getElem?_range hb256]
              rfl
            rw [hmb] at m1
            obtain ⟨bk, hbk⟩ : ∃ b, blkW l c = b := ⟨_, rfl⟩
            have hbn := blkW_lt (l := l) hb256
            rw [hbk] at m1 hbn
            rw [H3.out.2.2.2] at hbn
            have hrw : natCells (rowW l k) = (natCells (List.replicate n (s.size + 1))).set bk (.int .i64 ((k : Int) + 1)) := by
              unfold rowW
              rw [if_pos (by omega), hlk, hbk, H3.out.2.2.2, hll]
              unfold natCells
              rw [List.map_set]
              rfl
            obtain ⟨⟨-, -, y2, -⟩, -⟩ := H5.out.1.blk.c4
            have hcr := H5.out.2.2.cellAt bk (by omega)
            have hcv : (natCells (List.replicate n (s.size + 1)))[bk]? = some (.int .i64 ((s.size + 1 : Nat) : Int)) := by
              unfold natCells
              rw [List.getElem?_map, List.getElem?_replicate, if_pos hbn]
              rfl
            rw [hcv] at hcr
            have HR := Lib.hid (And.intro hrw (And.intro hc hbk))
            clear hrw hc hbk hcv hmb hlk
            have hwk : IntKind.i64.wrap ((k : Int) + 1) = (k : Int) + 1 := IntWalk.i64_in _ (by omega)
            go_wp2_with fail
            refine wp_region_T [10, 11] (by kernel_rfl) ?_
            intro W7 bb
            have lc : ∀ {p : Addr} {v : Value}, w5.cell? p = some v → ∀ d os, (Sort.grow (redrawn W7 d) os).cell? p = some v := fun {p v} hp d os => ((bb.trans ((below_regrown W7 d os).mono bb.size)).cell (World.block_lt_of_cell? w5 p hp)).trans hp
            have q0 := lc y2
            have q1 := lc m1
            clear lc
            clear y2 m1
            refine stepsQ [0, 1, 2, 3, 4, 5, 6, 7, 8, 9] (by kernel_rfl) (by kernel_rfl) (by kernel_rfl) (Grown.of_below (Below.refl _ _)) ?_
            simp only [atIdx, List.filterMap_cons, List.filterMap_nil, List.getElem?_toArray, List.getElem_toArray, List.getElem?_cons_zero, List.getElem?_cons_succ, List.getElem_cons_zero, List.getElem_cons_succ]
            iterate 10 (show wpQuiet _ _ _ _ (_ :: _) _; go_big_quiet_step (fail))
            refine wpQuiet_nil ?_
            show stepT _ _ _ _ _ _ _ _ _
            have hcr3 := (bb.cell (p := ⟨gr, bk, none⟩) hgr2).trans hcr
            have hg3 : W7.heap[gr]? = some (.cells (natCells (List.replicate n (s.size + 1))).toArray 3 (0, 0)) := own_block (own_under H5.out.2.2 bb fun g hg => own_lt H5.out.2.2 hg)
            have hbq : Blk W7 gr 3 (natCells (List.replicate n (s.size + 1))).toArray := hg3
            have fz := hbq.frozen bk
            have hst := (own_under H5.out.2.2 bb fun g hg => own_lt H5.out.2.2 hg).stored bk (.int .i64 ((k : Int) + 1))
            have b76 : Below wr.heap.size wr (W7.setCell ⟨gr, bk, none⟩ (.int .i64 ((k : Int) + 1))) := (b15.trans (bb.mono b15.size)).setCell (p := ⟨gr, bk, none⟩) (by show wr.heap.size ≤ gr; omega) _
            have hrow6 := hst.1
            rw [← HR.out.1] at hrow6
            have H6 := Lib.hid (And.intro (HS.out.1.below b76) (And.intro (HS.out.2.trans (b76.mono HS.out.2.size)) hrow6))
            clear hst hbq hg3 b76 hrow6 bb hcr
            refine stepS (i := 10) rfl (by kernel_rfl) ?_
            intro K hK
            go_simp
            refine hK _ _ ⟨fun h => absurd (by decide) h, ?_⟩
            clear hK K
            refine stepS (i := 11) rfl (by kernel_rfl) ?_
            intro K hK
            go_simp
            refine hK _ _ ⟨fun h => absurd (by decide) h, ?_⟩
            clear hK K
            refine stepT_end (by kernel_rfl) ?_
            clear q0 q1 fz hcr3 hbt
            generalize W7.setCell ⟨gr, bk, none⟩ (.int .i64 ((k : Int) + 1)) = w6 at *
            have hke : ((k : Int) == (s.size : Int)) = false := by simp; omega
            have hke2 : ¬ k = s.size := by omega
            have HE := Lib.hid (show decide (k = l.length) = false from decide_eq_false (by omega))
            have hone := one_at (w := w6) (u := .slice (some ⟨gr, 0, none⟩) n n) (t := 23)
            have ha6 := (Below.refl w6.heap.size w6).alloc (Nat.le_refl _) (.cells #[.slice (some ⟨gr, 0, none⟩) n n] 23)
            have H7 := Lib.hid (And.intro (H6.out.1.below ha6) (And.intro (own_under H6.out.2.2 ha6 fun g hg => own_lt H6.out.2.2 hg) (H6.out.2.1.trans (ha6.mono H6.out.2.1.size))))
            have hz6 := H6.out.2.1.size
            obtain ⟨⟨z0, z1, z2, z3⟩, -⟩ := H6.out.1.blk.c4
            clear H6 ha6 z0 z1 z2
            have hown7 := H7.out.1.out
            obtain ⟨i0, hi0, hz00, hz01, hz02⟩ := info_parts infoRow
            obtain ⟨i1, hi1, hz10, hz11, hz12⟩ := info_parts infoBool
            go_wp2_with (first
              | (at_builtin; refine wpList_append_lies _ rfl _ _ 24 rfl W.heap.size 23 i0 (.slice none 0 0) 1 24 Tryz.underlying24 hi0 hz00 hz01 hz02 rfl (by decide) _ _ _ rfl hown7 ⟨w6.heap.size, 0, none⟩ 1 1 [.slice (some ⟨gr, 0, none⟩) n n] rfl rfl hone (fun u hu => by simp at hu; subst hu; rfl) (by decide) (by unfold maxLen; omega) (by omega) (by simp; omega) _ rfl ?_; intro g8 cap8 w8 hown8 hgrow8 hat8 hlt8; have q8 := H7.out.1.blk.grown hgrow8 (fun e => own_blk_ne hown7 H7.out.1.blk (by decide) e.symm); have e3 : w8.cell? ⟨Q, 3, none⟩ = some (.slice an k cn) := q8.cell 3; have fz3 := q8.frozen 3; have e1 : w8.cell? ⟨Q, 1, none⟩ = some (.slice af k cf) := q8.cell 1; have fz1 := q8.frozen 1; have HN := Lib.hid (And.intro (H7.out.1.pushN H3.out.2.2.2 H7.out.2.1 hown8 (show (w6.alloc (.cells #[.slice (some ⟨gr, 0, none⟩) n n] 23)).grownBy w8 (Value.slice an k cn).ownBlock from hgrow8)) ((H7.out.2.2.grown hgrow8 H7.out.2.2.size (fun j e => (hown7.lt j e).1)).setCell (p := ⟨Q, 3, none⟩) hz1 (.slice (some ⟨g8, 0, none⟩) (k + 1) cap8))); have ha9 := (Below.refl (w8.setCell ⟨Q, 3, none⟩ (.slice (some ⟨g8, 0, none⟩) (k + 1) cap8)).heap.size _).alloc (Nat.le_refl _) (.cells #[.bool false] 4); have HO := Lib.hid (And.intro (HN.out.1.below ha9) (HN.out.2.trans (ha9.mono HN.out.2.size))); have hown9 := HO.out.1.fin; have hone9 := one_at (w := w8.setCell ⟨Q, 3, none⟩ (.slice (some ⟨g8, 0, none⟩) (k + 1) cap8)) (u := .bool false) (t := 4); have hz8 := HN.out.2.size; simp only [World.size_setCell] at hz8; clear hown8 hgrow8 hat8 q8 ha9 HN)
              | (at_builtin; refine wpList_append_lies _ rfl _ _ 22 rfl W.heap.size 4 i1 (.bool false) 1 1 Tryz.underlying22 hi1 hz10 hz11 hz12 rfl (by decide) _ _ _ rfl hown9 ⟨w8.heap.size, 0, none⟩ 1 1 [.bool false] rfl rfl (by simpa using hone9) (fun u hu => by simp at hu; subst hu; rfl) (by decide) (by unfold maxLen; omega) (by omega) (by simp; omega) _ rfl ?_; intro g10 cap10 w10 hown10 hgrow10 hat10 hlt10; have q10 := HO.out.1.blk.grown hgrow10 (fun e => own_blk_ne hown9 HO.out.1.blk (by decide) e.symm); have e1' : w10.cell? ⟨Q, 1, none⟩ = some (.slice af k cf) := q10.cell 1; have fz1' := q10.frozen 1; have HP := Lib.hid (And.intro (HO.out.1.pushF (by rw [HE.out]; exact hown10) (show _ from hgrow10)) ((HO.out.2.grown hgrow10 HO.out.2.size (fun j e => (hown9.lt j e).1)).setCell (p := ⟨Q, 1, none⟩) hz1 (.slice (some ⟨g10, 0, none⟩) (k + 1) cap10))); clear hown10 hgrow10 hat10 q10))
            go_roundw
            case rel => exact ⟨k + 1, _, _, _, by go_num, by omega, HP.out⟩
            case measure => first | (simp [intOf]; done) | (simp [intOf]; omega)
          · have hrw : natCells (rowW l k) = natCells (List.replicate n (s.size + 1)) := by
              unfold rowW
              rw [if_neg (by omega), H3.out.2.2.2, hll]
            have H6 := H5
            rw [← hrw] at H6
            clear H5 hrw
            obtain ⟨w6, hw6⟩ : ∃ w6, w5 = w6 := ⟨_, rfl⟩
            rw [hw6] at H6 b15 hgr2 ⊢
            clear hw6
            by_cases hke : k = s.size
            · have HE := Lib.hid (show decide (k = l.length) = true from decide_eq_true (by omega))
              subst hke
              have hone := one_at (w := w6) (u := .slice (some ⟨gr, 0, none⟩) n n) (t := 23)
              have ha6 := (Below.refl w6.heap.size w6).alloc (Nat.le_refl _) (.cells #[.slice (some ⟨gr, 0, none⟩) n n] 23)
              have H7 := Lib.hid (And.intro (H6.out.1.below ha6) (And.intro (own_under H6.out.2.2 ha6 fun g hg => own_lt H6.out.2.2 hg) (H6.out.2.1.trans (ha6.mono H6.out.2.1.size))))
              have hz6 := H6.out.2.1.size
              obtain ⟨⟨z0, z1, z2, z3⟩, -⟩ := H6.out.1.blk.c4
              clear H6 ha6 z0 z1 z2
              have hown7 := H7.out.1.out
              obtain ⟨i0, hi0, hz00, hz01, hz02⟩ := info_parts infoRow
              obtain ⟨i1, hi1, hz10, hz11, hz12⟩ := info_parts infoBool
              go_wp2_with (first
                | (at_builtin; refine wpList_append_lies _ rfl _ _ 24 rfl W.heap.size 23 i0 (.slice none 0 0) 1 24 Tryz.underlying24 hi0 hz00 hz01 hz02 rfl (by decide) _ _ _ rfl hown7 ⟨w6.heap.size, 0, none⟩ 1 1 [.slice (some ⟨gr, 0, none⟩) n n] rfl rfl hone (fun u hu => by simp at hu; subst hu; rfl) (by decide) (by unfold maxLen; omega) (by omega) (by simp; omega) _ rfl ?_; intro g8 cap8 w8 hown8 hgrow8 hat8 hlt8; have q8 := H7.out.1.blk.grown hgrow8 (fun e => own_blk_ne hown7 H7.out.1.blk (by decide) e.symm); have e3 : w8.cell? ⟨Q, 3, none⟩ = some (.slice an s.size cn) := q8.cell 3; have fz3 := q8.frozen 3; have e1 : w8.cell? ⟨Q, 1, none⟩ = some (.slice af s.size cf) := q8.cell 1; have fz1 := q8.frozen 1; have HN := Lib.hid (And.intro (H7.out.1.pushN H3.out.2.2.2 H7.out.2.1 hown8 (show (w6.alloc (.cells #[.slice (some ⟨gr, 0, none⟩) n n] 23)).grownBy w8 (Value.slice an s.size cn).ownBlock from hgrow8)) ((H7.out.2.2.grown hgrow8 H7.out.2.2.size (fun j e => (hown7.lt j e).1)).setCell (p := ⟨Q, 3, none⟩) hz1 (.slice (some ⟨g8, 0, none⟩) (s.size + 1) cap8))); have ha9 := (Below.refl (w8.setCell ⟨Q, 3, none⟩ (.slice (some ⟨g8, 0, none⟩) (s.size + 1) cap8)).heap.size _).alloc (Nat.le_refl _) (.cells #[.bool true] 4); have HO := Lib.hid (And.intro (HN.out.1.below ha9) (HN.out.2.trans (ha9.mono HN.out.2.size))); have hown9 := HO.out.1.fin; have hone9 := one_at (w := w8.setCell ⟨Q, 3, none⟩ (.slice (some ⟨g8, 0, none⟩) (s.size + 1) cap8)) (u := .bool true) (t := 4); have hz8 := HN.out.2.size; simp only [World.size_setCell] at hz8; clear hown8 hgrow8 hat8 q8 ha9 HN)
                | (at_builtin; refine wpList_append_lies _ rfl _ _ 22 rfl W.heap.size 4 i1 (.bool false) 1 1 Tryz.underlying22 hi1 hz10 hz11 hz12 rfl (by decide) _ _ _ rfl hown9 ⟨w8.heap.size, 0, none⟩ 1 1 [.bool true] rfl rfl (by simpa using hone9) (fun u hu => by simp at hu; subst hu; rfl) (by decide) (by unfold maxLen; omega) (by omega) (by simp; omega) _ rfl ?_; intro g10 cap10 w10 hown10 hgrow10 hat10 hlt10; have q10 := HO.out.1.blk.grown hgrow10 (fun e => own_blk_ne hown9 HO.out.1.blk (by decide) e.symm); have e1' : w10.cell? ⟨Q, 1, none⟩ = some (.slice af s.size cf) := q10.cell 1; have fz1' := q10.frozen 1; have HP := Lib.hid (And.intro (HO.out.1.pushF (by rw [HE.out]; exact hown10) (show _ from hgrow10)) ((HO.out.2.grown hgrow10 HO.out.2.size (fun j e => (hown9.lt j e).1)).setCell (p := ⟨Q, 1, none⟩) hz1 (.slice (some ⟨g10, 0, none⟩) (s.size + 1) cap10))); clear hown10 hgrow10 hat10 q10))
              go_roundw
              case rel => exact ⟨s.size + 1, _, _, _, by go_num, by omega, HP.out⟩
              case measure => first | (simp [intOf]; done) | (simp [intOf]; omega)
            · have hke1 : ((k : Int) == (s.size : Int)) = false := by simp; omega
              have HE := Lib.hid (show decide (k = l.length) = false from decide_eq_false (by omega))
              have hone := one_at (w := w6) (u := .slice (some ⟨gr, 0, none⟩) n n) (t := 23)
              have ha6 := (Below.refl w6.heap.size w6).alloc (Nat.le_refl _) (.cells #[.slice (some ⟨gr, 0, none⟩) n n] 23)
              have H7 := Lib.hid (And.intro (H6.out.1.below ha6) (And.intro (own_under H6.out.2.2 ha6 fun g hg => own_lt H6.out.2.2 hg) (H6.out.2.1.trans (ha6.mono H6.out.2.1.size))))
              have hz6 := H6.out.2.1.size
              obtain ⟨⟨z0, z1, z2, z3⟩, -⟩ := H6.out.1.blk.c4
              clear H6 ha6 z0 z1 z2
              have hown7 := H7.out.1.out
              obtain ⟨i0, hi0, hz00, hz01, hz02⟩ := info_parts infoRow
              obtain ⟨i1, hi1, hz10, hz11, hz12⟩ := info_parts infoBool
              go_wp2_with (first
                | (at_builtin; refine wpList_append_lies _ rfl _ _ 24 rfl W.heap.size 23 i0 (.slice none 0 0) 1 24 Tryz.underlying24 hi0 hz00 hz01 hz02 rfl (by decide) _ _ _ rfl hown7 ⟨w6.heap.size, 0, none⟩ 1 1 [.slice (some ⟨gr, 0, none⟩) n n] rfl rfl hone (fun u hu => by simp at hu; subst hu; rfl) (by decide) (by unfold maxLen; omega) (by omega) (by simp; omega) _ rfl ?_; intro g8 cap8 w8 hown8 hgrow8 hat8 hlt8; have q8 := H7.out.1.blk.grown hgrow8 (fun e => own_blk_ne hown7 H7.out.1.blk (by decide) e.symm); have e3 : w8.cell? ⟨Q, 3, none⟩ = some (.slice an k cn) := q8.cell 3; have fz3 := q8.frozen 3; have e1 : w8.cell? ⟨Q, 1, none⟩ = some (.slice af k cf) := q8.cell 1; have fz1 := q8.frozen 1; have HN := Lib.hid (And.intro (H7.out.1.pushN H3.out.2.2.2 H7.out.2.1 hown8 (show (w6.alloc (.cells #[.slice (some ⟨gr, 0, none⟩) n n] 23)).grownBy w8 (Value.slice an k cn).ownBlock from hgrow8)) ((H7.out.2.2.grown hgrow8 H7.out.2.2.size (fun j e => (hown7.lt j e).1)).setCell (p := ⟨Q, 3, none⟩) hz1 (.slice (some ⟨g8, 0, none⟩) (k + 1) cap8))); have ha9 := (Below.refl (w8.setCell ⟨Q, 3, none⟩ (.slice (some ⟨g8, 0, none⟩) (k + 1) cap8)).heap.size _).alloc (Nat.le_refl _) (.cells #[.bool false] 4); have HO := Lib.hid (And.intro (HN.out.1.below ha9) (HN.out.2.trans (ha9.mono HN.out.2.size))); have hown9 := HO.out.1.fin; have hone9 := one_at (w := w8.setCell ⟨Q, 3, none⟩ (.slice (some ⟨g8, 0, none⟩) (k + 1) cap8)) (u := .bool false) (t := 4); have hz8 := HN.out.2.size; simp only [World.size_setCell] at hz8; clear hown8 hgrow8 hat8 q8 ha9 HN)
                | (at_builtin; refine wpList_append_lies _ rfl _ _ 22 rfl W.heap.size 4 i1 (.bool false) 1 1 Tryz.underlying22 hi1 hz10 hz11 hz12 rfl (by decide) _ _ _ rfl hown9 ⟨w8.heap.size, 0, none⟩ 1 1 [.bool false] rfl rfl (by simpa using hone9) (fun u hu => by simp at hu; subst hu; rfl) (by decide) (by unfold maxLen; omega) (by omega) (by simp; omega) _ rfl ?_; intro g10 cap10 w10 hown10 hgrow10 hat10 hlt10; have q10 := HO.out.1.blk.grown hgrow10 (fun e => own_blk_ne hown9 HO.out.1.blk (by decide) e.symm); have e1' : w10.cell? ⟨Q, 1, none⟩ = some (.slice af k cf) := q10.cell 1; have fz1' := q10.frozen 1; have HP := Lib.hid (And.intro (HO.out.1.pushF (by rw [HE.out]; exact hown10) (show _ from hgrow10)) ((HO.out.2.grown hgrow10 HO.out.2.size (fun j e => (hown9.lt j e).1)).setCell (p := ⟨Q, 1, none⟩) hz1 (.slice (some ⟨g10, 0, none⟩) (k + 1) cap10))); clear hown10 hgrow10 hat10 q10))
              go_roundw
              case rel => exact ⟨k + 1, _, _, _, by go_num, by omega, HP.out⟩
              case measure => first | (simp [intOf]; done) | (simp [intOf]; omega)
        · obtain rfl : k = s.size + 2 := by omega
          have hdone := HS.out.1
          rw [← hll] at hdone
          have hD := hdone.done
          rw [hll] at hD
          obtain ⟨⟨y0, y1, y2, y3⟩, -⟩ := HS.out.1.blk.c4
          have hq9 := H.out.2.below HS.out.2 (by omega)
          have hbw := H.out.1.trans (HS.out.2.mono H.out.1.size)
          have hlow : ∀ w2 : World, (∀ k, w.heap.size + 1 ≤ k → w2.heap[k]? = wr.heap[k]?) → DfaAt w2 (.agg #[.int .i64 0, .slice af (s.size + 2) cf, .slice (some ⟨g, 0, none⟩) 256 256, .slice an (s.size + 2) cn]) (wordD l) := by
            intro w2 hw2
            have hge : ∀ {e : TypeId} {n : Nat} {v : Value} {xs : List Value}, wr.ownsRow W.heap.size e 1 v n xs → w2.ownsRow W.heap.size e 1 v n xs := fun {e n v xs} hv => own_sameP hv fun g hg => hw2 g (by have := (hv.lt g hg).1; omega)
            have hWA : WordAt W.heap.size w2 Q (.slice (some ⟨g, 0, none⟩) 256 256) l (l.length + 2) (l.length + 2) (.slice af (s.size + 2) cf) (.slice an (s.size + 2) cn) RS := by
              have hA := HS.out.1
              rw [← hll] at hA ⊢
              exact ⟨(hw2 Q (by omega)).trans hA.blk, hge hA.fin, hge hA.out, fun j hj => by
                obtain ⟨v, hv, hr⟩ := hA.rows j hj
                exact ⟨v, hv, hge hr⟩, hge hA.bk⟩
            exact hWA.done
          obtain ⟨⟨r0, r1, r2, r3⟩, f0, f1, f2, f3⟩ := hq9.c4
          have hb4 := blk_set4 hq9 (.int .i64 0) (.slice af (s.size + 2) cf) (.slice (some ⟨g, 0, none⟩) 256 256) (.slice an (s.size + 2) cn)
          obtain ⟨⟨r0', r1', r2', r3'⟩, -⟩ := hb4.c4
          have ho4 := only_set4 wr w.heap.size (.int .i64 0) (.slice af (s.size + 2) cf) (.slice (some ⟨g, 0, none⟩) 256 256) (.slice an (s.size + 2) cn)
          have hout : DfaOut w ((((wr.setCell ⟨w.heap.size, 0, none⟩ (.int .i64 0)).setCell ⟨w.heap.size, 1, none⟩ (.slice af (s.size + 2) cf)).setCell ⟨w.heap.size, 2, none⟩ (.slice (some ⟨g, 0, none⟩) 256 256)).setCell ⟨w.heap.size, 3, none⟩ (.slice an (s.size + 2) cn)) (.agg #[.int .i64 0, .slice af (s.size + 2) cf, .slice (some ⟨g, 0, none⟩) 256 256, .slice an (s.size + 2) cn]) (wordD (bytesTo s s.size)) := by
            intro w2 hw2
            rw [H3.out.2.2.1]
            exact hlow w2 fun k hk => (hw2 k (by omega)).trans (set4_block wr w.heap.size (.int .i64 0) (.slice af (s.size + 2) cf) (.slice (some ⟨g, 0, none⟩) 256 256) (.slice an (s.size + 2) cn) k (by omega))
          have HF := Lib.hid (And.intro hout (hbw.trans (ho4.below hbw.size (by simp))))
          clear hdone hD hout hbw hlow ho4 hb4 hq9
          go_wp2_with fail
          exact bodyPost_ret (v := .tuple #[.agg #[.int .i64 0, .slice af (s.size + 2) cf, .slice (some ⟨g, 0, none⟩) 256 256, .slice an (s.size + 2) cn], .int .i64 0]) (by simp [results, Tryz.results16, go_sem, r0', r1', r2', r3']) rfl ⟨_, rfl, HF.out.1, HF.out.2⟩
end Go.Proofs.YtmmlakheimfijaaGreatDoor
