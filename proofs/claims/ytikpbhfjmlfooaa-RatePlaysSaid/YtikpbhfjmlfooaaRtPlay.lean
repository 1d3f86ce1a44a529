/-
  Plain words for RatePlays: what the rates hold, and what the reference makes of what was asked since they began. Conditions: each lemma says its own.
-/
import Derived.Test.YtikpbhfjmlfooaaRtRefBucket
namespace Go.Proofs.Ytikpbhfjmlfooaa
set_option linter.unusedVariables false
set_option linter.unusedSimpArgs false
open Go.RowKit Go.Maps Go.Sort

def beg : ByteArray := ⟨#[98, 101, 103, 105, 110]⟩
theorem eq_beg (s : ByteArray) : (s.toList == [98, 101, 103, 105, 110]) = decide (s = beg) := by
  rw [← str_eq, show beg.toList = [98, 101, 103, 105, 110] from txt_toList _]
/-- what was asked since a place -/
def since (asked : List Ask) (fr i : Nat) : List Ask := (asked.drop fr).take (i - fr)
theorem since_snoc (asked : List Ask) (fr i : Nat) (x : Ask) (hf : fr ≤ i) (hx : asked[i]? = some x) : since asked fr (i + 1) = since asked fr i ++ [x] := by
  unfold since
  rw [show i + 1 - fr = (i - fr) + 1 by omega, List.take_add_one, List.getElem?_drop, show fr + (i - fr) = i by omega, hx]
  rfl
theorem since_self (asked : List Ask) (i : Nat) : since asked i i = [] := by simp [since]
theorem since_len (asked : List Ask) (fr i : Nat) (hi : i ≤ asked.length) (hf : fr ≤ i) : (since asked fr i).length = i - fr := by
  rw [since, List.length_take, List.length_drop]
  omega
/-- the map of buckets holds what the reference reckons -/
def Tied (l : List Cls) (f : ByteArray → ByteArray → Option Bkt) (bg : Int) (L : List Ask) : Prop := ∀ t c, c ≠ beg → bktOf (clsG l) f bg t c = askB l bg L t c
theorem tied_start (l : List Cls) (bg : Int) : Tied l (fun _ _ => none) bg [] := fun t c _ => by
  rw [bktOf, askB]
  cases clsG l c <;> rfl
theorem Tied.other {l : List Cls} {f : ByteArray → ByteArray → Option Bkt} {bg : Int} {L : List Ask} {x : Ask} (h : Tied l f bg L) (hx : x.2.1 = beg) : Tied l f bg (L ++ [x]) := fun t c hc => by
  rw [h t c hc, askB, askB]
  cases clsG l c with
  | none => rfl
  | some y => simp only; rw [foldB_snoc, if_neg (fun (h : x.1 = t ∧ x.2.1 = c) => hc (h.2.symm.trans hx))]
theorem Tied.take {l : List Cls} {f : ByteArray → ByteArray → Option Bkt} {bg : Int} {L : List Ask} {tn cl : ByteArray} {nw : Int} (h : Tied l f bg L) (hc : cl ≠ beg) : Tied l (takeF (clsG l) f bg tn cl nw) bg (L ++ [(tn, cl, nw)]) := fun t c hcb => by
  have h1 := h t c hcb
  unfold askB at h1 ⊢
  unfold bktOf at h1 ⊢
  cases hg : clsG l c with
  | none => rfl
  | some y =>
    rw [hg] at h1
    simp only at h1 ⊢
    rw [foldB_snoc]
    by_cases e : tn = t ∧ cl = c
    · obtain ⟨rfl, rfl⟩ := e
      rw [if_pos ⟨rfl, rfl⟩, takeF, hg, Option.isSome_some, if_pos rfl, fset_same, Option.getD_some, bktOf, hg]
      simp only
      rw [h1]
    · rw [if_neg e, takeF]
      split
      · rw [fset, if_neg (fun h => e ⟨h.1.symm, h.2.symm⟩)]
        exact h1
      · exact h1
/-- askings of a part -/
theorem IsAsk.part {w : World} {B b off : Nat} {l : List Ask} (h : IsAsk w B (some ⟨b, off, none⟩) l) (fr i : Nat) (hi : i ≤ l.length) (hf : fr ≤ i) : IsAsk w B (some ⟨b, off + fr * 3, none⟩) (since l fr i) := by
  refine ⟨?_, fun x hx => h.ins x (List.mem_of_mem_drop (List.mem_of_mem_take hx))⟩
  rcases h.place with h0 | ⟨b', off', e, hbB, hc⟩
  · subst h0
    exact .inl (by simp [since])
  · simp only [Option.some.injEq, Addr.mk.injEq, and_true] at e
    obtain ⟨rfl, rfl⟩ := e
    refine .inr ⟨b, off + fr * 3, rfl, hbB, fun j x hj => ?_⟩
    have hlt : j < i - fr := by
      have := (List.getElem?_eq_some_iff.1 hj).1
      rw [since, List.length_take] at this
      omega
    rw [since, List.getElem?_take, if_pos hlt, List.getElem?_drop] at hj
    have := hc (fr + j) x hj
    rw [show off + (fr + j) * 3 = off + fr * 3 + j * 3 by omega] at this
    exact this

/-- what holds between two askings -/
structure PlayR (B rp mc : Nat) (l : List Cls) (asked : List Ask) (w : World) (i fr : Nat) (bg : Int) (W : World) : Prop where
  rates : ∃ mb k f, k ≤ i ∧ B ≤ mb ∧ RatesAt rp mc mb l.length k (clsG l) f bg W ∧ Tied l f bg (since asked fr i)
  from_ : fr ≤ i
  below : Below B w W
  room : B ≤ W.heap.size
  low : B ≤ rp
theorem PlayR.grow {B rp mc : Nat} {l : List Cls} {asked : List Ask} {w : World} {i fr : Nat} {bg : Int} {W W' : World} (h : PlayR B rp mc l asked w i fr bg W) (hb : Below W.heap.size W W') : PlayR B rp mc l asked w i fr bg W' := by
  obtain ⟨mb, k, f, h1, h2, h3, h4⟩ := h.rates
  exact ⟨⟨mb, k, f, h1, h2, h3.keep hb, h4⟩, h.from_, h.below.trans (hb.mono h.room), by have := hb.size; have := h.room; omega, h.low⟩
theorem PlayR.begin {B rp mc : Nat} {l : List Cls} {asked : List Ask} {w : World} {i fr : Nat} {bg nw : Int} {tn : ByteArray} {W w' : World} (h : PlayR B rp mc l asked w i fr bg W) (hx : asked[i]? = some (tn, beg, nw)) {mb' : Nat} (hmb : W.heap.size ≤ mb')
    (hd : Blk w' rp 65 (ratesV mc mb' nw)) (hm : w'.ownsMap Try.prog 77 Rbkt mb' 0 (.map [])) (ho : Only [rp] W w') : PlayR B rp mc l asked w (i + 1) i nw w' := by
  obtain ⟨mb, k, f, h1, h2, h3, h4⟩ := h.rates
  obtain ⟨D, d1, d2⟩ := h3.cls
  have lt := h3.lt
  have hro := h.room
  have hlo := h.low
  have n3 : mc ≠ rp := blk_map_ne d1 h3.head
  have ht : Tied l (fun _ _ => none) nw (since asked i (i + 1)) := by
    rw [since_snoc asked i i _ (Nat.le_refl _) hx, since_self]
    exact (tied_start l nw).other rfl
  exact ⟨⟨mb', 0, _, by omega, by omega, ⟨hd, ⟨D, map_only d1 ho (by simpa using n3), d2⟩, ⟨_, hm, bktMap_none⟩, by omega⟩, ht⟩, by omega, h.below.trans (ho.below (by omega) (by simp; omega)), by have := ho.size; omega, h.low⟩
theorem PlayR.skip {B rp mc : Nat} {l : List Cls} {asked : List Ask} {w : World} {i fr : Nat} {bg nw : Int} {tn : ByteArray} {W : World} (h : PlayR B rp mc l asked w i fr bg W) (hx : asked[i]? = some (tn, beg, nw)) : PlayR B rp mc l asked w (i + 1) fr bg W := by
  obtain ⟨mb, k, f, h1, h2, h3, h4⟩ := h.rates
  have hf := h.from_
  exact ⟨⟨mb, k, f, by omega, h2, h3, by rw [since_snoc asked fr i _ hf hx]; exact h4.other rfl⟩, by omega, h.below, h.room, h.low⟩
theorem PlayR.take {B rp mc : Nat} {l : List Cls} {asked : List Ask} {w : World} {i fr : Nat} {bg nw : Int} {tn cl : ByteArray} {W w' : World} (h : PlayR B rp mc l asked w i fr bg W) (hx : asked[i]? = some (tn, cl, nw)) (hc : cl ≠ beg) {mb k : Nat} {f : ByteArray → ByteArray → Option Bkt}
    (h1 : k ≤ i) (h2 : B ≤ mb) (h4 : Tied l f bg (since asked fr i)) (hr : RatesAt rp mc mb l.length (k + 1) (clsG l) (takeF (clsG l) f bg tn cl nw) bg w') (ho : Only [mb] W w') : PlayR B rp mc l asked w (i + 1) fr bg w' := by
  have hf := h.from_
  have hro := h.room
  exact ⟨⟨mb, k + 1, _, by omega, h2, hr, by rw [since_snoc asked fr i _ hf hx]; exact h4.take hc⟩, by omega, h.below.trans (ho.below (by omega) (by simp; omega)), by have := ho.size; omega, h.low⟩
theorem field_haveB (w : World) (c f y t : Int) : (Instr.field 26 (.agg #[.int .i64 c, .int .i64 f, .int .i64 y, .int .i64 t]) 2).run Try.prog w = .ok (.int .i64 y) w := by kernel_rfl
theorem refcheck_of {l : List Cls} {E : Int} (h : checkE l = E) : checkE l = E := h
end Go.Proofs.Ytikpbhfjmlfooaa
