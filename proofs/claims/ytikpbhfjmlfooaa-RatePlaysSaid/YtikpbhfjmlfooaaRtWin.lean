/-
  RateWindow: what holds in the loop, and what becomes of it. Conditions: each lemma says its own.
-/
import Derived.Test.YtikpbhfjmlfooaaRtNone
namespace Go.Proofs.Ytikpbhfjmlfooaa
set_option linter.unusedVariables false
set_option linter.unusedSimpArgs false
open Go.RowKit Go.Maps Go.Sort Go.ChangeShapes Go.WideShapes

abbrev Ask := ByteArray × ByteArray × Int
/-- askings that came in -/
structure IsAsk (w : World) (B : Nat) (A : Option Addr) (l : List Ask) : Prop where
  place : l = [] ∨ ∃ b off, A = some ⟨b, off, none⟩ ∧ b < B ∧ ∀ j x, l[j]? = some x → w.cell? ⟨b, off + j * 3, none⟩ = some (.string x.1) ∧ w.cell? ⟨b, off + j * 3 + 1, none⟩ = some (.string x.2.1) ∧ w.cell? ⟨b, off + j * 3 + 2, none⟩ = some (.int .i64 x.2.2)
  ins : ∀ x ∈ l, x.1.size ≤ maxLen ∧ x.2.1.size ≤ maxLen ∧ (Lit.int .i64 x.2.2).wf = true
theorem IsAsk.below {w w' : World} {B : Nat} {A : Option Addr} {l : List Ask} (h : IsAsk w B A l) (hb : Below B w w') {B' : Nat} (hB : B ≤ B') : IsAsk w' B' A l :=
  ⟨h.place.imp id fun ⟨b, off, e, hbB, hc⟩ => ⟨b, off, e, by omega, fun j x hj => ⟨(hb.cell (p := ⟨b, _, none⟩) hbB).trans (hc j x hj).1, (hb.cell (p := ⟨b, _, none⟩) hbB).trans (hc j x hj).2.1, (hb.cell (p := ⟨b, _, none⟩) hbB).trans (hc j x hj).2.2⟩⟩, h.ins⟩
theorem IsAsk.at_ {w : World} {B : Nat} {A : Option Addr} {l : List Ask} (h : IsAsk w B A l) {j : Nat} (hj : j < l.length) : ∃ b off x, A = some ⟨b, off, none⟩ ∧ b < B ∧ l[j]? = some x ∧ (x.1.size ≤ maxLen ∧ x.2.1.size ≤ maxLen ∧ (Lit.int .i64 x.2.2).wf = true) ∧
    (∀ W, Below B w W → W.cell? ⟨b, off + j * 3, none⟩ = some (.string x.1) ∧ W.cell? ⟨b, off + j * 3 + 1, none⟩ = some (.string x.2.1) ∧ W.cell? ⟨b, off + j * 3 + 2, none⟩ = some (.int .i64 x.2.2)) := by
  have hx : l[j]? = some (l[j]'hj) := List.getElem?_eq_getElem hj
  rcases h.place with h0 | ⟨b, off, hA, hbB, hc⟩
  · rw [h0] at hj; simp at hj
  · obtain ⟨c0, c1, c2⟩ := hc j _ hx
    exact ⟨b, off, _, hA, hbB, hx, h.ins _ (List.mem_of_getElem? hx), fun W hb => ⟨(hb.cell (p := ⟨b, _, none⟩) hbB).trans c0, (hb.cell (p := ⟨b, _, none⟩) hbB).trans c1, (hb.cell (p := ⟨b, _, none⟩) hbB).trans c2⟩⟩
theorem isAsk_of {W : World} {H : Type} {enc : TypeId × Value → H} {base : Nat} {held : Bool} {a : Option Addr} {len cap : Nat} {d : DataW H} {ps : List MemPlace}
    (h : DataW.Trod enc Try.prog W base (fun _ => true) held 48 (.slice a len cap) d ps) : ∃ l : List Ask, l.length = len ∧ IsAsk W W.heap.size a l := by
  obtain ⟨h1, h2, h3⟩ := open_recs Try.underlying48 Try.underlying55 (by kernel_rfl) (by kernel_rfl) (by decide) h
  rcases h3 with rfl | ⟨b, off, rfl, hb, hf⟩
  · exact ⟨[], rfl, .inl rfl, fun x hx => by cases hx⟩
  · obtain ⟨cs, hl, hr⟩ := list_of len (fun i (x : Ask) => (W.cell? ⟨b, off + i * 3, none⟩ = some (.string x.1) ∧ W.cell? ⟨b, off + i * 3 + 1, none⟩ = some (.string x.2.1) ∧ W.cell? ⟨b, off + i * 3 + 2, none⟩ = some (.int .i64 x.2.2)) ∧ x.1.size ≤ maxLen ∧ x.2.1.size ≤ maxLen ∧ (Lit.int .i64 x.2.2).wf = true) (fun i hi => by
      obtain ⟨v0, y0, n0, c0, t0⟩ := hf i hi 0 _ rfl
      obtain ⟨v1, y1, n1, c1, t1⟩ := hf i hi 1 _ rfl
      obtain ⟨v2, y2, n2, c2, t2⟩ := hf i hi 2 _ rfl
      obtain ⟨z0, e0, -, w0⟩ := DataW.trod_string Try.underlying9 t0
      obtain ⟨z1, e1, -, w1⟩ := DataW.trod_string Try.underlying9 t1
      obtain ⟨z2, e2, -, w2⟩ := DataW.trod_int Try.underlying3 t2
      simp at e0 e1 e2
      subst e0 e1 e2
      exact ⟨(z0, z1, z2), ⟨c0, c1, c2⟩, w0, w1, w2⟩)
    refine ⟨cs, hl, .inr ⟨b, off, rfl, hb, fun j x hj => (hr j x hj).1⟩, fun x hx => ?_⟩
    obtain ⟨j, hj⟩ := List.getElem?_of_mem hx
    exact (hr j x hj).2

/-- the bucket that is counted -/
def BOk (c fl from_ long : Int) (b : Bkt) (last n : Int) : Prop :=
  b.1 = c ∧ b.2.1 = fl ∧ rightB c fl b.2.2.1 b.2.2.2 = true ∧ b.2.2.2 ≤ last ∧ Window c fl from_ long b.2.2.1 b.2.2.2 n
theorem BOk.later {c fl from_ long : Int} {b : Bkt} {last last' n : Int} (h : BOk c fl from_ long b last n) (hl : last ≤ last') : BOk c fl from_ long b last' n :=
  ⟨h.1, h.2.1, h.2.2.1, by have := h.2.2.2.1; omega, h.2.2.2.2⟩
theorem BOk.reset {c fl from_ long : Int} {b : Bkt} {last n now : Int} (h : BOk c fl from_ long b last n) (hl : last ≤ now) (hn : timeB now = true) : BOk c fl from_ long (c, fl, 0, now) now n := by
  obtain ⟨h1, h2, h3, h4, w0, w1, w2, w3⟩ := h
  obtain ⟨r1, r2, r3, r4⟩ := rightB_true.1 h3
  have hnow := withinB_true.1 hn
  have hr : rightB c fl 0 now = true := rightB_true.2 ⟨r1, r2, by omega, hnow⟩
  have hw : Window c fl from_ long 0 now n := by
    refine ⟨w0, fun h5 => w1 (by omega), fun h5 h6 => ?_, w3⟩
    by_cases h7 : b.2.2.2 < from_
    · have := w1 h7
      have := fd_nonneg r2.1 (show 0 ≤ now - from_ by omega)
      omega
    · have h8 := w2 (by omega) (by omega)
      have h9 : fl * (now - from_) = fl * (b.2.2.2 - from_) + fl * (now - b.2.2.2) := by rw [← mul_split]; congr 1; omega
      have h10 := fd_nonneg r2.1 (show 0 ≤ now - b.2.2.2 by omega)
      omega
  exact ⟨rfl, rfl, hr, Int.le_refl _, hw⟩
theorem BOk.take {c fl from_ long : Int} {b : Bkt} {last n now : Int} (h : BOk c fl from_ long b last n) (h0 : 0 ≤ long) (hl : last ≤ now) (hn : timeB now = true) :
    BOk c fl from_ long (takeOf b now) now (n + if takenOf b now = true ∧ from_ ≤ now ∧ now - from_ ≤ long then 1 else 0) := by
  obtain ⟨h1, h2, h3, h4, h5⟩ := h
  obtain ⟨b0, b1, y, t⟩ := b
  simp only at h1 h2 h3 h4 h5
  subst h1 h2
  have hnow := withinB_true.1 hn
  have hw := window_take (now := now) h3 h0 h5
  have hr := take_right (now := now) h3
  have hT : takeT b0 b1 y t now = now := by
    unfold takeT
    rw [if_pos h3]
    unfold atT
    by_cases hg : goesB b0 b1 y t now = true
    · rw [if_pos hg]
    · rw [if_neg hg]
      have : ¬ (t < now) := fun hlt => hg (goesB_true.2 ⟨h3, hlt, hnow.2⟩)
      omega
  rw [hT] at hw hr
  refine ⟨rfl, rfl, ?_, ?_, ?_⟩
  · simp only [takeOf, hT]; exact hr
  · simp only [takeOf, hT]; omega
  · simp only [takeOf, takenOf, hT]; exact hw

/-- what holds between two askings -/
structure WinAt (B rp mc : Nat) (g : ByteArray → Option (Int × Int)) (c fl l0 l1 : Int) (w : World) (i : Nat) (n last : Int) (W : World) : Prop where
  rates : ∃ mb k f bg, k ≤ i ∧ B ≤ mb ∧ RatesAt rp mc mb 2 k g f bg W ∧ BOk c fl l0 l1 (bktOf g f bg tA gold) last n
  cls : Blk W B 31 #[.string gold, .int .i64 c, .int .i64 fl]
  win : Blk W (B + 1) 39 #[.int .i64 l0, .int .i64 l1]
  time : timeB last = true
  num : 0 ≤ n ∧ n ≤ i
  below : Below B w W
  room : B + 2 ≤ W.heap.size
  low : B ≤ rp
theorem WinAt.grow {B rp mc : Nat} {g : ByteArray → Option (Int × Int)} {c fl l0 l1 : Int} {w : World} {i : Nat} {n last : Int} {W W' : World} (h : WinAt B rp mc g c fl l0 l1 w i n last W) (hb : Below W.heap.size W W') : WinAt B rp mc g c fl l0 l1 w i n last W' := by
  obtain ⟨mb, k, f, bg, h1, h2, h3, h4⟩ := h.rates
  exact ⟨⟨mb, k, f, bg, h1, h2, h3.keep hb, h4⟩, h.cls.below hb h.cls.lt, h.win.below hb h.win.lt, h.time, h.num, h.below.trans (hb.mono (by have := h.room; omega)), by have := hb.size; have := h.room; omega, h.low⟩
theorem WinAt.begin {B rp mc : Nat} {g : ByteArray → Option (Int × Int)} {c fl l0 l1 : Int} {w : World} {i : Nat} {n last nw : Int} {W w' : World} (h : WinAt B rp mc g c fl l0 l1 w i n last W) (hl : last ≤ nw) (hn : timeB nw = true) {mb' : Nat} (hmb : W.heap.size ≤ mb')
    (hd : Blk w' rp 65 (ratesV mc mb' nw)) (hm : w'.ownsMap Try.prog 77 Rbkt mb' 0 (.map [])) (ho : Only [rp] W w') (hg : g gold = some (c, fl)) : WinAt B rp mc g c fl l0 l1 w (i + 1) n nw w' := by
  obtain ⟨mb, k, f, bg, h1, h2, h3, h4⟩ := h.rates
  have hr := h.room
  have hlo := h.low
  obtain ⟨D, d1, d2⟩ := h3.cls
  have lt := h3.lt
  have n1 : B ≠ rp := Blk.ne_ h.cls h3.head (by decide)
  have n2 : B + 1 ≠ rp := Blk.ne_ h.win h3.head (by decide)
  have n3 : mc ≠ rp := blk_map_ne d1 h3.head
  have hb : bktOf g (fun _ _ => none) nw tA gold = (c, fl, 0, nw) := by rw [bktOf, hg]; rfl
  exact ⟨⟨mb', 0, _, nw, by omega, by omega, ⟨hd, ⟨D, map_only d1 ho (by simpa using n3), d2⟩, ⟨_, hm, bktMap_none⟩, by omega⟩, by rw [hb]; exact h4.reset hl hn⟩, h.cls.only ho (by simpa using n1), h.win.only ho (by simpa using n2), hn, by have := h.num; omega, h.below.trans (ho.below (by omega) (by simp; omega)), by have := ho.size; omega, h.low⟩
theorem WinAt.take {B rp mc : Nat} {g : ByteArray → Option (Int × Int)} {c fl l0 l1 : Int} {w : World} {i : Nat} {n last nw : Int} {W w' : World} (h : WinAt B rp mc g c fl l0 l1 w i n last W) (hl : last ≤ nw) (hn : timeB nw = true) (h0 : 0 ≤ l1) (hg : g gold = some (c, fl))
    {mb k : Nat} {f : ByteArray → ByteArray → Option Bkt} {bg : Int} {tn cl : ByteArray} (hk : k ≤ i) (hmb : B ≤ mb) (hr : RatesAt rp mc mb 2 k g f bg W) (hb : BOk c fl l0 l1 (bktOf g f bg tA gold) last n)
    (hr' : RatesAt rp mc mb 2 (k + 1) g (takeF g f bg tn cl nw) bg w') (ho : Only [mb] W w') :
    WinAt B rp mc g c fl l0 l1 w (i + 1) (n + if takeE g (bktOf g f bg tn cl) cl nw = 0 ∧ tn = tA ∧ cl = gold ∧ l0 ≤ nw ∧ nw - l0 ≤ l1 then 1 else 0) nw w' := by
  have hroom := h.room
  obtain ⟨D, d1, d2⟩ := hr.bkt
  have n1 : B ≠ mb := fun e => blk_map_ne d1 h.cls e.symm
  have n2 : B + 1 ≠ mb := fun e => blk_map_ne d1 h.win e.symm
  have hnum := h.num
  refine ⟨⟨mb, k + 1, _, bg, by omega, hmb, hr', ?_⟩, h.cls.only ho (by simpa using n1), h.win.only ho (by simpa using n2), hn, by split <;> omega, h.below.trans (ho.below (by omega) (by simp; omega)), by have := ho.size; omega, h.low⟩
  by_cases e : tn = tA ∧ cl = gold
  · obtain ⟨rfl, rfl⟩ := e
    have hs : (g gold).isSome = true := by rw [hg]; rfl
    have hf : takeF g f bg tA gold nw = fset f tA gold (takeOf (bktOf g f bg tA gold) nw) := by rw [takeF, hs, if_pos rfl]
    have hb2 : bktOf g (takeF g f bg tA gold nw) bg tA gold = takeOf (bktOf g f bg tA gold) nw := by
      rw [hf]
      generalize takeOf (bktOf g f bg tA gold) nw = y
      rw [bktOf, hg]
      simp [fset]
    have hx := hb.take h0 hl hn
    rw [hb2]
    have hc : takeE g (bktOf g f bg tA gold) gold nw = 0 ↔ takenOf (bktOf g f bg tA gold) nw = true := by
      rw [takeE, hs, if_pos rfl]
      cases takenOf (bktOf g f bg tA gold) nw <;> simp
    simp only [hc, true_and]
    exact hx
  · have hf : bktOf g (takeF g f bg tn cl nw) bg tA gold = bktOf g f bg tA gold := by
      rw [bktOf, bktOf, hg]
      have : takeF g f bg tn cl nw tA gold = f tA gold := by
        unfold takeF
        split
        · rw [fset, if_neg (fun h => e ⟨h.1.symm, h.2.symm⟩)]
        · rfl
      simp only [this]
    rw [hf, if_neg (fun h => e ⟨h.2.1, h.2.2.1⟩), Int.add_zero]
    exact hb.later hl
theorem eq_tA (s : ByteArray) : (s.toList == [97]) = decide (s = tA) := by
  rw [← str_eq, show tA.toList = [97] from txt_toList _]
theorem eq_gold (s : ByteArray) : (s.toList == [103, 111, 108, 100]) = decide (s = gold) := by
  rw [← str_eq, show gold.toList = [103, 111, 108, 100] from txt_toList _]
end Go.Proofs.Ytikpbhfjmlfooaa
