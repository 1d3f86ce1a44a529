/-
  The document's examples, plainly.
  A pattern's text is made of bytes; what is read again. Plainly.
  The walk of works. Conditions: the library's table and the program's marks lie as laid.
-/
import Derived.Test.YtpknglbpbodnbaaDoorJRgSizes
import Derived.Test.YtpknglbpbodnbaaDoorJRgBack
import Derived.KernelRfl
import Derived.Test.YtpknglbpbodnbaaDoorJRgSetW
import Derived.Test.YtpknglbpbodnbaaDoorJRgParseW
import Derived.Test.YtpknglbpbodnbaaDoorJRgTextW
import Derived.Test.YtpknglbpbodnbaaDoorJRgSign
namespace Go.Proofs.YtpknglbpbodnbaaDoor
set_option linter.unusedVariables false
open Cs Rg

def wkA : ByteArray := ⟨#[40, 97, 41, 40, 98, 124, 99, 41, 123, 48, 44, 49, 125]⟩
def wkB : ByteArray := ⟨#[91, 97, 45, 98, 93]⟩
def wkN (s : ByteArray) : Nd := (parseN (natsOf s)).getD zeroN
set_option maxRecDepth 100000 in
theorem wkA_some : (parseN (natsOf wkA)).isSome = true := by kernel_rfl
set_option maxRecDepth 100000 in
theorem wkB_some : (parseN (natsOf wkB)).isSome = true := by kernel_rfl
set_option maxRecDepth 100000 in
theorem wkA_text : textN (wkN wkA) = some [97, 40, 98, 124, 99, 41, 63] := by kernel_rfl
set_option maxRecDepth 100000 in
theorem wkB_text : textN (wkN wkB) = some [91, 97, 98, 93] := by kernel_rfl
theorem bsT_a : bsT [97, 40, 98, 124, 99, 41, 63] = ⟨#[97, 40, 98, 124, 99, 41, 63]⟩ := rfl
theorem bsT_b : bsT [91, 97, 98, 93] = ⟨#[91, 97, 98, 93]⟩ := rfl
theorem bsT_c : bsT (byteT 46) = ⟨#[92, 46]⟩ := by kernel_rfl
theorem wk_ok {s : ByteArray} (h : (parseN (natsOf s)).isSome = true) (hs : s.size ≤ 200) : InN (wkN s) ∧ sizeN (wkN s) ≤ 1024 := by
  obtain ⟨n, hn⟩ := Option.isSome_iff_exists.1 h
  have h2 := parseN_size (natsOf_bytes s) hn
  unfold wkN
  rw [hn]
  rw [natsOf_len] at h2
  exact ⟨h2.2.1, by have := h2.1; show sizeN n ≤ 1024; omega⟩
end Go.Proofs.YtpknglbpbodnbaaDoor
namespace Go.Proofs.YtpknglbpbodnbaaDoor
set_option linter.unusedVariables false
open Cs
namespace Rg

theorem runT_bytes {lo hi : Nat} (h1 : lo < 256) (h2 : hi ≤ 256) : BytesL (runT lo hi) := by
  unfold runT
  rw [BytesL.app, BytesL.app]
  refine ⟨⟨signT_bytes h1 _, ?_⟩, ?_⟩
  · split
    · simp [BytesL]
    · exact BytesL.nil
  · split
    · exact signT_bytes (by omega) _
    · exact BytesL.nil
theorem runsF_bytes (s : Nat → Int) : ∀ (n lo : Nat), BytesL (runsF s n lo)
  | 0, lo => BytesL.nil
  | n + 1, lo => by
    unfold runsF
    split
    · exact BytesL.nil
    · rename_i h
      split
      · rw [BytesL.app]
        have := (endF_le s (256 - lo) lo).2
        exact ⟨runT_bytes (by omega) (by omega), runsF_bytes s n _⟩
      · exact runsF_bytes s n _
theorem setT_bytes {s : S4} (hs : SetIn s.f) : BytesL (setT s) := by
  unfold setT
  split
  · simp [BytesL]
  split
  · simp [BytesL]
  split
  · simp [BytesL]
  split
  · simp [BytesL]
  split
  · rename_i h
    exact signT_bytes (single hs h).1 _
  · rw [BytesL.cons, BytesL.app]
    exact ⟨by omega, runsF_bytes _ _ _, by simp [BytesL]⟩
theorem numT_bytes {n : Int} (h0 : 0 ≤ n) (h1 : n ≤ 16) : BytesL (numT n) := by
  unfold numT
  split
  · simp [BytesL]; omega
  · simp [BytesL]; omega
theorem oftenT_bytes {x y : Int} (h : timesB x y = true) : BytesL (oftenT x y) := by
  simp [timesB] at h
  unfold oftenT
  split
  · simp [BytesL]
  split
  · simp [BytesL]
  split
  · simp [BytesL]
  split
  · rw [BytesL.cons, BytesL.app]
    exact ⟨by omega, numT_bytes (by omega) (by omega), by simp [BytesL]⟩
  split
  · rw [BytesL.cons, BytesL.app]
    exact ⟨by omega, numT_bytes (by omega) (by omega), by simp [BytesL]⟩
  · rw [BytesL.cons, BytesL.app, BytesL.cons, BytesL.app]
    exact ⟨by omega, numT_bytes (by omega) (by omega), by omega, numT_bytes (by omega) (by omega), by simp [BytesL]⟩
theorem tellL_bytes {k : Int} : ∀ {l : List Nd} {b : Bool}, (∀ n ∈ l, BytesL (tellN n)) → BytesL (tellL k b l)
  | [], b, _ => by rw [tellL]; exact BytesL.nil
  | n :: l, b, h => by
    rw [tellL, BytesL.app, BytesL.app]
    refine ⟨⟨?_, ?_⟩, tellL_bytes fun m hm => h m (List.mem_cons_of_mem _ hm)⟩
    · unfold barT; split
      · simp [BytesL]
      · exact BytesL.nil
    · have h1 := h n (List.mem_cons_self ..)
      unfold wrapT; split
      · rw [BytesL.cons, BytesL.app]; exact ⟨by omega, h1, by simp [BytesL]⟩
      · exact h1
theorem tellN_bytes (n : Nd) : InN n → rightN n = true → BytesL (tellN n) := by
  refine Nd.ind (P := fun n => InN n → rightN n = true → BytesL (tellN n)) (fun k s l x y ih hI hr => ?_) n
  rw [InN, InL_iff] at hI
  rw [rightN_iff] at hr
  rw [tellN]
  split
  · exact setT_bytes hI.1
  · rw [BytesL.app]
    refine ⟨tellL_bytes fun m hm => ih m hm (hI.2 m hm) (hr.1 m hm).1, ?_⟩
    split
    · rename_i h4
      rcases hr.2.2.2 with h | h | h | h
      · omega
      · omega
      · omega
      · exact oftenT_bytes h.2.2
    · exact BytesL.nil
theorem textN_bytes {n : Nd} (hI : InN n) {t : List Nat} (h : textN n = some t) : BytesL t ∧ t.length ≤ 256 := by
  unfold textN at h
  split at h
  · rename_i hc
    cases h
    exact ⟨tellN_bytes n hI hc.1, hc.2.1⟩
  · cases h
/-- read again -/
theorem text_again {n : Nd} (hI : InN n) {t : List Nat} (h : textN n = some t) : parseN (natsOf (bsT t)) = some n := by
  rw [bsT_nats (textN_bytes hI h).1]
  exact text_back hI h
/-- two trees with texts are the same iff their texts are -/
theorem text_same {a b : Nd} (ha : InN a) (hb : InN b) {s t : List Nat} (hs : textN a = some s) (ht : textN b = some t) : decide (s = t) = decide (a = b) := by
  by_cases h : a = b
  · subst h
    rw [hs] at ht
    cases ht
    simp
  · have : ¬ s = t := fun e => h (by
      subst e
      have h1 := text_back ha hs
      have h2 := text_back hb ht
      rw [h1] at h2
      exact Option.some.inj h2)
    simp [h, this]
theorem in_zero : InN zeroN := by unfold zeroN; rw [InN, InL]; exact ⟨fun i => by simp [S4.f, none4], trivial⟩
theorem size_zero : sizeN zeroN = 1 := by unfold zeroN; rw [sizeN, sizeL]
end Rg
end Go.Proofs.YtpknglbpbodnbaaDoor
namespace Go.Proofs.YtpknglbpbodnbaaDoor
set_option linter.unusedVariables false
set_option linter.unusedSimpArgs false
open Go.RowKit Go.Sort Cs Rg Go.ChangeShapes Go.WideShapes

/-- a node's variable, and a fault's -/
structure Vr (w' : World) (nb fb : Nat) (n : Nd) (a : Option Addr) (c : Nat) (E x : Int) : Prop where
  nd : Blk w' nb 27 #[.int .i64 n.kind, .int .u64 n.set.a, .int .u64 n.set.b, .int .u64 n.set.c, .int .u64 n.set.d, .slice a n.kids.length c, .int .i64 n.lo, .int .i64 n.hi]
  ft : Blk w' fb 38 #[.int .i64 E, .int .i64 x]
  inn : NdIn w' a n
theorem Vr.go {w' w2 : World} {nb fb : Nat} {n : Nd} {a : Option Addr} {c : Nat} {E x : Int} (h : Vr w' nb fb n a c E x) (hb : Below w'.heap.size w' w2) : Vr w2 nb fb n a c E x :=
  ⟨h.nd.below hb h.nd.lt, h.ft.below hb h.ft.lt, h.inn.below hb⟩
theorem Vr.new {w : World} {n : Nd} {a : Option Addr} {c : Nat} {E x : Int} (h : NdIn w a n) :
    Vr ((w.alloc (.cells #[.int .i64 n.kind, .int .u64 n.set.a, .int .u64 n.set.b, .int .u64 n.set.c, .int .u64 n.set.d, .slice a n.kids.length c, .int .i64 n.lo, .int .i64 n.hi] 27)).alloc (.cells #[.int .i64 E, .int .i64 x] 38)) w.heap.size (w.heap.size + 1) n a c E x ∧
      Below w.heap.size w ((w.alloc (.cells #[.int .i64 n.kind, .int .u64 n.set.a, .int .u64 n.set.b, .int .u64 n.set.c, .int .u64 n.set.d, .slice a n.kids.length c, .int .i64 n.lo, .int .i64 n.hi] 27)).alloc (.cells #[.int .i64 E, .int .i64 x] 38)) := by
  have b0 := (Below.refl w.heap.size w).alloc (Nat.le_refl _) (.cells #[.int .i64 n.kind, .int .u64 n.set.a, .int .u64 n.set.b, .int .u64 n.set.c, .int .u64 n.set.d, .slice a n.kids.length c, .int .i64 n.lo, .int .i64 n.hi] 27)
  have n0 := Blk.new w 27 #[.int .i64 n.kind, .int .u64 n.set.a, .int .u64 n.set.b, .int .u64 n.set.c, .int .u64 n.set.d, .slice a n.kids.length c, .int .i64 n.lo, .int .i64 n.hi]
  have s0 : (w.alloc (.cells #[.int .i64 n.kind, .int .u64 n.set.a, .int .u64 n.set.b, .int .u64 n.set.c, .int .u64 n.set.d, .slice a n.kids.length c, .int .i64 n.lo, .int .i64 n.hi] 27)).heap.size = w.heap.size + 1 := by simp
  generalize w.alloc (.cells #[.int .i64 n.kind, .int .u64 n.set.a, .int .u64 n.set.b, .int .u64 n.set.c, .int .u64 n.set.d, .slice a n.kids.length c, .int .i64 n.lo, .int .i64 n.hi] 27) = w1 at *
  have b1 := (Below.refl w1.heap.size w1).alloc (Nat.le_refl _) (.cells #[.int .i64 E, .int .i64 x] 38)
  have n1 := Blk.new w1 38 #[.int .i64 E, .int .i64 x]
  rw [s0] at n1
  have hb := b0.trans (b1.mono (by omega))
  exact ⟨⟨n0.below b1 n0.lt, n1, h.below hb⟩, hb⟩
set_option maxHeartbeats 8000000 in
set_option maxRecDepth 1000000 in
theorem works_any (w : World) (hT : TabIn w) (hM : MarksIn w) : Calls Tryd.prog 7 #[] w fun e w' => e = .returned (.bool true) ∧ Below w.heap.size w w' := by
  obtain ⟨nA, hnA⟩ : ∃ n, wkN wkA = n := ⟨_, rfl⟩
  obtain ⟨nB, hnB⟩ : ∃ n, wkN wkB = n := ⟨_, rfl⟩
  have hA := wk_ok wkA_some (by decide)
  have hB := wk_ok wkB_some (by decide)
  have hA2 := wkA_text
  have hB2 := wkB_text
  rw [hnA] at hA hA2
  rw [hnB] at hB hB2
  have H0 := Lib.hid (And.intro (Below.refl w.heap.size w) (And.intro hT hM))
  have HA := Lib.hid (And.intro hA hA2)
  have HB := Lib.hid (And.intro hB hB2)
  have HE := Lib.hid (And.intro hnA hnB)
  clear hA hB hA2 hB2 hT hM hnA hnB
  go_enter Tryd.func7, Tryd.ntmps7
  go_wp2_with fail
  refine (parse_any _ w H0.out.2.1).mono ?_
  rintro e w1 ⟨b1, v, E1, x1, rfl, hnd, hs, -⟩
  obtain ⟨rfl, rfl⟩ := hs wkA_some
  have e1 : (parseN (natsOf wkA)).getD zeroN = nA := HE.out.1
  have hnd1 : NdV (fun b => w.heap.size ≤ b) w1 v nA := by rw [← e1]; exact hnd
  obtain ⟨a1, c1, rfl, hnp⟩ := hnd1
  have H1 := Lib.hid (And.intro b1 (And.intro (H0.out.2.1.below b1) (H0.out.2.2.below b1)))
  have hn2 := Vr.new (c := c1) (E := 0) (x := 0) (NdP.in_ nA hnp)
  have V1 := Lib.hid hn2.1
  have H2 := Lib.hid (And.intro (b1.trans (hn2.2.mono b1.size)) (And.intro (H1.out.2.1.below hn2.2) (H1.out.2.2.below hn2.2)))
  clear hnd hs b1 e1 hnp hn2 H0 H1
  unfold nodeV
  go_upto_region 2 with (fail)
  obtain ⟨nb1, hnb1⟩ : ∃ nb, w1.heap.size = nb := ⟨_, rfl⟩
  generalize (w1.alloc (.cells #[.int .i64 nA.kind, .int .u64 nA.set.a, .int .u64 nA.set.b, .int .u64 nA.set.c, .int .u64 nA.set.d, .slice a1 nA.kids.length c1, .int .i64 nA.lo, .int .i64 nA.hi] 27)).alloc (.cells #[.int .i64 0, .int .i64 0] 38) = w2 at *
  rw [hnb1] at V1 ⊢
  clear hnb1
  obtain ⟨⟨x0, x1, x2, x3, x4, x5, x6, x7⟩, -⟩ := V1.out.nd.c8
  go_wp2_with fail
  refine (text14_any nA _ w2 ⟨a1, c1, rfl, V1.out.inn⟩ HA.out.1.1 HA.out.1.2 H2.out.2.1 H2.out.2.2).mono ?_
  rintro e w3 ⟨rfl, b3⟩
  rw [HA.out.2]
  simp only [Option.getD_some, bsT_a, Option.isSome_some]
  have V2 := Lib.hid (V1.out.go b3)
  have H3 := Lib.hid (And.intro (H2.out.1.trans (b3.mono H2.out.1.size)) (And.intro (H2.out.2.1.below b3) (H2.out.2.2.below b3)))
  clear x0 x1 x2 x3 x4 x5 x6 x7 b3 V1 H2
  go_wp2_with fail
  refine (parse_any _ w3 H3.out.2.1).mono ?_
  rintro e w4 ⟨b4, v, E1, x1, rfl, hnd, hs, -⟩
  obtain ⟨rfl, rfl⟩ := hs wkB_some
  have e1 : (parseN (natsOf wkB)).getD zeroN = nB := HE.out.2
  have hnd1 : NdV (fun b => w3.heap.size ≤ b) w4 v nB := by rw [← e1]; exact hnd
  obtain ⟨a2, c2, rfl, hnp⟩ := hnd1
  have hn2 := Vr.new (c := c2) (E := 0) (x := 0) (NdP.in_ nB hnp)
  have U1 := Lib.hid hn2.1
  have V3 := Lib.hid ((V2.out.go b4).go hn2.2)
  have H4 := Lib.hid (And.intro ((H3.out.1.trans (b4.mono H3.out.1.size)).trans (hn2.2.mono (Nat.le_trans H3.out.1.size b4.size))) (And.intro ((H3.out.2.1.below b4).below hn2.2) ((H3.out.2.2.below b4).below hn2.2)))
  clear hnd hs b4 e1 hnp hn2 H3 V2
  unfold nodeV
  go_upto_region 4 with (fail)
  obtain ⟨nb2, hnb2⟩ : ∃ nb, w4.heap.size = nb := ⟨_, rfl⟩
  generalize (w4.alloc (.cells #[.int .i64 nB.kind, .int .u64 nB.set.a, .int .u64 nB.set.b, .int .u64 nB.set.c, .int .u64 nB.set.d, .slice a2 nB.kids.length c2, .int .i64 nB.lo, .int .i64 nB.hi] 27)).alloc (.cells #[.int .i64 0, .int .i64 0] 38) = w5 at *
  rw [hnb2] at U1 ⊢
  clear hnb2
  obtain ⟨⟨x0, x1, x2, x3, x4, x5, x6, x7⟩, -⟩ := U1.out.nd.c8
  go_wp2_with fail
  refine (text14_any nB _ w5 ⟨a2, c2, rfl, U1.out.inn⟩ HB.out.1.1 HB.out.1.2 H4.out.2.1 H4.out.2.2).mono ?_
  rintro e w6 ⟨rfl, b6⟩
  rw [HB.out.2]
  simp only [Option.getD_some, bsT_b, Option.isSome_some]
  have V4 := Lib.hid (V3.out.go b6)
  have U2 := Lib.hid (U1.out.go b6)
  have H5 := Lib.hid (And.intro (H4.out.1.trans (b6.mono H4.out.1.size)) (And.intro (H4.out.2.1.below b6) (H4.out.2.2.below b6)))
  clear x0 x1 x2 x3 x4 x5 x6 x7 b6 V3 U1 H4
  obtain ⟨⟨y0, y1⟩, -⟩ := V4.out.ft.c2
  obtain ⟨⟨z0, z1⟩, -⟩ := U2.out.ft.c2
  go_wp2_with fail
  refine (byte14_any 46 _ (by omega)).mono ?_
  rintro e w7 ⟨rfl, b7⟩
  rw [bsT_c]
  have H6 := Lib.hid (H5.out.1.trans (b7.mono H5.out.1.size))
  clear b7
  go_wp2_with fail
  go_ret
  exact ⟨rfl, H6.out⟩
end Go.Proofs.YtpknglbpbodnbaaDoor
