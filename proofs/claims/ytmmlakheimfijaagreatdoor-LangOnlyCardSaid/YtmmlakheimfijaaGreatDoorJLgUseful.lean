/-
  The walk of lang.useful: which states lead to one that takes. Conditions: the automaton is right and lies in memory.
-/
import Derived.Test.YtmmlakheimfijaaGreatDoorJLgInts
import Derived.Test.YtmmlakheimfijaaGreatDoorJLgKahnPl
import Derived.Test.YtmmlakheimfijaaGreatDoorJAuShelf
import Derived.Shelf.SlicesE.Clone
namespace Go.Proofs.YtmmlakheimfijaaGreatDoor
set_option linter.unusedVariables false
set_option linter.unusedSimpArgs false
open Go.RowKit Go.Maps Go.Sort Go.ChangeShapes Go.WideShapes

def laysCloneB_ren : Go.Shelf.Ren := ⟨fun | 41 => 52 | n => n, fun | 22 => 22 | 23 => 4 | 4 => 4 | n => n, fun | n => n⟩
theorem laysCloneB : Go.Proofs.SlLaysE0.n41 Tryz.prog laysCloneB_ren := {
  mixed := by kernel_rfl
  f41 := ⟨Tryz.f52.name, by decide, Tryz.func52.trans (congrArg some (by kernel_rfl))⟩
  t4 := Tryz.underlying4
  a4 := Tryz.isAgg4
  z4 := Tryz.sizeOf4
  v4 := Tryz.zeroValue4
  t22 := Tryz.underlying22
  a22 := Tryz.isAgg22
  z22 := Tryz.sizeOf22
  v22 := Tryz.zeroValue22 }
theorem clone_bools (b off n c : Nat) (S : Nat → Bool) (w : World) (hn : n ≤ 4096) (hc : ∀ j, j < n → w.cell? ⟨b, off + j, none⟩ = some (.bool (S j))) :
    Calls Tryz.prog 52 #[.slice (some ⟨b, off, none⟩) n c] w fun e w' => ∃ v', e = .returned v' ∧ w'.ownsRow w.heap.size 4 1 v' n (boolC S n) ∧ v' ≠ .slice none 0 0 ∧ Below w.heap.size w w' := by
  obtain ⟨i0, hi, hz0, hz1, hz2⟩ := info_parts infoBool
  refine AnyE.slices_Clone laysCloneB i0 (.bool false) 1 1 hi hz0 hz1 hz2 rfl (by decide) (fun w => Tryz.sizeOf4 w) b off n c (boolC S n) w (by rw [boolC_len]; omega) (by unfold maxLen; omega) (by omega) (fun j u hu => ?_) (fun u hu => ?_)
  · obtain ⟨h1, h2⟩ := List.getElem?_eq_some_iff.1 hu
    have hj : j < n := by rw [boolC_len] at h1; exact h1
    rw [boolC_at hj] at hu
    cases hu
    exact hc j hj
  · obtain ⟨j, -, rfl⟩ := List.mem_map.1 hu
    rfl

/-! the closure, and the search for a state that leads on -/
set_option maxHeartbeats 8000000 in
set_option maxRecDepth 1000000 in
theorem uclo_any (p g M c x : Nat) (b : Bool) (w : World) (hp : w.cell? ⟨p, 0, none⟩ = some (.slice (some ⟨g, 0, none⟩) M c)) (hx : x < M) (hS : w.cell? ⟨g, x, none⟩ = some (.bool b)) (hM : M ≤ 4096) :
    Calls Tryz.prog 53 #[.int .i64 x, .pointer (some ⟨p, 0, none⟩)] w fun e w' => e = .returned (.bool b) ∧ w' = w := by
  go_enter Tryz.func53, Tryz.ntmps53
  go_wp2_with fail
  go_ret
  exact ⟨rfl, rfl⟩
set_option maxHeartbeats 8000000 in
set_option maxRecDepth 1000000 in
theorem idxu_any (p g M c bk ok X ck : Nat) (S : Nat → Bool) (f : Nat → Nat) (w : World) (hp : w.cell? ⟨p, 0, none⟩ = some (.slice (some ⟨g, 0, none⟩) M c)) (hr : ∀ j, j < X → w.cell? ⟨bk, ok + j, none⟩ = some (.int .i64 ((f j : Nat) : Int)) ∧ f j < M)
    (hS : ∀ x, x < M → w.cell? ⟨g, x, none⟩ = some (.bool (S x))) (hM : M ≤ 4096) (hX : X ≤ 256) :
    Calls Tryz.prog 69 #[.slice (some ⟨bk, ok, none⟩) X ck, .func (.func 53) #[] #[.pointer (some ⟨p, 0, none⟩)]] w fun e w' => (∃ k : Int, e = .returned (.int .i64 k) ∧ decide (0 ≤ k) = ((List.range X).any fun j => S (f j)) ∧ -1 ≤ k ∧ k ≤ 256) ∧ w' = w := by
  have H := Lib.hid (And.intro hr hS)
  clear hr hS
  go_enter Tryz.func69, Tryz.ntmps69
  go_wp2_with fail
  go_loop [5, 8] (fun _ c => ∃ j : Nat, j ≤ X ∧ c = .int .i64 j ∧ Hid (((List.range j).any fun j => S (f j)) = false)) (fun _ c => X - (intOf c).toNat)
  case atStart => exact ⟨0, by omega, rfl, Lib.hid rfl⟩
  case round =>
    obtain ⟨j, hj, rfl, hno⟩ := hrel
    by_cases hlt : j < X
    · obtain ⟨m0, hx⟩ := H.out.1 j hlt
      have m1 := H.out.2 _ hx
      obtain ⟨x, hxe⟩ : ∃ x, f j = x := ⟨_, rfl⟩
      rw [hxe] at m0 m1 hx
      obtain ⟨b, hb⟩ : ∃ b, S x = b := ⟨_, rfl⟩
      rw [hb] at m1
      have hcall := uclo_any p g M c x b w hp hx m1 hM
      have hnx : ((List.range (j + 1)).any fun j => S (f j)) = b := by rw [List.range_succ, List.any_append, hno.out]; simp [hxe, hb]
      have HX := Lib.hid hnx
      clear hxe hb hnx hp m1
      cases b with
      | true =>
        go_wp2_with fail
        refine hcall.mono ?_
        rintro e w1 ⟨rfl, rfl⟩
        go_wp2_with fail
        go_ret
        refine ⟨⟨(j : Int), rfl, ?_, by omega, by omega⟩, rfl⟩
        have h1 : ((List.range X).any fun j => S (f j)) = true := by
          obtain ⟨i, hi, h⟩ := List.any_eq_true.1 HX.out
          exact List.any_eq_true.2 ⟨i, List.mem_range.2 (by have := List.mem_range.1 hi; omega), h⟩
        rw [h1]
        simp
      | false =>
        go_wp2_with fail
        refine hcall.mono ?_
        rintro e w1 ⟨rfl, rfl⟩
        go_wp2_with fail
        go_round
        case rel => exact ⟨j + 1, by omega, by go_num, HX⟩
        case measure => simp [intOf]; omega
    · obtain rfl : X = j := by omega
      have HN := Lib.hid hno.out
      go_wp2_with fail
      go_ret
      exact ⟨⟨-1, rfl, by rw [HN.out]; rfl, by omega, by omega⟩, rfl⟩
set_option maxHeartbeats 8000000 in
set_option maxRecDepth 1000000 in
theorem conu_any (p g M c bk ok X ck : Nat) (S : Nat → Bool) (f : Nat → Nat) (w : World) (hp : w.cell? ⟨p, 0, none⟩ = some (.slice (some ⟨g, 0, none⟩) M c)) (hr : ∀ j, j < X → w.cell? ⟨bk, ok + j, none⟩ = some (.int .i64 ((f j : Nat) : Int)) ∧ f j < M)
    (hS : ∀ x, x < M → w.cell? ⟨g, x, none⟩ = some (.bool (S x))) (hM : M ≤ 4096) (hX : X ≤ 256) :
    Calls Tryz.prog 42 #[.slice (some ⟨bk, ok, none⟩) X ck, .func (.func 53) #[] #[.pointer (some ⟨p, 0, none⟩)]] w fun e w' => e = .returned (.bool ((List.range X).any fun j => S (f j))) ∧ w' = w := by
  have hc := idxu_any p g M c bk ok X ck S f w hp hr hS hM hX
  clear hp hr hS
  go_enter Tryz.func42, Tryz.ntmps42
  go_wp2_with fail
  refine hc.mono ?_
  rintro e w1 ⟨⟨k, rfl, hk, h1, h2⟩, rfl⟩
  go_wp2_with fail
  go_ret
  exact ⟨ret_bool (by rw [← hk]), rfl⟩

/-! the useful states, round by round -/
open Classical in
noncomputable def useB (d : Aut) (p : Nat) : Bool := decide (Useful d p)
theorem useB_iff {d : Aut} {p : Nat} : useB d p = true ↔ Useful d p := by simp [useB]
def noCnt (S : Nat → Bool) (M : Nat) : Nat := ((List.range M).filter fun p => !S p).length
theorem noCnt_set {S : Nat → Bool} {M n : Nat} (hn : n < M) (hS : S n = false) : noCnt (setS S n) M < noCnt S M := by
  unfold noCnt
  refine Aut.filter_lt (y := n) (fun p _ h => ?_) (List.mem_range.2 hn) (by rw [hS]; rfl) (by simp [setS])
  unfold setS at h
  split at h
  · cases h
  · exact h
structure UseI (d : Aut) (S : Nat → Bool) : Prop where
  fin : ∀ p, p < d.many → d.fin p = true → S p = true
  ok : ∀ p, p < d.many → S p = true → Useful d p
def ClosedTo (d : Aut) (S : Nat → Bool) (n : Nat) : Prop := ∀ p k, p < n → k < d.wide → S (d.nx p k) = true → S p = true
def leadsB (d : Aut) (S : Nat → Bool) (n : Nat) : Bool := (List.range d.wide).any fun j => S (d.nx n j)
theorem UseI.set {d : Aut} (hd : d.Ok) {S : Nat → Bool} (h : UseI d S) {n : Nat} (hn : n < d.many) (hl : leadsB d S n = true) : UseI d (setS S n) where
  fin := fun p hp hf => by
    unfold setS
    split
    · rfl
    · exact h.fin p hp hf
  ok := fun p hp hS => by
    unfold setS at hS
    split at hS
    · rename_i e
      subst e
      obtain ⟨k, hk, h1⟩ := List.any_eq_true.1 hl
      exact Useful.back (List.mem_range.1 hk) (h.ok _ (hd.nxt _ _ hn (List.mem_range.1 hk)) h1)
    · exact h.ok p hp hS
theorem ClosedTo.next {d : Aut} {S : Nat → Bool} {n : Nat} (h : ClosedTo d S n) (hn : S n = true ∨ leadsB d S n = false) : ClosedTo d S (n + 1) := fun p k hp hk hS => by
  by_cases e : p = n
  · subst e
    rcases hn with hn | hn
    · exact hn
    · have := List.any_eq_false.1 hn k (List.mem_range.2 hk)
      rw [hS] at this
      exact absurd rfl this
  · exact h p k (by omega) hk hS
theorem UseI.done {d : Aut} (hd : d.Ok) {S : Nat → Bool} (h : UseI d S) (hc : ClosedTo d S d.many) {p : Nat} (hp : p < d.many) : S p = useB d p := by
  apply Bool.eq_iff_iff.2
  rw [useB_iff]
  exact useful_closed hd h.fin h.ok (fun p k hp hk => hc p k hp hk) hp
/-- the table in memory: a variable that holds the slice, and its row -/
structure UAt (w0 w : World) (p g M c : Nat) (S : Nat → Bool) : Prop where
  q : Blk w p 22 #[.slice (some ⟨g, 0, none⟩) M c]
  r : w.ownsRow w0.heap.size 4 1 (.slice (some ⟨g, 0, none⟩) M c) M (boolC S M)
  b : RowKit.Below w0.heap.size w0 w
  ne : g < p
theorem UAt.put {w0 w : World} {p g M c n : Nat} {S : Nat → Bool} (h : UAt w0 w p g M c S) (hn : n < M) : UAt w0 (w.setCell ⟨g, n, none⟩ (.bool true)) p g M c (setS S n) where
  q := h.q.far (p := ⟨g, n, none⟩) (by have := h.ne; show p ≠ g; omega) _
  r := by
    have hst := (h.r.stored n (.bool true)).1
    rw [boolC_set (S' := setS S n) hn (fun p hp => rfl)] at hst
    exact hst
  b := h.b.setCell (p := ⟨g, n, none⟩) (h.r.lt g rfl).1 _
  ne := h.ne
theorem boolC_congr {S S' : Nat → Bool} {M : Nat} (h : ∀ p, p < M → S p = S' p) : boolC S M = boolC S' M := by
  unfold boolC
  exact List.map_congr_left fun x hx => by rw [h x (by simpa using hx)]
set_option maxHeartbeats 8000000 in
set_option maxRecDepth 1000000 in
theorem useful_any (v : Value) (D : DfaI) (w : World) (h : DfaAt w v D) (hR : RightD D) : Calls Tryz.prog 27 #[v] w fun e w' => ∃ g c, e = .returned (.slice (some ⟨g, 0, none⟩) D.next.length c) ∧ w'.ownsRow w.heap.size 4 1 (.slice (some ⟨g, 0, none⟩) D.next.length c) D.next.length (boolC (useB D.aut) D.next.length) ∧ Below w.heap.size w w' := by
  obtain ⟨S0, M, af, ab, an, cf, cb, cn, hS, hM, rfl, hd⟩ := RefD.mk_ h hR
  have hal := (Below.refl w.heap.size w).alloc (Nat.le_refl _) (.cells #[.int .i64 (S0 : Int), .slice af M cf, .slice ab 256 cb, .slice an M cn] 26)
  have hSM : S0 < M := by have := hR.s1; omega
  have hM0 : 0 < M := by omega
  have hM4 : M ≤ 4096 := by have := hR.m2; omega
  have hmany : D.aut.many = M := by show D.nx.length = M; rw [D.nx_len]; exact hM
  have hw256 := hR.wide_le
  have hz1 : (w.alloc (.cells #[.int .i64 (S0 : Int), .slice af M cf, .slice ab 256 cb, .slice an M cn] 26)).heap.size = w.heap.size + 1 := by simp
  rw [hM]
  obtain ⟨⟨y0, y1, y2, y3⟩, -⟩ := hd.q.c4
  obtain ⟨bf, of_, cf', haf, m1⟩ := hd.f.get hM0
  obtain ⟨rfl, -, rfl⟩ := Value.slice.inj haf
  have hcl := clone_bools bf of_ M cf (fun i => D.fin.getD i false) (w.alloc (.cells #[.int .i64 (S0 : Int), .slice (some ⟨bf, of_, none⟩) M cf, .slice ab 256 cb, .slice an M cn] 26)) hM4 fun j hj => by
    obtain ⟨b', o', c', he, m⟩ := hd.f.get hj
    obtain ⟨h1, -, -⟩ := Value.slice.inj he
    obtain ⟨rfl, rfl⟩ : bf = b' ∧ of_ = o' := by simpa using h1
    exact m
  obtain ⟨X, hX⟩ : ∃ X, D.aut.wide = X := ⟨_, rfl⟩
  rw [hX] at hw256
  have H := Lib.hid (And.intro hal hd)
  have HP := Lib.hid (And.intro hR (And.intro hM (And.intro hmany hX)))
  clear h hal hd hR hS hM hmany hX m1 haf
  go_enter Tryz.func27, Tryz.ntmps27
  go_wp2_with fail
  generalize w.alloc (.cells #[.int .i64 (S0 : Int), .slice (some ⟨bf, of_, none⟩) M cf, .slice ab 256 cb, .slice an M cn] 26) = W at *
  refine hcl.mono ?_
  rintro e w1 ⟨v1, rfl, hown1, hv1, b1⟩
  obtain ⟨g, cap, rfl, -⟩ := Lib.holds_of_ownsRow hown1 hv1
  have hlg := (hown1.lt g rfl).2
  have hal1 := (Below.refl w1.heap.size w1).alloc (Nat.le_refl _) (.cells #[.slice (some ⟨g, 0, none⟩) M cap] 22)
  have hu0 : UAt W (w1.alloc (.cells #[.slice (some ⟨g, 0, none⟩) M cap] 22)) w1.heap.size g M cap (fun i => D.fin.getD i false) :=
    ⟨Blk.new w1 22 _, own_only hown1 (Only.of_below (S := []) hal1) (by simp), b1.trans (hal1.mono b1.size), hlg⟩
  have hi0 : UseI D.aut (fun i => D.fin.getD i false) := ⟨fun p hp h => h, fun p hp h => ⟨[], fun k hk => absurd hk List.not_mem_nil, h⟩⟩
  clear y0 y1 y2 y3 hcl
  go_wp2_with fail
  generalize w1.alloc (.cells #[.slice (some ⟨g, 0, none⟩) M cap] 22) = w2 at *
  obtain ⟨p, hp⟩ : ∃ p, w1.heap.size = p := ⟨_, rfl⟩
  rw [hp] at hu0
  rw [hp]
  have HU := Lib.hid (And.intro hu0 hi0)
  clear hu0 hi0 hal1 hown1 hv1 b1 hlg hp
  go_loopg [4] (M + 1) (fun gk c4 wr => ∃ (a : Bool) (S : Nat → Bool), c4 = .bool a ∧ gk ≤ M + 1 ∧ Hid (UseI D.aut S ∧ (a = true → noCnt S M < gk) ∧ (a = false → ClosedTo D.aut S M) ∧ UAt W wr p g M cap S))
  case atStart =>
    refine ⟨true, _, rfl, Nat.le_refl _, Lib.hid ⟨HU.out.2, fun _ => ?_, fun h => (by cases h), HU.out.1⟩⟩
    unfold noCnt
    have := List.length_filter_le (fun p => !(fun i => D.fin.getD i false) p) (List.range M)
    rw [List.length_range] at this
    omega
  case round =>
    obtain ⟨a, S, rfl, hgk, hI⟩ := hrel
    have hd := H.out.2.below hI.out.2.2.2.b
    obtain ⟨⟨y0, y1, y2, y3⟩, -⟩ := hd.q.c4
    have v0 := hI.out.2.2.2.q.cell 0
    simp only [List.getElem?_toArray, List.getElem?_cons_zero] at v0
    clear hd
    cases a with
    | false =>
      have hres := boolC_congr (S := S) (S' := useB D.aut) (M := M) fun p hp => hI.out.1.done HP.out.1.ok (by rw [HP.out.2.2.1]; exact hI.out.2.2.1 rfl) (by rw [HP.out.2.2.1]; exact hp)
      have hown := hI.out.2.2.2.r
      rw [hres] at hown
      have hzW := H.out.1.size
      have hown2 := own_base hown (B' := w.heap.size) (by omega)
      have hbb := H.out.1.trans (hI.out.2.2.2.b.mono H.out.1.size)
      have HZ := Lib.hid (And.intro hown2 hbb)
      clear hres hown hown2 hbb
      go_wp2_with fail
      go_ret
      exact ⟨_, _, rfl, HZ.out.1, HZ.out.2⟩
    | true =>
      obtain ⟨gk0, rfl⟩ : ∃ q, gk = q + 1 := ⟨gk - 1, by have := hI.out.2.1 rfl; omega⟩
      go_wp2_with fail
      clear y0 y1 y2 y3 v0
      go_loopw [4, 14] (fun c4 c wr => ∃ (n : Nat) (a : Bool) (T : Nat → Bool), c = .int .i64 n ∧ n ≤ M ∧ c4 = .bool a ∧ Hid (UseI D.aut T ∧ (a = true → noCnt T M < noCnt S M) ∧ (a = false → ClosedTo D.aut T n ∧ noCnt T M ≤ noCnt S M) ∧ UAt W wr p g M cap T)) (fun _ c _ => M - (intOf c).toNat)
      case atStart => exact ⟨0, false, S, rfl, by omega, rfl, Lib.hid ⟨hI.out.1, fun h => (by cases h), fun _ => ⟨fun p k hp => by omega, Nat.le_refl _⟩, hI.out.2.2.2⟩⟩
      case round =>
        obtain ⟨n, a, T, rfl, hn, rfl, hT⟩ := hrel
        have hu := hT.out.2.2.2
        have hd := H.out.2.below hu.b
        obtain ⟨⟨y0, y1, y2, y3⟩, -⟩ := hd.q.c4
        have v0 := hu.q.cell 0
        simp only [List.getElem?_toArray, List.getElem?_cons_zero] at v0
        by_cases hln : n < M
        · have k2 : decide (n < M) = true := decide_eq_true hln
          obtain ⟨bn, on, bk, ok, c, rfl, m0, m1⟩ := hd.row HP.out.1 HP.out.2.1 hln
          rw [HP.out.2.2.2] at m0 m1
          have c0 := hu.r.cellAt n (by omega)
          have d0 := hu.r.frozenAt n
          rw [boolC_at hln] at c0
          obtain ⟨t, ht⟩ : ∃ t, T n = t := ⟨_, rfl⟩
          rw [ht] at c0
          have hcall := conu_any p g M cap bk ok X c T (D.aut.nx n) wr v0 m1 (fun x hx => by have := hu.r.cellAt x (by omega); rw [boolC_at hx] at this; exact this) hM4 hw256
          have hlb : ((List.range X).any fun j => T (D.aut.nx n j)) = leadsB D.aut T n := by unfold leadsB; rw [HP.out.2.2.2]
          rw [hlb] at hcall
          obtain ⟨b, hb⟩ : ∃ b, leadsB D.aut T n = b := ⟨_, rfl⟩
          rw [hb] at hcall
          have HT := Lib.hid (And.intro ht (And.intro hb hu))
          clear hd hu ht hb hlb m1
          cases t with
          | true =>
            go_wp2_with fail
            go_roundw
            case rel => exact ⟨n + 1, a, T, by go_num, by omega, rfl, Lib.hid ⟨hT.out.1, hT.out.2.1, fun h => ⟨(hT.out.2.2.1 h).1.next (.inl HT.out.1), (hT.out.2.2.1 h).2⟩, HT.out.2.2⟩⟩
            case measure => simp [intOf]; omega
          | false =>
            cases b with
            | false =>
              go_wp2_with fail
              refine hcall.mono ?_
              rintro e w9 ⟨rfl, rfl⟩
              go_wp2_with fail
              go_roundw
              case rel => exact ⟨n + 1, a, T, by go_num, by omega, rfl, Lib.hid ⟨hT.out.1, hT.out.2.1, fun h => ⟨(hT.out.2.2.1 h).1.next (.inr HT.out.2.1), (hT.out.2.2.1 h).2⟩, HT.out.2.2⟩⟩
              case measure => simp [intOf]; omega
            | true =>
              have hset := hT.out.1.set HP.out.1.ok (n := n) (by rw [HP.out.2.2.1]; exact hln) HT.out.2.1
              have hcnt := noCnt_set hln HT.out.1
              have hle : noCnt T M ≤ noCnt S M := by
                cases a with
                | true => exact Nat.le_of_lt (hT.out.2.1 rfl)
                | false => exact (hT.out.2.2.1 rfl).2
              have hput := HT.out.2.2.put hln
              have hp2 := HT.out.2.2.ne
              have ne1 : ¬ g = p := by omega
              have ne2 : ¬ p = g := by omega
              have HZ := Lib.hid (And.intro hset (And.intro (show noCnt (setS T n) M < noCnt S M by omega) hput))
              clear hset hcnt hle hput hp2
              go_wp2_with fail
              refine hcall.mono ?_
              rintro e w9 ⟨rfl, rfl⟩
              go_wp2_with fail
              go_roundw
              case rel => exact ⟨n + 1, true, _, by go_num, by omega, rfl, Lib.hid ⟨HZ.out.1, fun _ => HZ.out.2.1, fun h => (by cases h), HZ.out.2.2⟩⟩
              case measure => simp [intOf]; omega
        · obtain rfl : M = n := by omega
          have k2 : decide (M < M) = false := decide_eq_false (by omega)
          clear hd hu
          go_wp2_with fail
          cases a with
          | true =>
            go_roundg (noCnt T M + 1)
            case rel => exact ⟨true, T, rfl, by have := hT.out.2.1 rfl; have := hI.out.2.1 (by trivial); omega, Lib.hid ⟨hT.out.1, fun _ => by omega, fun h => (by cases h), hT.out.2.2.2⟩⟩
            case measure => have := hT.out.2.1 rfl; have := hI.out.2.1 (by trivial); omega
          | false =>
            go_roundg gk0
            case rel => exact ⟨false, T, rfl, by omega, Lib.hid ⟨hT.out.1, fun h => (by cases h), fun _ => (hT.out.2.2.1 rfl).1, hT.out.2.2.2⟩⟩
            case measure => omega
end Go.Proofs.YtmmlakheimfijaaGreatDoor
