/-
  The contract of Of: the numbers of bytes by the sets that have them. Conditions: the sets' cells.
-/
import Derived.Test.YtcajlldecdjdlaaBlKeys
namespace Go.Proofs.Ytcajlldecdjdlaa
set_option linter.unusedVariables false
open Go.RowKit Go.Maps Go.Sort

/-- which of n sets have the byte -/
def F (sf : Nat → Nat → Int) (n : Nat) (b : Nat) : List Bool := (List.range n).map fun j => hasS (sf j) b
theorem F_succ (sf : Nat → Nat → Int) (n b : Nat) : F sf (n + 1) b = F sf n b ++ [hasS (sf n) b] := by simp [F, List.range_succ]
theorem F_len (sf : Nat → Nat → Int) (n b : Nat) : (F sf n b).length = n := by simp [F]

/-- a slice of sets that came in -/
structure IsSets (w : World) (x : Option Addr) (len cap : Nat) (sf : Nat → Nat → Int) : Prop where
  place : len = 0 ∨ ∃ bb off, x = some ⟨bb, off, none⟩ ∧ bb < w.heap.size ∧ ∀ j, j < len → ∀ i, i < 4 → w.cell? ⟨bb, off + j * 4 + i, none⟩ = some (.int .u64 (sf j i))
  ins : ∀ j, SetIn (sf j)
  bound : len ≤ 4611686018427387904

/-- the keys that one set more makes -/
def stepKey (sf : Nat → Nat → Int) (n : Nat) (b : Nat) : Int × Int := (Bl.num (F sf n) b, bitI (hasS (sf n) b))
theorem bitI_inj {a b : Bool} (h : bitI a = bitI b) : a = b := by cases a <;> cases b <;> simp_all [bitI]
theorem step_num (sf : Nat → Nat → Int) (n b : Nat) : Bl.num (stepKey sf n) b = Bl.num (F sf (n + 1)) b := by
  apply Bl.num_congr _ _ (b + 1) _ _ (by omega)
  intro a c _ _
  rw [F_succ, F_succ]
  simp only [stepKey, Prod.mk.injEq, Int.natCast_inj, Bl.num_iff]
  constructor
  · rintro ⟨h1, h2⟩
    rw [h1, bitI_inj h2]
  · intro h
    have h3 := List.append_inj h (by rw [F_len, F_len])
    simp at h3
    exact ⟨h3.1, by rw [h3.2]⟩
theorem step_cells (sf : Nat → Nat → Int) (n : Nat) : numCells (stepKey sf n) = numCells (F sf (n + 1)) := by
  unfold numCells
  apply List.map_congr_left
  intro b _
  rw [step_num]
theorem none_cells (sf : Nat → Nat → Int) : numCells (F sf 0) = List.replicate 256 (Value.int .i64 0) := by
  have h : ∀ b, Bl.num (F sf 0) b = 0 := fun b => by
    have : Bl.rep (F sf 0) b ≤ 0 := Bl.rep_first _ b 0 (by simp [F])
    unfold Bl.num
    rw [Nat.le_zero.1 this]
    rfl
  unfold numCells
  rw [List.eq_replicate_iff]
  refine ⟨by simp, fun v hv => ?_⟩
  obtain ⟨b, _, rfl⟩ := List.mem_map.1 hv
  rw [h]
  rfl
theorem stepIn (sf : Nat → Nat → Int) (n k : Nat) (h : k < 256) : PairIn (stepKey sf n k) := by
  constructor
  · have := Bl.num_lt_256 (F sf n) k h
    simp [stepKey, Lit.wf, IntKind.min, IntKind.max, IntKind.signed, IntKind.bits]
    omega
  · have : ∀ b : Bool, (Lit.int .i64 (bitI b)).wf = true := by decide
    exact this _

theorem grown_set (w : World) (a : Addr) (u : Value) : w.grownBy (w.setCell a u) (some a.block) :=
  ⟨rfl, rfl, rfl, by simp, fun k _ hk => heap_setCell_other w a k u (fun e => hk (by simp [e]))⟩
theorem row_base {w : World} {base b' : Nat} {e : TypeId} {size n : Nat} {v : Value} {xs : List Value} (h : w.ownsRow base e size v n xs) (hb : b' ≤ base) : w.ownsRow b' e size v n xs := by
  refine ⟨h.1, ?_⟩
  rcases h.2 with h1 | ⟨g, cap, cur, h1, h2, h3⟩
  · exact .inl h1
  · exact .inr ⟨g, cap, cur, h1, by omega, h3⟩

theorem made_one (v : Value) (n : Nat) : (madeCells #[v] n).toList = List.replicate n v := by
  rw [List.eq_replicate_iff]
  refine ⟨by simp [madeCells], fun b hb => ?_⟩
  simp only [madeCells, Array.toList_map, List.mem_map] at hb
  obtain ⟨i, _, rfl⟩ := hb
  have : i % #[v].size = 0 := Nat.mod_one i
  rw [this]
  rfl

set_option maxHeartbeats 4000000 in
set_option maxRecDepth 100000 in
theorem of_any (x : Option Addr) (len cap : Nat) (sf : Nat → Nat → Int) (w : World) (hs : IsSets w x len cap sf) :
    Calls Try.prog 7 #[.slice x len cap] w fun e w' =>
      ∃ g, e = .returned (.slice (some ⟨g, 0, none⟩) 256 256) ∧ w'.ownsRow w.heap.size 3 1 (.slice (some ⟨g, 0, none⟩) 256 256) 256 (numCells (F sf len)) ∧ Below w.heap.size w w' := by
  obtain ⟨i0, hi, hz0, hz1, hz2⟩ := info_parts Try.info3
  go_enter Try.func7, Try.ntmps7
  go_wp2_with (first
    | (at_make; refine wpList_make_full _ rfl _ _ 24 rfl w.heap.size 3 i0 (.int .i64 0) 1 Try.underlying24 hi hz0 hz1 .i64 .i64 256 256 256 rfl rfl rfl rfl (by rw [hz2]; decide) (by decide) (by simp) ?_; intro w1 hown1 hgrow1)
    | go_in)
  have hB1 : Below w.heap.size w w1 := below_of_grown hgrow1 (Nat.le_refl _) (fun _ h => by cases h)
  have hlt1 : w.heap.size < w1.heap.size := (hown1.lt _ rfl).2
  obtain ⟨O, hO⟩ : ∃ O, w1.heap.size = O := ⟨_, rfl⟩
  have e0 : (madeCells (Value.int .i64 0).cells (256 * 1)).toList = numCells (F sf 0) := by rw [none_cells]; exact made_one _ 256
  rw [e0] at hown1
  have hc1 := newB w1 #[Value.slice (some ⟨w.heap.size, 0, none⟩) 256 256] 24 0
  have hf1 := newF w1 #[Value.slice (some ⟨w.heap.size, 0, none⟩) 256 256] 24 0
  rw [hO] at hc1 hf1
  rw [hO]
  have HS := Lib.hid hs
  have hbound := hs.bound
  clear hs e0 hgrow1
  go_loopw [9] (fun c wr => ∃ (j g : Nat), j ≤ len ∧ c = .int .i64 j ∧ wr.cell? ⟨O, 0, none⟩ = some (.slice (some ⟨g, 0, none⟩) 256 256) ∧ wr.frozen? ⟨O, 0, none⟩ = false ∧
      wr.ownsRow w.heap.size 3 1 (.slice (some ⟨g, 0, none⟩) 256 256) 256 (numCells (F sf j)) ∧ Below w.heap.size w wr ∧ O < wr.heap.size ∧ g ≠ O) (fun c _ => len - (intOf c).toNat)
  case atStart => exact ⟨0, w.heap.size, by omega, rfl, hc1, hf1, hown1.alloc _, hB1.alloc (by omega) _, by simp; omega, by omega⟩
  case round =>
    obtain ⟨j, g, hj, rfl, hc, hf, hrow, hB, hOl, hgO⟩ := hrel
    by_cases hlt : j < len
    · rcases HS.out.place with h0 | ⟨bb, off, rfl, hbb, hcs⟩
      · omega
      · have hcs' : ∀ i, i < 4 → wr.cell? ⟨bb, off + j * 4 + i, none⟩ = some (.int .u64 (sf j i)) := fun i hi => (hB.cell (p := ⟨bb, off + j * 4 + i, none⟩) hbb).trans (hcs j hlt i hi)
        have m0 : wr.cell? ⟨bb, off + j * 4, none⟩ = some (.int .u64 (sf j 0)) := hcs' 0 (by omega)
        have m1 := hcs' 1 (by omega)
        have m2 := hcs' 2 (by omega)
        have m3 := hcs' 3 (by omega)
        clear hcs hcs'
        go_wp2_with fail
        have hN : ∀ i, (wr.alloc (.cells #[.int .u64 (sf j 0), .int .u64 (sf j 1), .int .u64 (sf j 2), .int .u64 (sf j 3)] 36)).cell? ⟨wr.heap.size, i, none⟩ = (#[Value.int .u64 (sf j 0), .int .u64 (sf j 1), .int .u64 (sf j 2), .int .u64 (sf j 3)] : Array Value)[i]? := newB wr _ _
        have hc2 : (wr.alloc (.cells #[.int .u64 (sf j 0), .int .u64 (sf j 1), .int .u64 (sf j 2), .int .u64 (sf j 3)] 36)).cell? ⟨O, 0, none⟩ = some (.slice (some ⟨g, 0, none⟩) 256 256) := by go_simp
        have hf2 : (wr.alloc (.cells #[.int .u64 (sf j 0), .int .u64 (sf j 1), .int .u64 (sf j 2), .int .u64 (sf j 3)] 36)).frozen? ⟨O, 0, none⟩ = false := by go_simp
        have hrow2 := hrow.alloc (.cells #[.int .u64 (sf j 0), .int .u64 (sf j 1), .int .u64 (sf j 2), .int .u64 (sf j 3)] 36)
        have hB2 : Below w.heap.size w (wr.alloc (.cells #[.int .u64 (sf j 0), .int .u64 (sf j 1), .int .u64 (sf j 2), .int .u64 (sf j 3)] 36)) := hB.alloc hB.size _
        have hs2 : (wr.alloc (.cells #[.int .u64 (sf j 0), .int .u64 (sf j 1), .int .u64 (sf j 2), .int .u64 (sf j 3)] 36)).heap.size = wr.heap.size + 1 := by simp
        have hgl : g < wr.heap.size := (hrow.lt _ rfl).2
        generalize wr.alloc (.cells #[.int .u64 (sf j 0), .int .u64 (sf j 1), .int .u64 (sf j 2), .int .u64 (sf j 3)] 36) = wq at *
        refine (number_any _ (.inl rfl) _ _ (stepKey sf j) _ (fun k hk => stepIn sf j k hk) (fun k W hk hb => ?_)).mono ?_
        · exact ofkey_any (sf j) (HS.out.ins j) _ O g k hk _ W (keepB hb hN (by omega)) ((hb.cell (p := ⟨O, 0, none⟩) (by show O < _; omega)).trans hc2)
            ((hb.cell (p := ⟨g, k, none⟩) (by show g < _; omega)).trans ((hrow2.cellAt k (by omega)).trans (by simp [numCells, hk]))) (by have := hb.size; omega) (by have := hb.size; omega) (by have := hb.size; omega)
        · rintro e w5 ⟨rfl, r5, b5⟩
          rw [step_cells] at r5
          have hc5 : w5.cell? ⟨O, 0, none⟩ = some (.slice (some ⟨g, 0, none⟩) 256 256) := (b5.cell (p := ⟨O, 0, none⟩) (by show O < _; omega)).trans hc2
          have hf5 : w5.frozen? ⟨O, 0, none⟩ = false := (b5.frozen (p := ⟨O, 0, none⟩) (by show O < _; omega)).trans hf2
          have hB5 : Below w.heap.size w w5 := hB2.trans (b5.mono (by have := hB.size; omega))
          have hz5 : O < w5.heap.size := by have := b5.size; omega
          have hne : wq.heap.size ≠ O := by omega
          have r6 := row_base r5 (b' := w.heap.size) (by have := hB.size; omega)
          clear hN hc2 hf2 hrow2 hB2 hc hf hrow hB r5 b5
          go_wp2_with fail
          have hc6 := World.cell?_setCell_same w5 ⟨O, 0, none⟩ (.slice (some ⟨wr.heap.size + 1, 0, none⟩) 256 256) hc5
          rw [hs2] at r6 hne
          exact ⟨⟨j + 1, wr.heap.size + 1, by omega, by simp, hc6, by rw [World.frozen?_setCell]; exact hf5, r6.kept (grown_set _ _ _) (.inr (by simp [Value.ownBlock]; omega)), hB5.setCell (by show w.heap.size ≤ O; omega) _, by simpa using hz5, hne⟩, by simp [intOf]; omega⟩
    · have e : j = len := by omega
      subst e
      go_wp2_with fail
      go_ret
      exact ⟨g, rfl, hrow, hB⟩
end Go.Proofs.Ytcajlldecdjdlaa
