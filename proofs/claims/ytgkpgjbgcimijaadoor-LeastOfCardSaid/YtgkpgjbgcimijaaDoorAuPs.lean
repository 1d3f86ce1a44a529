/-
  The classes in memory, beside blocks that stay: the contracts of wait, open, apart once more. Conditions: as theirs.
-/
import Derived.Test.YtgkpgjbgcimijaaDoorAuAhead
import Derived.Test.YtgkpgjbgcimijaaDoorAuApart
namespace Go.Proofs.YtgkpgjbgcimijaaDoor
set_option linter.unusedVariables false
set_option linter.unusedSimpArgs false
open Go.RowKit Go.Maps Go.Sort Go.ChangeShapes Go.WideShapes

/-- the classes lie in memory, off the blocks N -/
def PS (w : World) (B p M : Nat) (P : Parts) (cv : Value) (N : Nat → Prop) : Prop :=
  ∃ mv wv kv ms, PartsAt w B p M P cv mv wv kv ms ∧ ∀ k, N k → k < w.heap.size ∧ k ∉ partS p cv mv wv kv
theorem PartsAt.ge {w : World} {B p M : Nat} {P : Parts} {cv mv wv kv : Value} {ms : List Value} (h : PartsAt w B p M P cv mv wv kv ms) : ∀ k ∈ partS p cv mv wv kv, B ≤ k := fun k hk => by
  rcases partS_mem.1 hk with rfl | e | e | e | e
  · exact h.base
  · exact (h.cls.lt k e).1
  · exact (h.mem.lt k e).1
  · exact (h.wai.lt k e).1
  · exact (h.work.lt k e).1
theorem off_of {w : World} {p k : Nat} {cv mv wv kv : Value} (hk : k < w.heap.size ∧ k ∉ partS p cv mv wv kv) : k < w.heap.size ∧ k ≠ p ∧ Off k [cv, mv, wv, kv] :=
  ⟨hk.1, fun e => hk.2 (partS_mem.2 (.inl e)), .mk4 (fun e => hk.2 (partS_mem.2 (.inr (.inl e)))) (fun e => hk.2 (partS_mem.2 (.inr (.inr (.inl e))))) (fun e => hk.2 (partS_mem.2 (.inr (.inr (.inr (.inl e)))))) fun e => hk.2 (partS_mem.2 (.inr (.inr (.inr (.inr e)))))⟩
theorem moved_off {w : World} {k : Nat} {v v' : Value} (h : Moved w v v') (hk : k < w.heap.size) (hn : v.ownBlock ≠ some k) : v'.ownBlock ≠ some k := fun e => by
  rcases h with h1 | ⟨g, h1, h2⟩
  · exact hn (h1.symm.trans e)
  · have := Option.some.inj (h1.symm.trans e); omega
theorem PS.next {w w' : World} {B p M : Nat} {P P' : Parts} {cv mv wv kv mv' wv' kv' : Value} {ms ms' : List Value} {N : Nat → Prop} (h : PartsAt w B p M P cv mv wv kv ms) (hN : ∀ k, N k → k < w.heap.size ∧ k ∉ partS p cv mv wv kv) (h' : PartsAt w' B p M P' cv mv' wv' kv' ms') (ho : Only (partS p cv mv wv kv) w w')
    (h1 : Moved w mv mv') (h2 : Moved w wv wv') (h3 : Moved w kv kv') (hB : B ≤ w.heap.size) : PS w' B p M P' cv N ∧ Same N w w' ∧ Below B w w' := by
  refine ⟨⟨mv', wv', kv', ms', h', fun k hk => ⟨Nat.lt_of_lt_of_le (hN k hk).1 ho.size, fun hm => ?_⟩⟩, Same.of_only ho fun k hk hn => (hN k hn).2 hk, ho.below hB fun k hk => h.ge k hk⟩
  obtain ⟨hlt, hnm⟩ := hN k hk
  have hof := off_of (hN k hk)
  rcases partS_mem.1 hm with e | e | e | e | e
  · exact hof.2.1 e
  · exact hof.2.2 cv (by simp) e
  · exact moved_off h1 hlt (hof.2.2 mv (by simp)) e
  · exact moved_off h2 hlt (hof.2.2 wv (by simp)) e
  · exact moved_off h3 hlt (hof.2.2 kv (by simp)) e
theorem PS.less {w : World} {B p M : Nat} {P : Parts} {cv : Value} {N N' : Nat → Prop} (h : PS w B p M P cv N) (hN : ∀ k, N' k → N k) : PS w B p M P cv N' := by
  obtain ⟨mv, wv, kv, ms, h1, h2⟩ := h
  exact ⟨mv, wv, kv, ms, h1, fun k hk => h2 k (hN k hk)⟩
/-- what is laid behind it stays beside it -/
theorem PS.more {w w' : World} {B p M : Nat} {P : Parts} {cv : Value} {N : Nat → Prop} (h : PS w B p M P cv N) (hb : Below w.heap.size w w') : PS w' B p M P cv fun k => N k ∨ (w.heap.size ≤ k ∧ k < w'.heap.size) := by
  obtain ⟨mv, wv, kv, ms, h1, h2⟩ := h
  refine ⟨mv, wv, kv, ms, h1.below hb, fun k hk => ?_⟩
  rcases hk with hk | hk
  · exact ⟨Nat.lt_of_lt_of_le (h2 k hk).1 hb.size, (h2 k hk).2⟩
  · exact ⟨hk.2, fun hm => by have := h1.lt k hm; omega⟩
theorem PS.below {w w' : World} {B p M : Nat} {P : Parts} {cv : Value} {N : Nat → Prop} (h : PS w B p M P cv N) (hb : Below w.heap.size w w') : PS w' B p M P cv N := (h.more hb).less fun k hk => .inl hk
theorem PS.lt {w : World} {B p M : Nat} {P : Parts} {cv : Value} {N : Nat → Prop} (h : PS w B p M P cv N) {k : Nat} (hk : N k) : k < w.heap.size := by
  obtain ⟨mv, wv, kv, ms, h1, h2⟩ := h
  exact (h2 k hk).1
theorem PS.open_ {w : World} {B p M : Nat} {P : Parts} {cv : Value} {N : Nat → Prop} {sv : Value} {s : List Nat} (h : PS w B p M P cv N) (hsv : NatsAt w sv s) (hso : ∀ k, sv.ownBlock = some k → N k) (hs : ∀ n ∈ s, n < M) (hm : P.mem.length ≤ 1000000) (hw : P.wai.length ≤ 1000000) (hM : M ≤ maxLen) (hsl : s.length ≤ 1000000) (hB : B ≤ w.heap.size) :
    Calls Tryd.prog 37 #[.pointer (some ⟨p, 0, none⟩), sv] w fun e w' => e = .returned (.int .i64 P.mem.length) ∧ PS w' B p M (P.opens s) cv N ∧ Same N w w' ∧ Below B w w' := by
  obtain ⟨mv, wv, kv, ms, h1, h2⟩ := h
  refine (open_any w B p M P cv mv wv kv sv ms s h1 hsv (fun k hk => off_of (h2 k (hso k hk))) hs hm hw hM hsl hB).mono ?_
  rintro e w' ⟨rfl, mv', wv', h3, h4, h5, h6⟩
  exact ⟨rfl, PS.next h1 h2 h3 h4 h5 h6 (.same _ _) hB⟩
theorem PS.wait_ {w : World} {B p M : Nat} {P : Parts} {cv : Value} {N : Nat → Prop} {c : Nat} (h : PS w B p M P cv N) (hc : c < P.wai.length) (hk : P.work.length ≤ 1000000) (hB : B ≤ w.heap.size) :
    Calls Tryd.prog 36 #[.pointer (some ⟨p, 0, none⟩), .int .i64 c] w fun e w' => e = .returned (.tuple #[]) ∧ PS w' B p M (P.wait c) cv N ∧ Same N w w' ∧ Below B w w' := by
  obtain ⟨mv, wv, kv, ms, h1, h2⟩ := h
  refine (wait_any w B p M P cv mv wv kv ms h1 c hc hk hB).mono ?_
  rintro e w' ⟨rfl, kv', h3, h4, h5⟩
  exact ⟨rfl, PS.next h1 h2 h3 h4 (.same _ _) (.same _ _) h5 hB⟩
theorem PS.apart_ {w : World} {B p M : Nat} {P : Parts} {cv : Value} {N : Nat → Prop} {sv : Value} {s t : List Nat} {c : Nat} (h : PS w B p M P cv N) (hsv : NatsAt w sv s) (hso : ∀ k, sv.ownBlock = some k → N k) (hs : ∀ n ∈ s, n < M) (ht : P.mem[c]? = some t) (htM : ∀ n ∈ t, n < M) (hlen : P.wai.length = P.mem.length) (hm : P.mem.length < 1000000) (hM : M ≤ maxLen) (hsl : s.length ≤ 1000000) (htl : t.length ≤ 1000000) (hk : P.work.length ≤ 1000000) (hB : B ≤ w.heap.size) :
    Calls Tryd.prog 40 #[.pointer (some ⟨p, 0, none⟩), .int .i64 c, sv] w fun e w' => e = .returned (.tuple #[]) ∧ PS w' B p M (P.apart c s) cv N ∧ Same N w w' ∧ Below B w w' := by
  obtain ⟨mv, wv, kv, ms, h1, h2⟩ := h
  refine (apart_any w B p M P cv mv wv kv sv ms s t c h1 hsv (fun k hk => off_of (h2 k (hso k hk))) hs ht htM hlen hm hM hsl htl hk hB).mono ?_
  rintro e w' ⟨rfl, mv', wv', kv', ms', h3, h4, h5, h6, h7⟩
  exact ⟨rfl, PS.next h1 h2 h3 h4 h5 h6 h7 hB⟩
end Go.Proofs.YtgkpgjbgcimijaaDoor
