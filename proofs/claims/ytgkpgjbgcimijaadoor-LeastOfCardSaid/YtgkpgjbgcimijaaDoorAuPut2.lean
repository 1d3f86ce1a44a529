/-
  The classes in memory: kept by what turns other blocks; a class's members replaced. Plain lemmas. Conditions: each says its own.
-/
import Derived.Test.YtgkpgjbgcimijaaDoorAuPut
namespace Go.Proofs.YtgkpgjbgcimijaaDoor
set_option linter.unusedVariables false
set_option linter.unusedSimpArgs false
open Go.RowKit Go.Maps Go.Sort Go.ChangeShapes Go.WideShapes

theorem PartsAt.only {w w' : World} {B p M : Nat} {P : Parts} {cv mv wv kv : Value} {ms : List Value} {S : List Nat} (h : PartsAt w B p M P cv mv wv kv ms) (ho : Only S w w') (hp : ∀ k ∈ partS p cv mv wv kv, k ∉ S)
    (hr : ∀ v ∈ ms, ∀ k, v.ownBlock = some k → k ∉ S) : PartsAt w' B p M P cv mv wv kv ms := by
  refine ⟨h.blk.only ho (hp p (partS_mem.2 (.inl rfl))), h.base, own_only h.cls ho fun g hg => hp g (partS_mem.2 (.inr (.inl hg))), own_only h.mem ho fun g hg => hp g (partS_mem.2 (.inr (.inr (.inl hg)))), own_only h.wai ho fun g hg => hp g (partS_mem.2 (.inr (.inr (.inr (.inl hg))))), own_only h.work ho fun g hg => hp g (partS_mem.2 (.inr (.inr (.inr (.inr hg))))), h.offp, h.offc, h.offm, h.offw, fun c s hc => ?_⟩
  obtain ⟨v, hv, hn, hoff⟩ := h.rows c s hc
  exact ⟨v, hv, hn.only ho (hr v (List.mem_of_getElem? hv)), fun k hk => ⟨Nat.lt_of_lt_of_le (hoff k hk).1 ho.size, (hoff k hk).2⟩⟩
theorem PartsAt.lt {w : World} {B p M : Nat} {P : Parts} {cv mv wv kv : Value} {ms : List Value} (h : PartsAt w B p M P cv mv wv kv ms) : ∀ k ∈ partS p cv mv wv kv, k < w.heap.size := fun k hk => by
  rcases partS_mem.1 hk with rfl | e | e | e | e
  · exact h.blk.lt
  · exact own_lt h.cls e
  · exact own_lt h.mem e
  · exact own_lt h.wai e
  · exact own_lt h.work e
theorem PartsAt.row_lt {w : World} {B p M : Nat} {P : Parts} {cv mv wv kv : Value} {ms : List Value} (h : PartsAt w B p M P cv mv wv kv ms) : ∀ v ∈ ms, ∀ k, v.ownBlock = some k → k < w.heap.size ∧ k ∉ partS p cv mv wv kv := fun v hv k hk => by
  obtain ⟨c, hc⟩ := List.getElem?_of_mem hv
  have hl : ms.length = P.mem.length := by have := h.mem.1; omega
  have hcl : c < P.mem.length := by have := (List.getElem?_eq_some_iff.1 hc).1; omega
  obtain ⟨v', hv', -, hoff⟩ := h.rows c _ (List.getElem?_eq_getElem hcl)
  obtain rfl := Option.some.inj (hv'.symm.trans hc)
  obtain ⟨h1, h2, h3⟩ := hoff k hk
  refine ⟨h1, fun hm => ?_⟩
  rcases partS_mem.1 hm with e | e | e | e | e
  · exact h2 e
  · exact h3 cv (by simp) e
  · exact h3 mv (by simp) e
  · exact h3 wv (by simp) e
  · exact h3 kv (by simp) e
theorem PartsAt.below {w w' : World} {B p M : Nat} {P : Parts} {cv mv wv kv : Value} {ms : List Value} (h : PartsAt w B p M P cv mv wv kv ms) (hb : Below w.heap.size w w') : PartsAt w' B p M P cv mv wv kv ms :=
  h.only (S := []) (Only.of_below hb) (by simp) (by simp)
/-- a class's members are stored -/
theorem put_memat {w : World} {B p M : Nat} {P : Parts} {cv wv kv rv : Value} {ms : List Value} {gm capm c : Nat} {r : List Nat} (h : PartsAt w B p M P cv (.slice (some ⟨gm, 0, none⟩) P.mem.length capm) wv kv ms) (hc : c < P.mem.length)
    (hrv : NatsAt w rv r) (hro : ∀ k, rv.ownBlock = some k → k < w.heap.size ∧ k ≠ p ∧ Off k [cv, .slice (some ⟨gm, 0, none⟩) P.mem.length capm, wv, kv]) :
    PartsAt (w.setCell ⟨gm, c, none⟩ rv) B p M { P with mem := P.mem.set c r } cv (.slice (some ⟨gm, 0, none⟩) P.mem.length capm) wv kv (ms.set c rv) ∧ Only [gm] w (w.setCell ⟨gm, c, none⟩ rv) := by
  have ho : Only [gm] w (w.setCell ⟨gm, c, none⟩ rv) := only_set1 w ⟨gm, c, none⟩ _
  have hmv : (Value.slice (some ⟨gm, 0, none⟩) P.mem.length capm).ownBlock = some gm := rfl
  have hp : p ≠ gm := h.offp.at_ (v := .slice (some ⟨gm, 0, none⟩) P.mem.length capm) (by simp) rfl
  have hst := (h.mem.stored c rv).1
  have kk : ∀ {v : Value}, v.ownBlock ≠ some gm → ∀ k, v.ownBlock = some k → k ∉ [gm] := fun {v} hv k hk hm => by
    simp at hm
    exact hv (by rw [hk, hm])
  have hl : ms.length = P.mem.length := by have := h.mem.1; omega
  refine ⟨⟨h.blk.only ho (by simpa using hp), h.base, own_only h.cls ho (kk fun e => h.offc gm e (.slice (some ⟨gm, 0, none⟩) P.mem.length capm) (by simp) hmv), ?_, own_only h.wai ho (kk (h.offm gm rfl wv (by simp))), own_only h.work ho (kk (h.offm gm rfl kv (by simp))), h.offp, h.offc, h.offm, h.offw, fun x t hx => ?_⟩, ho⟩
  · simp only [List.length_set]
    exact hst
  · simp only at hx
    rw [List.getElem?_set] at hx
    by_cases e : c = x
    · subst e
      rw [if_pos rfl, if_pos hc] at hx
      obtain rfl := Option.some.inj hx
      refine ⟨rv, by rw [List.getElem?_set, if_pos rfl, if_pos (by omega)], hrv.only ho fun k hk hm => ?_, fun k hk => ?_⟩
      · simp at hm
        exact (hro k hk).2.2 (.slice (some ⟨gm, 0, none⟩) P.mem.length capm) (by simp) (by rw [hmv, hm])
      · obtain ⟨h1, h2, h3⟩ := hro k hk
        exact ⟨Nat.lt_of_lt_of_le h1 ho.size, h2, h3⟩
    · rw [if_neg e] at hx
      obtain ⟨v, hv, hn, hoff⟩ := h.rows x t hx
      refine ⟨v, by rw [List.getElem?_set, if_neg e]; exact hv, hn.only ho fun k hk hm => ?_, fun k hk => ?_⟩
      · simp at hm
        exact (hoff k hk).2.2 (.slice (some ⟨gm, 0, none⟩) P.mem.length capm) (by simp) (by rw [hmv, hm])
      · obtain ⟨h1, h2, h3⟩ := hoff k hk
        exact ⟨Nat.lt_of_lt_of_le h1 ho.size, h2, h3⟩
/-- what is turned behind a move: the old rows and what is new -/
theorem Moved.trans {w w' : World} {v v' v'' : Value} (h : Moved w v v') (h' : Moved w' v' v'') (hs : w.heap.size ≤ w'.heap.size) : Moved w v v'' := by
  rcases h' with e | ⟨g, e, hg⟩
  · rcases h with e2 | ⟨g, e2, hg⟩
    · exact .inl (e.trans e2)
    · exact .inr ⟨g, e.trans e2, hg⟩
  · exact .inr ⟨g, e, by omega⟩
theorem Only.moved {w w' w'' : World} {S T : List Nat} (h : Only S w w') (h' : Only T w' w'') (ht : ∀ k ∈ T, k ∈ S ∨ w.heap.size ≤ k) : Only S w w'' :=
  ⟨h'.os.trans h.os, h'.tape.trans h.tape, h'.output.trans h.output, Nat.le_trans h.size h'.size, fun k hk hS => (h'.block k (Nat.lt_of_lt_of_le hk h.size) fun hT => by
    rcases ht k hT with e | e
    · exact hS e
    · omega).trans (h.block k hk hS)⟩
end Go.Proofs.YtgkpgjbgcimijaaDoor
