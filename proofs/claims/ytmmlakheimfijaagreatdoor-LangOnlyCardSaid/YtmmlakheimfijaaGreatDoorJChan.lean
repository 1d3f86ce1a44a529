/-
  Channels in one goroutine, for the kit's walk: a region that is not drawn, one of whose operations sends or receives. Conditions: room for what is sent; something to receive, or the channel closed.
-/
import Derived.Conc.LoneCalls
import Derived.Test.YtmmlakheimfijaaGreatDoorJKit
namespace Go.Proofs.YtmmlakheimfijaaGreatDoor
set_option linter.unusedVariables false
set_option linter.unusedSimpArgs false
open Go.RowKit Go.Sort Go.Conc
section
variable {P : Program} {ops : Array Oper} {Q : Exit → Act → World → Prop} {i : Nat} {l : List Nat} {o : Oper} {a : Act} {w w' : World}
/-- what the machine does from the region's rest on -/
def SemOps (P : Program) (ops : Array Oper) (Q : Exit → Act → World → Prop) (l : List Nat) (a : Act) (w : World) : Prop :=
  ∀ (b : Frame) (k : List Item) (cs : List Frame), ∃ e a' w', Q e a' w' ∧ Arrives P (lone (b.at a (.inRegion ops l :: k)) cs w) b k cs e a' w'
theorem wp_region_sem {id : Nat} (h : SemOps P ops Q (List.range ops.size) a w) : (Code.region id ops false).wp P Q a w :=
  fun b k cs => let ⟨e, a', w', q, r⟩ := h b k cs; ⟨e, a', w', q, .of_steps (.one step_region) r⟩
theorem sem_list {r : List Oper} (j : Nat) (hr : ops.toList.drop j = r) (h : wpList P ops Q r a w) : SemOps P ops Q (List.range' j r.length) a w := by
  refine wp_ops _ a w ?_
  rw [wpOps_eq_wpList r j (fun m => by rw [← hr]; simp)]
  exact h
theorem sem_finish (ho : ops[i]? = some o) (b : Frame) (k : List Item) (v : Value) : (b.at a (.inRegion ops (i :: l) :: k)).finish v = b.at (a.put o.dst v) (.inRegion ops l :: k) := by
  rw [Frame.finish_at, ho]; rfl
theorem sem_value {v : Value} (ho : ops[i]? = some o) (hw : Region.wanted o (yielded ops a.tmps) = true) (hr : (execOp a.eval o).run P w = .ok (.value v) w') (h : SemOps P ops Q l (a.put o.dst v) w') : SemOps P ops Q (i :: l) a w := by
  intro b k cs
  obtain ⟨e, a', w'', hq, harr⟩ := h b k cs
  refine ⟨e, a', w'', hq, .of_steps (.one (step_lone_go ?_)) harr⟩
  rw [stepG_op ho hw, ← sem_finish ho]
  simp [stepG.apply, hr]
/-- an operation that only reads -/
theorem sem_still (ho : ops[i]? = some o) (hs : stillOp o = true) (hg : o.guard = none) (h : ∀ K : Act → World → Prop, (∀ a w, SemOps P ops Q l a w → K a w) → o.wp P a w K (fun _ _ _ => False)) : SemOps P ops Q (i :: l) a w := by
  have h1 := h (SemOps P ops Q l) (fun _ _ h => h)
  unfold Oper.wp at h1
  cases hr : (execOp a.eval o).run P w with
  | ok n w' =>
    obtain ⟨v, rfl⟩ := still_value hs hr
    rw [hr] at h1
    exact sem_value ho (by simp [Region.wanted, hg]) hr h1
  | halt x w' =>
    rw [hr] at h1
    cases x <;> exact h1.elim
theorem stepG_comm {cases : Array CommCase} {shape : CommShape} (b : Frame) (k : List Item) (cs : List Frame) (ho : ops[i]? = some o) (hg : o.guard = none) (hr : (execOp a.eval o).run P w = .ok (.comm cases true shape) w') :
    ∃ es, stepG P true (G (b.at a (.inRegion ops (i :: l) :: k)) cs) w = .comm (G (b.at a (.inRegion ops (i :: l) :: k)) cs) cases true shape w' es := by
  have h := stepG_op (P := P) (b := b) (a := a) (k := k) (cs := cs) (w := w) (rest := l) ho (by simp [Region.wanted, hg])
  unfold G
  rw [h]
  simp only [stepG.apply, Sem.runT_eq, hr, GStep.after, if_true]
  exact ⟨_, rfl⟩
theorem sem_send {c cap s r : Nat} {buf : Array Value} {v z : Value} {tm : Bool} (ho : ops[i]? = some o) (hg : o.guard = none) (hr : (execOp a.eval o).run P w = .ok (.comm #[scase c v z] true .send) w')
    (hc : w'.heap[c]? = some (.chan cap buf false s r tm)) (hroom : buf.size < cap) (h : SemOps P ops Q l (a.put o.dst undef) (w'.setChan c cap (buf.push v) false (s + 1) r tm)) : SemOps P ops Q (i :: l) a w := by
  intro b k cs
  obtain ⟨e, a', w'', hq, harr⟩ := h b k cs
  obtain ⟨es, hes⟩ := stepG_comm (l := l) b k cs ho hg hr
  refine ⟨e, a', w'', hq, .of_steps (.one ?_) harr⟩
  rw [← sem_finish ho]
  exact step_lone_send_room hes hc hroom
theorem sem_recv {c cap s r : Nat} {buf : Array Value} {z : Value} {tm closed ok : Bool} (ho : ops[i]? = some o) (hg : o.guard = none) (hr : (execOp a.eval o).run P w = .ok (.comm #[rcase c z] true (.recv ok)) w')
    (hc : w'.heap[c]? = some (.chan cap buf closed s r tm)) (hsome : 0 < buf.size) (h : SemOps P ops Q l (a.put o.dst (got ok (buf.getD 0 undef) true)) (w'.setChan c cap (buf.extract 1 buf.size) closed s (r + 1) tm)) : SemOps P ops Q (i :: l) a w := by
  intro b k cs
  obtain ⟨e, a', w'', hq, harr⟩ := h b k cs
  obtain ⟨es, hes⟩ := stepG_comm (l := l) b k cs ho hg hr
  refine ⟨e, a', w'', hq, .of_steps (.one ?_) harr⟩
  rw [← sem_finish ho]
  exact step_lone_recv_buf ok hes hc hsome
theorem sem_shut {c cap s r : Nat} {z : Value} {tm ok : Bool} (ho : ops[i]? = some o) (hg : o.guard = none) (hr : (execOp a.eval o).run P w = .ok (.comm #[rcase c z] true (.recv ok)) w')
    (hc : w'.heap[c]? = some (.chan cap #[] true s r tm)) (h : SemOps P ops Q l (a.put o.dst (got ok z false)) w') : SemOps P ops Q (i :: l) a w := by
  intro b k cs
  obtain ⟨e, a', w'', hq, harr⟩ := h b k cs
  obtain ⟨es, hes⟩ := stepG_comm (l := l) b k cs ho hg hr
  refine ⟨e, a', w'', hq, .of_steps (.one ?_) harr⟩
  rw [← sem_finish ho]
  exact step_lone_recv_shut ok hes hc
end
end Go.Proofs.YtmmlakheimfijaaGreatDoor
