/-
  A class is taken from those that wait, in memory; the rows of what leads where. Conditions: each lemma says its own.
-/
import Derived.Test.YtgkpgjbgcimijaaDoorAuPs
import Derived.WalkSmall
namespace Go.Proofs.YtgkpgjbgcimijaaDoor
set_option linter.unusedVariables false
set_option linter.unusedSimpArgs false
open Go.RowKit Go.Maps Go.Sort Go.ChangeShapes Go.WideShapes

theorem pop_at {w : World} {B p M : Nat} {P : Parts} {cv mv : Value} {ms : List Value} {gw capw gk capk c : Nat} {l : List Nat} (h : PartsAt w B p M P cv mv (.slice (some ⟨gw, 0, none⟩) P.wai.length capw) (.slice (some ⟨gk, 0, none⟩) P.work.length capk) ms) (hl : P.work = l ++ [c]) (hc : c < P.wai.length) :
    PartsAt ((w.setCell ⟨p, 3, none⟩ (.slice (some ⟨gk, 0, none⟩) l.length capk)).setCell ⟨gw, c, none⟩ (.bool false)) B p M (P.pop l c) cv mv (.slice (some ⟨gw, 0, none⟩) P.wai.length capw) (.slice (some ⟨gk, 0, none⟩) l.length capk) ms ∧
      Only (partS p cv mv (.slice (some ⟨gw, 0, none⟩) P.wai.length capw) (.slice (some ⟨gk, 0, none⟩) P.work.length capk)) w ((w.setCell ⟨p, 3, none⟩ (.slice (some ⟨gk, 0, none⟩) l.length capk)).setCell ⟨gw, c, none⟩ (.bool false)) := by
  have o1 := only_set1 w ⟨p, 3, none⟩ (.slice (some ⟨gk, 0, none⟩) l.length capk)
  have hlen : P.work.length = l.length + 1 := by rw [hl]; simp
  have hk1 : w.ownsRow B 3 1 (.slice (some ⟨gk, 0, none⟩) (l.length + 1) capk) (l.length + 1) (natCells l ++ [.int .i64 (c : Int)]) := by
    have := h.work
    rw [hlen, hl, natCells_snoc] at this
    exact this
  have hk2 := ownsRow_pop (by rw [natCells_len]; omega) hk1
  have hgp : (Value.slice (some ⟨gk, 0, none⟩) l.length capk).ownBlock ≠ some p := fun e => h.offp (.slice (some ⟨gk, 0, none⟩) P.work.length capk) (by simp) e
  have h1 := put_work (l := l) h (o1.more (by simp)) (by simpa using h.blk.set_ 3 (.slice (some ⟨gk, 0, none⟩) l.length capk)) (own_set hk2 (a := ⟨p, 3, none⟩) _ hgp) (fun g hg => .inl hg)
  generalize w.setCell ⟨p, 3, none⟩ (.slice (some ⟨gk, 0, none⟩) l.length capk) = w1 at *
  have o2 := only_set1 w1 ⟨gw, c, none⟩ (.bool false)
  have hpw : gw ≠ p := fun e => h.offp (.slice (some ⟨gw, 0, none⟩) P.wai.length capw) (by simp) (congrArg some e)
  have h2 := put_wai (l := P.wai.set c false) h1 (o2.more (T := p :: (Value.slice (some ⟨gw, 0, none⟩) P.wai.length capw).ownBlock.toList) (by simp [Value.ownBlock])) (h1.blk.far (p := ⟨gw, c, none⟩) (fun e => hpw e.symm) (.bool false)) (by rw [List.length_set, List.map_set]; exact (h1.wai.stored c (.bool false)).1) (fun g hg => .inl hg)
  refine ⟨?_, ?_⟩
  · exact h2
  · refine (o1.more fun k hk => ?_).trans (o2.more fun k hk => ?_)
    · obtain rfl := List.mem_singleton.1 hk
      exact partS_mem.2 (.inl rfl)
    · obtain rfl := List.mem_singleton.1 hk
      exact partS_mem.2 (.inr (.inr (.inr (.inl rfl))))
theorem Rows3At.get {w : World} {v : Value} {lll : List (List (List Nat))} {N : Nat → Prop} (h : Rows3At w v lll N) {k : Nat} {ll : List (List Nat)} (hk : lll[k]? = some ll) :
    ∃ b off cap a c, v = .slice (some ⟨b, off, none⟩) lll.length cap ∧ w.cell? ⟨b, off + k, none⟩ = some (.slice a ll.length c) ∧ RowsAt w (.slice a ll.length c) ll N := by
  obtain ⟨a, cap, rfl, h0 | ⟨b, off, rfl, hb, hNb, hc⟩⟩ := h
  · rw [h0] at hk; cases hk
  · obtain ⟨u, hu, hr⟩ := hc k ll hk
    obtain ⟨a, c, rfl, -⟩ := id hr
    exact ⟨b, off, cap, a, c, rfl, hu, hr⟩
theorem ahead_get {d : Aut} {nxt : List (List Nat)} {R : List Nat} (hd : d.nx = nxtF nxt) {k m : Nat} (hm : m < nxt.length) : (aheadL nxt R k)[m]? = some (fromL d R k m) := by
  rw [aheadL, List.getElem?_map, List.getElem?_range hm]
  simp [fromL, hd]
theorem aheads_get (nxt : List (List Nat)) (R : List Nat) {wide k : Nat} (hk : k < wide) : ((List.range wide).map (aheadL nxt R))[k]? = some (aheadL nxt R k) := by
  rw [List.getElem?_map, List.getElem?_range hk]
  rfl
end Go.Proofs.YtgkpgjbgcimijaaDoor
