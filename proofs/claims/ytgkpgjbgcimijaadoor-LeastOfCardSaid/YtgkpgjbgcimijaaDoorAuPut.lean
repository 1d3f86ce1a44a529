/-
  The classes in memory, one of their rows replaced: plain lemmas. Conditions: each says its own.
-/
import Derived.Test.YtgkpgjbgcimijaaDoorAuMem
namespace Go.Proofs.YtgkpgjbgcimijaaDoor
set_option linter.unusedVariables false
set_option linter.unusedSimpArgs false
open Go.RowKit Go.Maps Go.Sort Go.ChangeShapes Go.WideShapes

theorem put_mem {w w' : World} {B p M : Nat} {P : Parts} {cv mv wv kv x : Value} {ms : List Value} {sv : Value} {s : List Nat} (h : PartsAt w B p M P cv mv wv kv ms) (hsv : NatsAt w sv s) (hso : ∀ k, sv.ownBlock = some k → k < w.heap.size ∧ k ≠ p ∧ Off k [cv, mv, wv, kv]) (ho : Only (p :: mv.ownBlock.toList) w w') (hb : Blk w' p 59 #[cv, x, wv, kv])
    (hown : w'.ownsRow B 23 1 x (P.mem.length + 1) (ms ++ [sv])) (hat : ∀ g, x.ownBlock = some g → mv.ownBlock = some g ∨ w.heap.size ≤ g) : PartsAt w' B p M { P with mem := P.mem ++ [s] } cv x wv kv (ms ++ [sv]) := by
  have gne : ∀ k, k < w.heap.size → mv.ownBlock ≠ some k → x.ownBlock ≠ some k := fun k hk hn e => by
    rcases hat k e with h1 | h1
    · exact hn h1
    · omega
  have keep : ∀ {v : Value} {k : Nat}, v.ownBlock = some k → k ≠ p → mv.ownBlock ≠ some k → k ∉ p :: mv.ownBlock.toList := fun {v k} hk h1 h2 hm => by
    simp at hm
    rcases hm with e | e
    · exact h1 e
    · exact h2 e
  have np : ∀ v, v ∈ [cv, mv, wv, kv] → ∀ k, v.ownBlock = some k → k ≠ p := fun v hv k hk e => h.offp v hv (by rw [hk, e])
  have f0 := own_only h.cls ho fun k hk => keep hk (np cv (by simp) k hk) (h.offc k hk mv (by simp))
  have f1 : w'.ownsRow B 23 1 x (P.mem ++ [s]).length (ms ++ [sv]) := by rw [List.length_append]; exact hown
  have f2 := own_only h.wai ho fun k hk => keep hk (np wv (by simp) k hk) (fun e => h.offm k e wv (by simp) hk)
  have f3 := own_only h.work ho fun k hk => keep hk (np kv (by simp) k hk) (fun e => h.offm k e kv (by simp) hk)
  have xp : x.ownBlock ≠ some p := gne p h.blk.lt (h.offp mv (by simp))
  have x0 : ∀ k, cv.ownBlock = some k → x.ownBlock ≠ some k := fun k hk => gne k (own_lt h.cls hk) (h.offc k hk mv (by simp))
  have x2 : ∀ k, wv.ownBlock = some k → x.ownBlock ≠ some k := fun k hk => gne k (own_lt h.wai hk) (fun e => h.offm k e wv (by simp) hk)
  have x3 : ∀ k, kv.ownBlock = some k → x.ownBlock ≠ some k := fun k hk => gne k (own_lt h.work hk) (fun e => h.offm k e kv (by simp) hk)
  refine ⟨hb, h.base, f0, f1, f2, f3, .mk4 (h.offp cv (by simp)) xp (h.offp wv (by simp)) (h.offp kv (by simp)), ?_, ?_, ?_, ?_⟩
  · intro k hk
    exact .mk3 (x0 k hk) (h.offc k hk wv (by simp)) (h.offc k hk kv (by simp))
  · intro k hk
    exact .mk2 (fun e => x2 k e hk) (fun e => x3 k e hk)
  · intro k hk
    exact .mk1 (h.offw k hk kv (by simp))
  · intro c r hc
    have hml : ms.length = P.mem.length := by have := h.mem.1; omega
    by_cases e : c < P.mem.length
    · have hc : P.mem[c]? = some r := by rw [List.getElem?_append_left e] at hc; exact hc
      obtain ⟨v, hv, hn, hoff⟩ := h.rows c r hc
      refine ⟨v, (by rw [List.getElem?_append_left (by omega)]; exact hv), hn.only ho fun k hk => ?_, fun k hk => ?_⟩
      · obtain ⟨h1, h2, h3⟩ := hoff k hk
        exact keep hk h2 (h3 mv (by simp))
      · obtain ⟨h1, h2, h3⟩ := hoff k hk
        exact ⟨Nat.lt_of_lt_of_le h1 ho.size, h2, .mk4 (h3 cv (by simp)) (gne k h1 (h3 mv (by simp))) (h3 wv (by simp)) (h3 kv (by simp))⟩
    · have h0 := (List.getElem?_eq_some_iff.1 hc).1
      obtain rfl : c = P.mem.length := by simp at h0; omega
      rw [List.getElem?_append_right (Nat.le_refl _), Nat.sub_self] at hc
      obtain rfl : s = r := Option.some.inj hc
      refine ⟨sv, ?_, hsv.only ho fun k hk => ?_, fun k hk => ?_⟩
      · rw [← hml, List.getElem?_append_right (Nat.le_refl _), Nat.sub_self]; rfl
      · obtain ⟨h1, h2, h3⟩ := hso k hk
        exact keep hk h2 (h3 mv (by simp))
      · obtain ⟨h1, h2, h3⟩ := hso k hk
        exact ⟨Nat.lt_of_lt_of_le h1 ho.size, h2, .mk4 (h3 cv (by simp)) (gne k h1 (h3 mv (by simp))) (h3 wv (by simp)) (h3 kv (by simp))⟩

theorem put_wai {w w' : World} {B p M : Nat} {P : Parts} {cv mv wv kv x : Value} {ms : List Value} {l : List Bool} (h : PartsAt w B p M P cv mv wv kv ms) (ho : Only (p :: wv.ownBlock.toList) w w') (hb : Blk w' p 59 #[cv, mv, x, kv])
    (hown : w'.ownsRow B 4 1 x l.length (l.map .bool)) (hat : ∀ g, x.ownBlock = some g → wv.ownBlock = some g ∨ w.heap.size ≤ g) : PartsAt w' B p M { P with wai := l } cv mv x kv ms := by
  have gne : ∀ k, k < w.heap.size → wv.ownBlock ≠ some k → x.ownBlock ≠ some k := fun k hk hn e => by
    rcases hat k e with h1 | h1
    · exact hn h1
    · omega
  have keep : ∀ {v : Value} {k : Nat}, v.ownBlock = some k → k ≠ p → wv.ownBlock ≠ some k → k ∉ p :: wv.ownBlock.toList := fun {v k} hk h1 h2 hm => by
    simp at hm
    rcases hm with e | e
    · exact h1 e
    · exact h2 e
  have np : ∀ v, v ∈ [cv, mv, wv, kv] → ∀ k, v.ownBlock = some k → k ≠ p := fun v hv k hk e => h.offp v hv (by rw [hk, e])
  have f0 := own_only h.cls ho fun k hk => keep hk (np cv (by simp) k hk) (h.offc k hk wv (by simp))
  have f1 := own_only h.mem ho fun k hk => keep hk (np mv (by simp) k hk) (h.offm k hk wv (by simp))
  have f2 := hown
  have f3 := own_only h.work ho fun k hk => keep hk (np kv (by simp) k hk) (fun e => h.offw k e kv (by simp) hk)
  have xp : x.ownBlock ≠ some p := gne p h.blk.lt (h.offp wv (by simp))
  have x0 : ∀ k, cv.ownBlock = some k → x.ownBlock ≠ some k := fun k hk => gne k (own_lt h.cls hk) (h.offc k hk wv (by simp))
  have x1 : ∀ k, mv.ownBlock = some k → x.ownBlock ≠ some k := fun k hk => gne k (own_lt h.mem hk) (h.offm k hk wv (by simp))
  have x3 : ∀ k, kv.ownBlock = some k → x.ownBlock ≠ some k := fun k hk => gne k (own_lt h.work hk) (fun e => h.offw k e kv (by simp) hk)
  refine ⟨hb, h.base, f0, f1, f2, f3, .mk4 (h.offp cv (by simp)) (h.offp mv (by simp)) xp (h.offp kv (by simp)), ?_, ?_, ?_, ?_⟩
  · intro k hk
    exact .mk3 (h.offc k hk mv (by simp)) (x0 k hk) (h.offc k hk kv (by simp))
  · intro k hk
    exact .mk2 (x1 k hk) (h.offm k hk kv (by simp))
  · intro k hk
    exact .mk1 (fun e => x3 k e hk)
  · intro c r hc
    obtain ⟨v, hv, hn, hoff⟩ := h.rows c r hc
    refine ⟨v, hv, hn.only ho fun k hk => ?_, fun k hk => ?_⟩
    · obtain ⟨h1, h2, h3⟩ := hoff k hk
      exact keep hk h2 (h3 wv (by simp))
    · obtain ⟨h1, h2, h3⟩ := hoff k hk
      exact ⟨Nat.lt_of_lt_of_le h1 ho.size, h2, .mk4 (h3 cv (by simp)) (h3 mv (by simp)) (gne k h1 (h3 wv (by simp))) (h3 kv (by simp))⟩

theorem put_work {w w' : World} {B p M : Nat} {P : Parts} {cv mv wv kv x : Value} {ms : List Value} {l : List Nat} (h : PartsAt w B p M P cv mv wv kv ms) (ho : Only (p :: kv.ownBlock.toList) w w') (hb : Blk w' p 59 #[cv, mv, wv, x])
    (hown : w'.ownsRow B 3 1 x l.length (natCells l)) (hat : ∀ g, x.ownBlock = some g → kv.ownBlock = some g ∨ w.heap.size ≤ g) : PartsAt w' B p M { P with work := l } cv mv wv x ms := by
  have gne : ∀ k, k < w.heap.size → kv.ownBlock ≠ some k → x.ownBlock ≠ some k := fun k hk hn e => by
    rcases hat k e with h1 | h1
    · exact hn h1
    · omega
  have keep : ∀ {v : Value} {k : Nat}, v.ownBlock = some k → k ≠ p → kv.ownBlock ≠ some k → k ∉ p :: kv.ownBlock.toList := fun {v k} hk h1 h2 hm => by
    simp at hm
    rcases hm with e | e
    · exact h1 e
    · exact h2 e
  have np : ∀ v, v ∈ [cv, mv, wv, kv] → ∀ k, v.ownBlock = some k → k ≠ p := fun v hv k hk e => h.offp v hv (by rw [hk, e])
  have f0 := own_only h.cls ho fun k hk => keep hk (np cv (by simp) k hk) (h.offc k hk kv (by simp))
  have f1 := own_only h.mem ho fun k hk => keep hk (np mv (by simp) k hk) (h.offm k hk kv (by simp))
  have f2 := own_only h.wai ho fun k hk => keep hk (np wv (by simp) k hk) (h.offw k hk kv (by simp))
  have f3 := hown
  have xp : x.ownBlock ≠ some p := gne p h.blk.lt (h.offp kv (by simp))
  have x0 : ∀ k, cv.ownBlock = some k → x.ownBlock ≠ some k := fun k hk => gne k (own_lt h.cls hk) (h.offc k hk kv (by simp))
  have x1 : ∀ k, mv.ownBlock = some k → x.ownBlock ≠ some k := fun k hk => gne k (own_lt h.mem hk) (h.offm k hk kv (by simp))
  have x2 : ∀ k, wv.ownBlock = some k → x.ownBlock ≠ some k := fun k hk => gne k (own_lt h.wai hk) (h.offw k hk kv (by simp))
  refine ⟨hb, h.base, f0, f1, f2, f3, .mk4 (h.offp cv (by simp)) (h.offp mv (by simp)) (h.offp wv (by simp)) xp, ?_, ?_, ?_, ?_⟩
  · intro k hk
    exact .mk3 (h.offc k hk mv (by simp)) (h.offc k hk wv (by simp)) (x0 k hk)
  · intro k hk
    exact .mk2 (h.offm k hk wv (by simp)) (x1 k hk)
  · intro k hk
    exact .mk1 (x2 k hk)
  · intro c r hc
    obtain ⟨v, hv, hn, hoff⟩ := h.rows c r hc
    refine ⟨v, hv, hn.only ho fun k hk => ?_, fun k hk => ?_⟩
    · obtain ⟨h1, h2, h3⟩ := hoff k hk
      exact keep hk h2 (h3 kv (by simp))
    · obtain ⟨h1, h2, h3⟩ := hoff k hk
      exact ⟨Nat.lt_of_lt_of_le h1 ho.size, h2, .mk4 (h3 cv (by simp)) (h3 mv (by simp)) (h3 wv (by simp)) (gne k h1 (h3 kv (by simp)))⟩

/-- a state's class is stored -/
theorem put_cls {w : World} {B p M : Nat} {P : Parts} {mv wv kv : Value} {ms : List Value} {gc capc n c : Nat} (h : PartsAt w B p M P (.slice (some ⟨gc, 0, none⟩) M capc) mv wv kv ms) (hn : n < M) :
    PartsAt (w.setCell ⟨gc, n, none⟩ (.int .i64 (c : Int))) B p M { P with cls := fun m => if m = n then c else P.cls m } (.slice (some ⟨gc, 0, none⟩) M capc) mv wv kv ms ∧ Only [gc] w (w.setCell ⟨gc, n, none⟩ (.int .i64 (c : Int))) := by
  have ho : Only [gc] w (w.setCell ⟨gc, n, none⟩ (.int .i64 (c : Int))) := only_set1 w ⟨gc, n, none⟩ _
  have hcv : (Value.slice (some ⟨gc, 0, none⟩) M capc).ownBlock = some gc := rfl
  have hc := h.offc gc rfl
  have hp : p ≠ gc := h.offp.at_ (v := .slice (some ⟨gc, 0, none⟩) M capc) (by simp) rfl
  have hst := (h.cls.stored n (.int .i64 (c : Int))).1
  have he : (clsCells P.cls M).set n (.int .i64 (c : Int)) = clsCells (fun m => if m = n then c else P.cls m) M := by
    apply List.ext_getElem?
    intro j
    rw [List.getElem?_set]
    simp only [clsCells, List.length_map, List.length_range, List.getElem?_map]
    by_cases hj : j < M
    · rw [List.getElem?_range hj]
      by_cases e : n = j
      · subst e; simp [hj]
      · rw [if_neg e]
        have e' : ¬ j = n := fun e2 => e e2.symm
        simp [e']
    · rw [List.getElem?_eq_none (by simp; omega)]
      by_cases e : n = j
      · omega
      · rw [if_neg e]; rfl
  rw [he] at hst
  have kk : ∀ {v : Value}, v.ownBlock ≠ some gc → ∀ k, v.ownBlock = some k → k ∉ [gc] := fun {v} hv k hk hm => by
    simp at hm
    exact hv (by rw [hk, hm])
  refine ⟨⟨h.blk.only ho (by simpa using hp), h.base, hst, own_only h.mem ho (kk (hc mv (by simp))), own_only h.wai ho (kk (hc wv (by simp))), own_only h.work ho (kk (hc kv (by simp))), h.offp, h.offc, h.offm, h.offw, fun x r hx => ?_⟩, ho⟩
  obtain ⟨v, hv, hn, hoff⟩ := h.rows x r hx
  refine ⟨v, hv, hn.only ho fun k hk hm => ?_, fun k hk => ?_⟩
  · simp at hm
    exact (hoff k hk).2.2 (.slice (some ⟨gc, 0, none⟩) M capc) (by simp) (by rw [hcv, hm])
  · obtain ⟨h1, h2, h3⟩ := hoff k hk
    exact ⟨Nat.lt_of_lt_of_le h1 ho.size, h2, h3⟩
end Go.Proofs.YtgkpgjbgcimijaaDoor
