/-
  The walks of labels.Get (a search with a function literal) and the reference's Get: both tell getL. Conditions: the labels lie as Go's.
-/
import Derived.Test.YtgdfklgbdfpinaaDoorLbRefRight
namespace Go.Proofs.YtgdfklgbdfpinaaDoor
set_option linter.unusedVariables false
set_option linter.unusedSimpArgs false
open Go.RowKit Go.Sort

def hasN (name : ByteArray) (x : Lab) : Bool := decide (x.1 = name)
/-- what a name has -/
def getL (l : List Lab) (name : ByteArray) : ByteArray := match l.find? (hasN name) with
  | some x => x.2
  | none => .empty
theorem find_at {l : List Lab} {p : Lab → Bool} {i : Nat} {x : Lab} (h : (l.take i).find? p = none) (hx : l[i]? = some x) (hp : p x = true) : l.find? p = some x := by
  have hi : i < l.length := (List.getElem?_eq_some_iff.1 hx).1
  have e : l = l.take i ++ (x :: l.drop (i + 1)) := by
    conv => lhs; rw [← List.take_append_drop i l]
    rw [List.drop_eq_getElem_cons hi, (List.getElem?_eq_some_iff.1 hx).2]
  rw [e, List.find?_append, h]
  simp [hp]
theorem find_next {l : List Lab} {p : Lab → Bool} {i : Nat} {x : Lab} (h : (l.take i).find? p = none) (hx : l[i]? = some x) (hp : p x = false) : (l.take (i + 1)).find? p = none := by
  rw [take_next hx, List.find?_append, h]
  simp [hp]

set_option maxRecDepth 100000 in
set_option maxHeartbeats 2000000 in
theorem get1_any (a b name : ByteArray) (k : Nat) (w : World) (hk : w.cell? ⟨k, 0, none⟩ = some (.string name)) : Calls Tryd.prog 29 #[.agg #[.string a, .string b], .pointer (some ⟨k, 0, none⟩)] w fun e w' => e = .returned (.bool (hasN name (a, b))) ∧ Below w.heap.size w w' := by
  have q := Blk.new w 42 #[.string a, .string b]
  have b1 := (Below.refl w.heap.size w).alloc (Nat.le_refl _) (.cells #[.string a, .string b] 42)
  have hlt := World.block_lt_of_cell? w _ hk
  have m : (w.alloc (.cells #[.string a, .string b] 42)).cell? ⟨k, 0, none⟩ = some (.string name) := (b1.cell (p := ⟨k, 0, none⟩) hlt).trans hk
  obtain ⟨⟨c0, c1⟩, -⟩ := q.c2
  have heq := str_eq a name
  obtain ⟨r, hr⟩ : ∃ r, decide (a = name) = r := ⟨_, rfl⟩
  rw [hr] at heq
  have HR := Lib.hid (And.intro hr b1)
  clear q b1 hr
  go_enter Tryd.func29, Tryd.ntmps29
  go_wp2_with fail
  go_ret
  exact ⟨ret_bool (by rw [hasN]; exact HR.out.1.symm), HR.out.2⟩
theorem get1_lit (a b name : ByteArray) (k : Nat) (w : World) (r : Bool) (hk : w.cell? ⟨k, 0, none⟩ = some (.string name)) (h : hasN name (a, b) = r) : Calls Tryd.prog 29 #[.agg #[.string a, .string b], .pointer (some ⟨k, 0, none⟩)] w fun e w' => e = .returned (.bool r) ∧ Below w.heap.size w w' := by
  rw [← h]; exact get1_any a b name k w hk

set_option maxRecDepth 100000 in
set_option maxHeartbeats 2000000 in
theorem indexf_any (A : Option Addr) (cap : Nat) (l : List Lab) (name : ByteArray) (k : Nat) (w : World) (h : IsLab w w.heap.size A l) (hlen : l.length ≤ 100000) (hk : w.cell? ⟨k, 0, none⟩ = some (.string name)) :
    Calls Tryd.prog 28 #[.slice A l.length cap, .func (.func 29) #[] #[.pointer (some ⟨k, 0, none⟩)]] w fun e w' =>
      (∃ r : Int, e = .returned (.int .i64 r) ∧ ((r = -1 ∧ l.find? (hasN name) = none) ∨ ∃ (i : Nat) (x : Lab), r = i ∧ l[i]? = some x ∧ l.find? (hasN name) = some x)) ∧ Below w.heap.size w w' := by
  have hlt := World.block_lt_of_cell? w _ hk
  have H := Lib.hid (And.intro h hk)
  clear h hk
  go_enter Tryd.func28, Tryd.ntmps28
  go_wp2_with fail
  go_loopw [8] (fun c wr => ∃ (j : Nat), j ≤ l.length ∧ c = .int .i64 j ∧ Hid ((l.take j).find? (hasN name) = none) ∧ Below w.heap.size w wr) (fun c _ => l.length - (intOf c).toNat)
  case atStart => exact ⟨0, by omega, rfl, Lib.hid rfl, Below.refl _ _⟩
  case round =>
    obtain ⟨j, hj, rfl, hc, hb⟩ := hrel
    by_cases hlj : j < l.length
    · obtain ⟨b, off, ⟨nm, vl⟩, rfl, hbB, hx, hcell⟩ := H.out.1.at_ hlj
      obtain ⟨m0, m1⟩ := hcell wr hb
      simp only at m0 m1
      have hk' : wr.cell? ⟨k, 0, none⟩ = some (.string name) := (hb.cell (p := ⟨k, 0, none⟩) hlt).trans H.out.2
      have HX := Lib.hid hx
      clear hx hcell
      obtain ⟨r, hr⟩ : ∃ r, hasN name (nm, vl) = r := ⟨_, rfl⟩
      have hcl : Calls Tryd.prog 29 _ wr _ := get1_lit nm vl name k wr r hk' hr
      have HR := Lib.hid hr
      have HCL := Lib.hid hcl
      clear hr hcl hk'
      go_wp2_with fail
      refine HCL.out.mono ?_
      rintro e w5 ⟨rfl, b5⟩
      have B5 : Below w.heap.size w w5 := hb.trans (b5.mono hb.size)
      clear b5 m0 m1
      cases r
      · go_wp2_with fail
        go_roundw
        case rel => exact ⟨j + 1, by omega, by go_num, Lib.hid (find_next hc.out HX.out HR.out), B5⟩
        case measure => simp [intOf]; omega
      · go_wp2_with fail
        go_ret
        exact ⟨⟨_, rfl, .inr ⟨j, _, rfl, HX.out, find_at hc.out HX.out HR.out⟩⟩, B5⟩
    · obtain rfl : j = l.length := by omega
      have HF := hc.out
      rw [List.take_of_length_le (Nat.le_refl _)] at HF
      have HG := Lib.hid HF
      clear HF
      go_wp2_with fail
      go_ret
      exact ⟨⟨_, rfl, .inl ⟨rfl, HG.out⟩⟩, hb⟩

set_option maxRecDepth 100000 in
set_option maxHeartbeats 2000000 in
theorem get_any (A : Option Addr) (cap : Nat) (l : List Lab) (name : ByteArray) (w : World) (h : IsLab w w.heap.size A l) (hlen : l.length ≤ 100000) :
    Calls Tryd.prog 13 #[.slice A l.length cap, .string name] w fun e w' => e = .returned (.string (getL l name)) ∧ Below w.heap.size w w' := by
  have q := Blk.new w 9 #[.string name]
  have b1 := (Below.refl w.heap.size w).alloc (Nat.le_refl _) (.cells #[.string name] 9)
  have h1 := h.below b1 (B' := (w.alloc (.cells #[.string name] 9)).heap.size) (by simp)
  have k1 : (w.alloc (.cells #[.string name] 9)).cell? ⟨w.heap.size, 0, none⟩ = some (.string name) := q.cell 0
  have hix := indexf_any A cap l name w.heap.size _ h1 hlen k1
  have H := Lib.hid (And.intro h (And.intro b1 hix))
  clear h q b1 h1 k1 hix
  go_enter Tryd.func13, Tryd.ntmps13
  go_wp2_with fail
  refine H.out.2.2.mono ?_
  rintro e w5 ⟨⟨r, rfl, hr⟩, b5⟩
  have B5 : Below w.heap.size w w5 := H.out.2.1.trans (b5.mono (by simp))
  clear b5
  rcases hr with ⟨rfl, hn⟩ | ⟨i, ⟨nm, vl⟩, rfl, hx, hf⟩
  · have HN := Lib.hid hn
    clear hn
    go_wp2_with fail
    go_ret
    exact ⟨congrArg (fun s => Ending.returned (.string s)) (by rw [getL, HN.out]; rfl), B5⟩
  · have hil : i < l.length := (List.getElem?_eq_some_iff.1 hx).1
    obtain ⟨b, off, x', rfl, hbB, hx', hcell⟩ := H.out.1.at_ hil
    obtain rfl : x' = (nm, vl) := Option.some.inj (hx'.symm.trans hx)
    obtain ⟨m0, m1⟩ := hcell w5 B5
    simp only at m0 m1
    have HF := Lib.hid hf
    have k1 : decide ((i : Int) < 0) = false := decide_eq_false (by omega)
    clear hf hx hx' hcell
    go_wp2_with fail
    go_ret
    exact ⟨congrArg (fun s => Ending.returned (.string s)) (by rw [getL, HF.out]), B5⟩

set_option maxRecDepth 100000 in
set_option maxHeartbeats 2000000 in
theorem refget_any (A : Option Addr) (cap : Nat) (l : List Lab) (name : ByteArray) (w : World) (h : IsLab w w.heap.size A l) (hlen : l.length ≤ 100000) :
    Calls Tryd.prog 14 #[.slice A l.length cap, .string name] w fun e w' => e = .returned (.string (getL l name)) ∧ Below w.heap.size w w' := by
  have H := Lib.hid h
  clear h
  go_enter Tryd.func14, Tryd.ntmps14
  go_wp2_with fail
  go_loopw [5] (fun c wr => ∃ (j : Nat), j ≤ l.length ∧ c = .int .i64 j ∧ Hid ((l.take j).find? (hasN name) = none) ∧ Below w.heap.size w wr) (fun c _ => l.length - (intOf c).toNat)
  case atStart => exact ⟨0, by omega, rfl, Lib.hid rfl, Below.refl _ _⟩
  case round =>
    obtain ⟨j, hj, rfl, hc, hb⟩ := hrel
    by_cases hlj : j < l.length
    · obtain ⟨b, off, ⟨nm, vl⟩, rfl, hbB, hx, hcell⟩ := H.out.at_ hlj
      obtain ⟨m0, m1⟩ := hcell wr hb
      simp only at m0 m1
      have HX := Lib.hid hx
      clear hx hcell
      have heq := str_eq nm name
      by_cases hn : nm = name
      · rw [decide_eq_true hn] at heq
        have HN : Hid (hasN name (nm, vl) = true) := Lib.hid (decide_eq_true hn)
        clear hn
        go_wp2_with fail
        go_ret
        exact ⟨congrArg (fun s => Ending.returned (.string s)) (by rw [getL, find_at hc.out HX.out HN.out]), hb⟩
      · rw [decide_eq_false hn] at heq
        have HN : Hid (hasN name (nm, vl) = false) := Lib.hid (decide_eq_false hn)
        clear hn
        go_wp2_with fail
        go_roundw
        case rel => exact ⟨j + 1, by omega, by go_num, Lib.hid (find_next hc.out HX.out HN.out), hb⟩
        case measure => simp [intOf]; omega
    · obtain rfl : j = l.length := by omega
      have HF := hc.out
      rw [List.take_of_length_le (Nat.le_refl _)] at HF
      have HG := Lib.hid HF
      clear HF
      go_wp2_with fail
      go_ret
      exact ⟨congrArg (fun s => Ending.returned (.string s)) (by rw [getL, HG.out]; rfl), hb⟩
end Go.Proofs.YtgdfklgbdfpinaaDoor
