/-
  The walks of Check and of the reference's Check: both tell checkE. Conditions: the classes lie as Go's.
-/
import Derived.Test.YtikpbhfjmlfooaaRtTake
import Derived.Test.YtikpbhfjmlfooaaRecs
namespace Go.Proofs.Ytikpbhfjmlfooaa
set_option linter.unusedVariables false
set_option linter.unusedSimpArgs false
open Go.RowKit Go.Maps Go.Sort Go.ChangeShapes Go.WideShapes

abbrev Cls := ByteArray × Int × Int
/-- classes that came in -/
structure IsCls (w : World) (B : Nat) (A : Option Addr) (l : List Cls) : Prop where
  place : l = [] ∨ ∃ b off, A = some ⟨b, off, none⟩ ∧ b < B ∧ ∀ j x, l[j]? = some x → w.cell? ⟨b, off + j * 3, none⟩ = some (.string x.1) ∧ w.cell? ⟨b, off + j * 3 + 1, none⟩ = some (.int .i64 x.2.1) ∧ w.cell? ⟨b, off + j * 3 + 2, none⟩ = some (.int .i64 x.2.2)
  ins : ∀ x ∈ l, x.1.size ≤ maxLen ∧ (Lit.int .i64 x.2.1).wf = true ∧ (Lit.int .i64 x.2.2).wf = true
theorem IsCls.below {w w' : World} {B : Nat} {A : Option Addr} {l : List Cls} (h : IsCls w B A l) (hb : Below B w w') {B' : Nat} (hB : B ≤ B') : IsCls w' B' A l :=
  ⟨h.place.imp id fun ⟨b, off, e, hbB, hc⟩ => ⟨b, off, e, by omega, fun j x hj => ⟨(hb.cell (p := ⟨b, _, none⟩) hbB).trans (hc j x hj).1, (hb.cell (p := ⟨b, _, none⟩) hbB).trans (hc j x hj).2.1, (hb.cell (p := ⟨b, _, none⟩) hbB).trans (hc j x hj).2.2⟩⟩, h.ins⟩
/-- the element at a place, its cells in every later world -/
theorem IsCls.at_ {w : World} {B : Nat} {A : Option Addr} {l : List Cls} (h : IsCls w B A l) {j : Nat} (hj : j < l.length) : ∃ b off x, A = some ⟨b, off, none⟩ ∧ b < B ∧ l[j]? = some x ∧ (x.1.size ≤ maxLen ∧ (Lit.int .i64 x.2.1).wf = true ∧ (Lit.int .i64 x.2.2).wf = true) ∧
    (∀ W, Below B w W → W.cell? ⟨b, off + j * 3, none⟩ = some (.string x.1) ∧ W.cell? ⟨b, off + j * 3 + 1, none⟩ = some (.int .i64 x.2.1) ∧ W.cell? ⟨b, off + j * 3 + 2, none⟩ = some (.int .i64 x.2.2)) := by
  have hx : l[j]? = some (l[j]'hj) := List.getElem?_eq_getElem hj
  rcases h.place with h0 | ⟨b, off, hA, hbB, hc⟩
  · rw [h0] at hj; simp at hj
  · obtain ⟨c0, c1, c2⟩ := hc j _ hx
    exact ⟨b, off, _, hA, hbB, hx, h.ins _ (List.mem_of_getElem? hx), fun W hb => ⟨(hb.cell (p := ⟨b, _, none⟩) hbB).trans c0, (hb.cell (p := ⟨b, _, none⟩) hbB).trans c1, (hb.cell (p := ⟨b, _, none⟩) hbB).trans c2⟩⟩

def anyName (l : List Cls) (s : ByteArray) : Bool := l.any fun y => decide (y.1 = s)
def timeB (n : Int) : Bool := withinB n 1099511627776
def stepE (seen : List Cls) (x : Cls) : Int := if wordB x.1 = false then 4 else if (timeB x.2.1 && timeB x.2.2) = false then 7 else if anyName seen x.1 = true then 5 else 0
def checkFrom : List Cls → List Cls → Int
  | _, [] => 0
  | seen, x :: r => if stepE seen x = 0 then checkFrom (seen ++ [x]) r else stepE seen x
def checkE (l : List Cls) : Int := if 8 < l.length then 3 else checkFrom [] l
theorem check_step (l : List Cls) (j : Nat) (x : Cls) (h : l[j]? = some x) : checkFrom (l.take j) (l.drop j) = if stepE (l.take j) x = 0 then checkFrom (l.take (j + 1)) (l.drop (j + 1)) else stepE (l.take j) x := by
  have hj : j < l.length := (List.getElem?_eq_some_iff.1 h).1
  have hd : l.drop j = x :: l.drop (j + 1) := by
    rw [List.drop_eq_getElem_cons hj, (List.getElem?_eq_some_iff.1 h).2]
  have ht : l.take (j + 1) = l.take j ++ [x] := by rw [List.take_add_one, h]; rfl
  rw [hd, checkFrom, ht]
theorem anyName_snoc (l : List Cls) (x : Cls) (s : ByteArray) : anyName (l ++ [x]) s = (anyName l s || decide (x.1 = s)) := by simp [anyName]

def SeenMap (D : DataW Unit) (l : List Cls) : Prop := ∀ s : ByteArray, s.size ≤ maxLen → has D (.string s.data.toList) = anyName l s
theorem seen_none : SeenMap (.map []) [] := fun s _ => rfl
theorem SeenMap.put {D : DataW Unit} {l : List Cls} (h : SeenMap D l) (hM : IsMap D) (x : Cls) (hs : x.1.size ≤ maxLen) (d : DataW Unit) : SeenMap (D.put (.string x.1.data.toList) d) (l ++ [x]) := by
  intro s hss
  rw [anyName_snoc]
  by_cases e : s = x.1
  · subst e
    rw [has_put_same hM (lawS.key (str_key _ hs))]
    simp
  · have hne : (Lit.string s.data.toList) ≠ .string x.1.data.toList := fun e' => e (str_inj e')
    rw [has_put_other hne, h s hss, decide_eq_false (fun e' => e e'.symm), Bool.or_false]
theorem zeroI (w : World) : (zeroValue 3).run Try.prog w = .ok (.int .i64 0) w := by kernel_rfl
theorem seen_look {w : World} {m k : Nat} {D : DataW Unit} {l : List Cls} (h : w.ownsMap Try.prog 9 (plainElem Try.prog 3) m k D) (hs : SeenMap D l) (s : ByteArray) (hss : s.size ≤ maxLen) :
    ∃ c : Int, (Instr.lookup 72 (.map (some m)) (.string s) true).run Try.prog w = .ok (.tuple #[.int .i64 c, .bool (anyName l s)]) w := by
  obtain ⟨v, ps, hrun, hv⟩ := h.look_ok lawS Try.underlying72 (zeroI w) (plainElem_int Try.underlying3 (by decide)) (str_key s hss)
  obtain ⟨c, rfl, _, _⟩ := plainElem_int_inv Try.underlying3 hv
  rw [hs s hss] at hrun
  exact ⟨c, hrun⟩

set_option maxRecDepth 100000 in
set_option maxHeartbeats 4000000 in
theorem check_any (A : Option Addr) (cap : Nat) (l : List Cls) (w : World) (h : IsCls w w.heap.size A l) (hlen : l.length ≤ 1000) :
    Calls Try.prog 33 #[.slice A l.length cap] w fun e w' => e = .returned (.int .i64 (checkE l)) ∧ Below w.heap.size w w' := by
  by_cases h8 : 8 < l.length
  · have h8' : decide (8 < (l.length : Int)) = true := decide_eq_true (by omega)
    go_enter Try.func33, Try.ntmps33
    go_wp2_with fail
    go_ret
    exact ⟨ret_int (by rw [checkE, if_pos h8]), Below.refl _ _⟩
  have h8' : decide (8 < (l.length : Int)) = false := decide_eq_false (by omega)
  have hmm := @run_makeMap Try.prog
  have H := Lib.hid h
  clear h
  go_enter Try.func33, Try.ntmps33
  go_wp2_with fail
  have m2 := World.ownsMap_made w Try.prog 9 (plainElem (H := Unit) Try.prog 3)
  have b2 : Below w.heap.size w (w.alloc (.map #[] 0)) := (Below.refl _ _).alloc (Nat.le_refl _) _
  have s2 : w.heap.size + 1 ≤ (w.alloc (.map #[] 0)).heap.size := by simp
  generalize w.alloc (.map #[] 0) = w2 at *
  go_loopw [14] (fun c wr => ∃ (j : Nat) (D : DataW Unit), j ≤ l.length ∧ c = .int .i64 j ∧ wr.ownsMap Try.prog 9 (plainElem Try.prog 3) w.heap.size j D ∧ Hid (SeenMap D (l.take j) ∧ checkFrom [] l = checkFrom (l.take j) (l.drop j)) ∧ Below w.heap.size w wr ∧ w.heap.size + 1 ≤ wr.heap.size) (fun c _ => l.length - (intOf c).toNat)
  case atStart => exact ⟨0, _, by omega, rfl, m2, Lib.hid ⟨seen_none, rfl⟩, b2, s2⟩
  case round =>
    clear m2 b2 s2
    obtain ⟨j, D, hj, rfl, hm, hc, hb, hz⟩ := hrel
    by_cases hlt : j < l.length
    · obtain ⟨b, off, ⟨nm, cp, fl⟩, rfl, hbB, hx, ⟨hs, hcp, hfl⟩, hcell⟩ := H.out.at_ hlt
      obtain ⟨m0, m1, m2⟩ := hcell wr hb
      simp only at m0 m1 m2 hs hcp hfl
      have hst := check_step l j _ hx
      have e4 := hm.alloc (.cells #[.string nm, .int .i64 cp, .int .i64 fl] 31)
      obtain ⟨cc, hl⟩ := seen_look e4 hc.out.1 nm hs
      have q4 := Blk.new wr 31 #[.string nm, .int .i64 cp, .int .i64 fl]
      have b4 := hb.alloc (by omega) (.cells #[.string nm, .int .i64 cp, .int .i64 fl] 31)
      obtain ⟨wn, hwn⟩ : ∃ wn, anyName (l.take j) nm = wn := ⟨_, rfl⟩
      rw [hwn] at hl
      have HX := Lib.hid (And.intro hx (And.intro hst (And.intro q4 (And.intro b4 (And.intro hwn e4)))))
      clear hx hst q4 b4 hwn e4 hcell
      obtain ⟨wd, hwd⟩ : ∃ wd, wordB nm = wd := ⟨_, rfl⟩
      obtain ⟨t1, ht1⟩ : ∃ t1, timeB cp = t1 := ⟨_, rfl⟩
      obtain ⟨t2, ht2⟩ : ∃ t2, timeB fl = t2 := ⟨_, rfl⟩
      have HW := Lib.hid (And.intro hwd (And.intro ht1 ht2))
      clear hwd ht1 ht2
      go_wp2_with fail
      refine (word_lit nm _ wd hs HW.out.1).mono ?_
      rintro e w5 ⟨rfl, b5⟩
      have hfull : checkE l = if stepE (l.take j) (nm, cp, fl) = 0 then checkFrom (l.take (j + 1)) (l.drop (j + 1)) else stepE (l.take j) (nm, cp, fl) := by
        rw [checkE, if_neg h8, hc.out.2, HX.out.2.1]
      have q5 := HX.out.2.2.1.below b5 (by simp)
      have B5 : Below w.heap.size w w5 := HX.out.2.2.2.1.trans (b5.mono (by simp; omega))
      have e5 : w5.ownsMap Try.prog 9 (plainElem Try.prog 3) w.heap.size j D := map_only HX.out.2.2.2.2.2 (Only.of_below (S := []) b5) (by simp)
      obtain ⟨⟨v0, v1, v2⟩, -⟩ := q5.c3
      have hz5 : w.heap.size + 1 ≤ w5.heap.size := by have := b5.size; simp at this; omega
      have H5 := Lib.hid (And.intro B5 hfull)
      clear q5 B5 hl b5 hfull
      cases wd
      · go_wp2_with fail
        go_ret
        refine ⟨ret_int ?_, H5.out.1⟩
        have : stepE (l.take j) (nm, cp, fl) = 4 := by rw [stepE, if_pos HW.out.1]
        rw [H5.out.2, this]
        rfl
      · go_wp2_with fail
        refine (timed_lit cp _ t1 HW.out.2.1).mono ?_
        rintro e w6 ⟨rfl, rfl⟩
        have n1 : ¬ wordB nm = false := by rw [HW.out.1]; simp
        have N1 := Lib.hid n1
        clear n1
        cases t1
        · go_wp2_with fail
          go_ret
          refine ⟨ret_int ?_, H5.out.1⟩
          have : stepE (l.take j) (nm, cp, fl) = 7 := by rw [stepE, if_neg N1.out, if_pos (by rw [HW.out.2.1]; rfl)]
          rw [H5.out.2, this]
          rfl
        · go_wp2_with fail
          refine (timed_lit fl _ t2 HW.out.2.2).mono ?_
          rintro e w7 ⟨rfl, rfl⟩
          cases t2
          · go_wp2_with fail
            go_ret
            refine ⟨ret_int ?_, H5.out.1⟩
            have : stepE (l.take j) (nm, cp, fl) = 7 := by rw [stepE, if_neg N1.out, if_pos (by rw [HW.out.2.1, HW.out.2.2]; rfl)]
            rw [H5.out.2, this]
            rfl
          · have n2 : ¬ (timeB cp && timeB fl) = false := by rw [HW.out.2.1, HW.out.2.2]; simp
            have N2 := Lib.hid n2
            clear n2
            cases wn
            · go_wp2_with (at_mapUpdate; refine wpList_mapUpdate_own _ rfl _ _ _ 72 rfl 9 3 lawS Try.underlying72 _ w.heap.size j D rfl e5 (by unfold maxLen; omega) _ _ (.string nm.data.toList) rfl rfl (str_key nm hs) (.lit (.int .i64 j)) [] (plainElem_int Try.underlying3 (WalkArith.wf_i64 (by omega))) ?_; intro w8 hown8 hgrow8)
              refine ⟨⟨j + 1, _, by omega, by go_num, hown8, Lib.hid ⟨?_, ?_⟩, H5.out.1.grown hgrow8 (by omega) (fun k e => by cases e; omega), by have := hgrow8.size; omega⟩, by simp [intOf]; omega⟩
              · have ht : l.take (j + 1) = l.take j ++ [(nm, cp, fl)] := by rw [List.take_add_one, HX.out.1]; rfl
                rw [ht]
                exact hc.out.1.put e5.isMap (nm, cp, fl) hs _
              · have h0 : stepE (l.take j) (nm, cp, fl) = 0 := by rw [stepE, if_neg N1.out, if_neg N2.out, if_neg (by simp only; rw [HX.out.2.2.2.2.1]; simp)]
                have hE := H5.out.2
                rw [checkE, if_neg h8, h0, if_pos rfl] at hE
                exact hE
            · go_wp2_with fail
              go_ret
              refine ⟨ret_int ?_, H5.out.1⟩
              have : stepE (l.take j) (nm, cp, fl) = 5 := by rw [stepE, if_neg N1.out, if_neg N2.out, if_pos HX.out.2.2.2.2.1]
              rw [H5.out.2, this]
              rfl
    · obtain rfl : j = l.length := by omega
      have hfull : checkE l = 0 := by
        rw [checkE, if_neg h8, hc.out.2, List.drop_length, checkFrom]
      have HF := Lib.hid hfull
      clear hfull
      go_wp2_with fail
      go_ret
      exact ⟨ret_int HF.out.symm, hb⟩
theorem check_lit (A : Option Addr) (cap : Nat) (l : List Cls) (w : World) (E : Int) (h : IsCls w w.heap.size A l) (hlen : l.length ≤ 1000) (hE : checkE l = E) :
    Calls Try.prog 33 #[.slice A l.length cap] w fun e w' => e = .returned (.int .i64 E) ∧ Below w.heap.size w w' := by rw [← hE]; exact check_any A cap l w h hlen
end Go.Proofs.Ytikpbhfjmlfooaa
