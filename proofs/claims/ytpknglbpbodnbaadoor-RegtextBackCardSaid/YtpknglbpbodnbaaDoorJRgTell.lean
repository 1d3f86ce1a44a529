/-
  Facts of a tree's text; the walk of the reference's tell. Conditions: the tree may be; its words fit; it has 300 nodes at most.
-/
import Derived.Test.YtpknglbpbodnbaaDoorJRgRefSetW
import Derived.Test.YtpknglbpbodnbaaDoorJRgOften2
import Derived.Test.YtpknglbpbodnbaaDoorJRgRight2
import Derived.Test.YtpknglbpbodnbaaDoorJRgSize
namespace Go.Proofs.YtpknglbpbodnbaaDoor
set_option linter.unusedVariables false
set_option linter.unusedSimpArgs false
open Go.RowKit Go.Sort Cs Rg Go.ChangeShapes Go.WideShapes

theorem signT_len (b : Nat) (some : List Nat) : (signT b some).length ≤ 4 := by
  unfold signT
  split
  · simp
  · split <;> simp
theorem runsF_len (s : Nat → Int) : ∀ (k lo : Nat), (runsF s k lo).length ≤ 9 * (256 - lo)
  | 0, lo => by simp [runsF]
  | k + 1, lo => by
    unfold runsF
    split
    · simp
    · split
      · rename_i h1 h2
        have h3 := endF_pos (n := 256 - lo) (by omega) h2
        have h4 := runT_len lo (endF s (256 - lo) lo)
        have h5 := runsF_len s k (endF s (256 - lo) lo)
        rw [List.length_append]
        omega
      · have h5 := runsF_len s k (lo + 1)
        omega
theorem setT_len (s : S4) : (setT s).length ≤ 2400 := by
  unfold setT
  split
  · simp
  · split
    · simp
    · split
      · simp
      · split
        · simp
        · split
          · have := signT_len (leastF s.f 256 0) signsP
            unfold byteT
            omega
          · have := runsF_len s.f 256 0
            simp only [List.length_cons, List.length_append, List.length_nil]
            omega
theorem oftenT_len {x y : Int} (h : timesB x y = true) : (oftenT x y).length ≤ 7 := by
  have hx : 0 ≤ x ∧ x ≤ 16 ∧ (y = -1 ∨ (1 ≤ y ∧ x ≤ y ∧ y ≤ 16)) := by
    simp only [timesB, Bool.and_eq_true, Bool.or_eq_true, decide_eq_true_eq] at h
    omega
  have h1 := numT_small (n := x) (by omega) (by omega)
  unfold oftenT
  split
  · simp
  · split
    · simp
    · split
      · simp
      · split
        · simp only [List.length_cons, List.length_append, List.length_nil]; omega
        · split
          · simp only [List.length_cons, List.length_append, List.length_nil]; omega
          · have h2 := numT_small (n := y) (by omega) (by omega)
            simp only [List.length_cons, List.length_append, List.length_nil]; omega
theorem wrapT_len (b : Bool) (t : List Nat) : (wrapT b t).length ≤ t.length + 2 := by
  unfold wrapT
  split
  · simp
  · omega
theorem barT_len (k : Int) (f : Bool) : (barT k f).length ≤ 1 := by
  unfold barT
  split <;> simp
mutual
theorem tellN_len : ∀ n : Nd, rightN n = true → (tellN n).length + 50 ≤ 2500 * sizeN n
  | .mk k s l x y => fun h => by
    rw [rightN_iff] at h
    rw [tellN, sizeN]
    split
    · have := setT_len s
      omega
    · have h1 := tellL_len k true l fun n hn => (h.1 n hn).1
      have h2 : (if k = 4 then oftenT x y else []).length ≤ 7 := by
        split
        · rename_i hk
          rcases h.2.2.2 with h3 | h3 | h3 | h3
          · omega
          · omega
          · omega
          · exact oftenT_len h3.2.2
        · simp
      rw [List.length_append]
      omega
theorem tellL_len (k : Int) : ∀ (f : Bool) (l : List Nd), (∀ n ∈ l, rightN n = true) → (tellL k f l).length ≤ 2500 * sizeL l
  | _, [] => fun _ => by simp [tellL]
  | f, n :: l => fun h => by
    have h1 := tellN_len n (h n (List.mem_cons_self ..))
    have h2 := tellL_len k false l fun m hm => h m (List.mem_cons_of_mem _ hm)
    have h3 := wrapT_len (wrapB k n) (tellN n)
    have h4 := barT_len k f
    rw [tellL, sizeL, List.length_append, List.length_append]
    omega
end
mutual
theorem nestN_le : ∀ n : Nd, nestN n ≤ sizeN n
  | .mk k s l x y => by
    rw [nestN, sizeN]
    split
    · omega
    · have := nestL_le k l
      omega
theorem nestL_le (k : Int) : ∀ l : List Nd, nestL k l ≤ sizeL l + 1
  | [] => by simp [nestL]
  | n :: l => by
    have h1 := nestN_le n
    have h2 := nestL_le k l
    have h3 : 1 ≤ sizeN n := by cases n; rw [sizeN]; omega
    rw [nestL, sizeL]
    split <;> omega
end
theorem tellL_app (k : Int) : ∀ (f : Bool) (l m : List Nd), tellL k f (l ++ m) = tellL k f l ++ tellL k (f && l.isEmpty) m
  | f, [], m => by simp [tellL]
  | f, n :: l, m => by
    rw [List.cons_append, tellL, tellL, tellL_app k false l m]
    simp
theorem nestL_app (k : Int) : ∀ (l m : List Nd), nestL k (l ++ m) = max (nestL k l) (nestL k m)
  | [], m => by simp [nestL]
  | n :: l, m => by
    rw [List.cons_append, nestL, nestL, nestL_app k l m, Nat.max_assoc]
theorem tellL_take {k : Int} {l : List Nd} {i : Nat} {m : Nd} (h : l[i]? = some m) : tellL k true (l.take (i + 1)) = tellL k true (l.take i) ++ (barT k (decide (i = 0)) ++ wrapT (wrapB k m) (tellN m)) ∧
    nestL k (l.take (i + 1)) = max (nestL k (l.take i)) (nestN m + if wrapB k m = true then 1 else 0) := by
  have hlt : i < l.length := (List.getElem?_eq_some_iff.1 h).1
  have e : l.take (i + 1) = l.take i ++ [m] := by rw [List.take_add_one, h]; rfl
  have e2 : (true && (l.take i).isEmpty) = decide (i = 0) := by
    rw [Bool.true_and]
    cases i with
    | zero => simp
    | succ i =>
      cases l with
      | nil => simp at hlt
      | cons a l => simp
  rw [e, tellL_app, nestL_app, e2]
  refine ⟨?_, ?_⟩
  · rw [tellL, tellL, List.append_nil]
  · rw [nestL, nestL]
    simp
/-- one part more -/
def addF (X T : List Nat) (b w : Bool) : ByteArray := (if b = true then bsT X ++ ⟨#[124]⟩ else bsT X) ++ (if w = true then (⟨#[40]⟩ ++ bsT T) ++ ⟨#[41]⟩ else bsT T)
theorem addF_eq (X T : List Nat) (b w : Bool) : addF X T b w = bsT (X ++ ((if b = true then [124] else []) ++ wrapT w T)) := by
  unfold addF wrapT
  rw [show (⟨#[40]⟩ : ByteArray) = bsT [40] from rfl, show (⟨#[41]⟩ : ByteArray) = bsT [41] from rfl, show (⟨#[124]⟩ : ByteArray) = bsT [124] from rfl]
  cases b <;> cases w <;> simp [bsT_app]
theorem bar_if (k : Int) (i : Nat) (b : Bool) (h : b = true ↔ k = 3 ∧ 0 < i) : barT k (decide (i = 0)) = if b = true then [124] else [] := by
  unfold barT
  by_cases e : k = 3 ∧ 0 < i
  · rw [if_pos (h.2 e), if_pos ⟨by simp; omega, e.1⟩]
  · rw [if_neg fun h2 => e (h.1 h2), if_neg]
    rintro ⟨h1, h2⟩
    simp at h1
    exact e ⟨h2, by omega⟩
theorem wrap_val {k : Int} {m : Nd} {b : Bool} (h : b = true ↔ (k = 2 ∧ m.kind = 3) ∨ (k = 4 ∧ m.kind ≠ 1)) : wrapB k m = b := by
  rw [Bool.eq_iff_iff, h]
  unfold wrapB
  simp
set_option maxHeartbeats 8000000 in
set_option maxRecDepth 1000000 in
theorem reftell_any (n : Nd) : ∀ (v : Value) (w : World), NdAt w v n → rightN n = true → InN n → sizeN n ≤ 300 → Calls Tryd.prog 26 #[v] w fun e w' => e = .returned (.tuple #[.string (bsT (tellN n)), .int .i64 (nestN n : Int)]) ∧ Below w.heap.size w w' := by
  refine Nd.ind (P := fun n => ∀ (v : Value) (w : World), NdAt w v n → rightN n = true → InN n → sizeN n ≤ 300 → Calls Tryd.prog 26 #[v] w fun e w' => e = .returned (.tuple #[.string (bsT (tellN n)), .int .i64 (nestN n : Int)]) ∧ Below w.heap.size w w') (fun k s l x y ih v w hv hr hI hn => ?_) n
  obtain ⟨a, c, rfl, hin⟩ := hv
  have hln : l.length ≤ 9223372036854775807 := by have := hin.len; unfold maxLen at this; exact this
  have hb0 := (Below.refl w.heap.size w).alloc (Nat.le_refl _) (.cells #[.int .i64 k, .int .u64 s.a, .int .u64 s.b, .int .u64 s.c, .int .u64 s.d, .slice a l.length c, .int .i64 x, .int .i64 y] 27)
  have hq := Blk.new w 27 #[.int .i64 k, .int .u64 s.a, .int .u64 s.b, .int .u64 s.c, .int .u64 s.d, .slice a l.length c, .int .i64 x, .int .i64 y]
  have hsz : sizeN (.mk k s l x y) = 1 + sizeL l := by rw [sizeN]
  rw [hsz] at hn
  have hri := rightN_iff.1 hr
  have hIl := InL_iff.1 (show InL l by rw [InN] at hI; exact hI.2)
  have hIs : SetIn s.f := by rw [InN] at hI; exact hI.1
  have hT : tellN (.mk k s l x y) = if k = 1 then setT s else tellL k true l ++ (if k = 4 then oftenT x y else []) := by rw [tellN]
  have hD : nestN (.mk k s l x y) = if k = 1 then 0 else nestL k l := by rw [nestN]
  obtain ⟨R, hR⟩ : ∃ R, bsT (tellN (.mk k s l x y)) = R := ⟨_, rfl⟩
  obtain ⟨D, hDD⟩ : ∃ D, nestN (.mk k s l x y) = D := ⟨_, rfl⟩
  rw [hR, hDD]
  rw [hDD] at hD
  have HR := Lib.hid (And.intro hR (And.intro hT hD))
  have H := Lib.hid (And.intro (hin.below hb0) (And.intro hq (And.intro hb0 (And.intro hri (And.intro hIl hIs)))))
  have IH := Lib.hid ih
  obtain ⟨⟨y0, y1, y2, y3, y4, y5, y6, y7⟩, -⟩ := hq.c8
  clear hin hb0 hq ih hsz hri hIl hIs hT hD hR hDD hr hI
  show Calls Tryd.prog 26 #[.agg #[.int .i64 k, .int .u64 s.a, .int .u64 s.b, .int .u64 s.c, .int .u64 s.d, .slice a l.length c, .int .i64 x, .int .i64 y]] w _
  go_enter Tryd.func26, Tryd.ntmps26
  by_cases hk1 : k = 1
  · have q1 : (k == 1) = true := by rw [hk1]; rfl
    have HK := Lib.hid hk1
    clear hk1
    have hst := refset14_any s.f
    rw [f_s4] at hst
    have HST := Lib.hid hst
    clear hst
    go_wp2_with fail
    refine (HST.out _ H.out.2.2.2.2.2).mono ?_
    rintro e w1 ⟨rfl, bx⟩
    have HB := Lib.hid (H.out.2.2.1.trans (bx.mono H.out.2.2.1.size))
    clear bx y0 y1 y2 y3 y4 y5 y6 y7
    obtain ⟨ts, hts⟩ : ∃ ts, bsT (setT s) = ts := ⟨_, rfl⟩
    rw [hts]
    have HTS := Lib.hid hts
    clear hts
    go_wp2_with fail
    refine bodyPost_ret (results_tmp2 rfl _ _ _) rfl ?_
    exact ⟨by
      show Ending.returned (Value.tuple #[.string ts, .int .i64 0]) = _
      rw [← HTS.out, ← HR.out.1, HR.out.2.1, if_pos HK.out, HR.out.2.2, if_pos HK.out]
      rfl, HB.out⟩
  have q1 : (k == 1) = false := by rw [beq_eq_false_iff_ne]; exact hk1
  have hT : R = bsT (tellL k true l ++ (if k = 4 then oftenT x y else [])) := by rw [← HR.out.1, HR.out.2.1, if_neg hk1]
  have hD : D = nestL k l := by rw [HR.out.2.2, if_neg hk1]
  have HK := Lib.hid (And.intro hT (And.intro hD hk1))
  clear hT hD hk1 HR
  go_wp2_with fail
  clear y0 y1 y2 y3 y4 y5 y6 y7
  generalize w.alloc (.cells #[.int .i64 k, .int .u64 s.a, .int .u64 s.b, .int .u64 s.c, .int .u64 s.d, .slice a l.length c, .int .i64 x, .int .i64 y] 27) = W at *
  go_loopw [4, 5, 6] (fun so sd si wr => ∃ i : Nat, so = .string (bsT (tellL k true (l.take i))) ∧ sd = .int .i64 (nestL k (l.take i) : Int) ∧ si = .int .i64 (i : Int) ∧ i ≤ l.length ∧ Below W.heap.size W wr) (fun _ _ si _ => l.length - (intOf si).toNat)
  case atStart => exact ⟨0, by simp [tellL]; rfl, by simp [nestL], rfl, Nat.zero_le _, Below.refl _ _⟩
  case round =>
    obtain ⟨i, rfl, rfl, rfl, hi, hbr⟩ := hrel
    have hq := H.out.2.1.below hbr H.out.2.1.lt
    obtain ⟨⟨y0, y1, y2, y3, y4, y5, y6, y7⟩, -⟩ := hq.c8
    have hin := H.out.1.below hbr
    have hsi := sizeL_le l i
    have hrl : ∀ n ∈ l, rightN n = true := fun n hn => (H.out.2.2.2.1.1 n hn).1
    have hlt1 := tellL_len k true (l.take i) fun n hn => hrl n (List.mem_of_mem_take hn)
    have hlt2 := nestL_le k (l.take i)
    have hz1 : (bsT (tellL k true (l.take i))).size ≤ 2500 * 300 := by rw [bsT_size]; omega
    have hz2 : nestL k (l.take i) ≤ 301 := by omega
    obtain ⟨ta, hta⟩ : ∃ t, bsT (tellL k true (l.take i)) = t := ⟨_, rfl⟩
    obtain ⟨dd, hdd⟩ : ∃ d, nestL k (l.take i) = d := ⟨_, rfl⟩
    rw [hta] at hz1 ⊢
    rw [hdd] at hz2 ⊢
    by_cases hil : i < l.length
    · have k1 : decide ((i : Int) < (l.length : Int)) = true := decide_eq_true (by omega)
      have k1' : decide (i < l.length) = true := decide_eq_true hil
      obtain ⟨m, hm⟩ : ∃ m, l[i]? = some m := ⟨_, List.getElem?_eq_getElem hil⟩
      have hmm := List.mem_of_getElem? hm
      obtain ⟨b, o, a', c', rfl, hblt, hl8, hin'⟩ := hin.kid (i := i) (m := m) hm
      obtain ⟨z0, z1, z2, z3, z4, z5, z6, z7⟩ := hl8.c8
      have ht := tellL_take hm (k := k)
      have hsm := sizeL_le l (i + 1)
      rw [(sizeL_take hm).1] at hsm
      have HM := Lib.hid (And.intro hm (And.intro ht (And.intro hmm (And.intro hta (And.intro hdd (And.intro hin' hbr))))))
      clear hm ht hmm hta hdd hin' hbr hlt1 hlt2 hrl hsi hin hl8 hblt
      go_wp2_with fail
      have hbk := (Below.refl wr.heap.size wr).alloc (Nat.le_refl _) (.cells #[.int .i64 m.kind, .int .u64 m.set.a, .int .u64 m.set.b, .int .u64 m.set.c, .int .u64 m.set.d, .slice a' m.kids.length c', .int .i64 m.lo, .int .i64 m.hi] 27)
      have nb := Blk.new wr 27 #[.int .i64 m.kind, .int .u64 m.set.a, .int .u64 m.set.b, .int .u64 m.set.c, .int .u64 m.set.d, .slice a' m.kids.length c', .int .i64 m.lo, .int .i64 m.hi]
      refine (IH.out m HM.out.2.2.1 _ _ ⟨a', c', rfl, HM.out.2.2.2.2.2.1.below hbk⟩ (H.out.2.2.2.1.1 m HM.out.2.2.1).1 (H.out.2.2.2.2.1 m HM.out.2.2.1) (by omega)).mono ?_
      rintro e w1 ⟨rfl, bx⟩
      have hbr1 := HM.out.2.2.2.2.2.2.trans ((hbk.trans (bx.mono hbk.size)).mono HM.out.2.2.2.2.2.2.size)
      have nb1 := nb.below bx nb.lt
      have hq1 := H.out.2.1.below hbr1 H.out.2.1.lt
      have hml := tellN_len m (H.out.2.2.2.1.1 m HM.out.2.2.1).1
      have hmd := nestN_le m
      have hz3 : (bsT (tellN m)).size ≤ 2500 * 300 := by rw [bsT_size]; omega
      obtain ⟨tm, htm⟩ : ∃ t, bsT (tellN m) = t := ⟨_, rfl⟩
      obtain ⟨dm, hdm⟩ : ∃ d, nestN m = d := ⟨_, rfl⟩
      rw [htm] at hz3 ⊢
      rw [hdm] at hmd ⊢
      have hz4 : dm ≤ 300 := by omega
      have HTM := Lib.hid (And.intro htm hdm)
      clear y0 y1 y2 y3 y4 y5 y6 y7 z0 z1 z2 z3 z4 z5 z6 z7 hq
      obtain ⟨⟨y0, y1, y2, y3, y4, y5, y6, y7⟩, -⟩ := hq1.c8
      obtain ⟨⟨z0, z1, z2, z3, z4, z5, z6, z7⟩, -⟩ := nb1.c8
      have HX := Lib.hid (And.intro hbr1 (And.intro hq1 nb1))
      have hk4 : k = 2 ∨ k = 3 ∨ k = 4 := by have := H.out.2.2.2.1.2.2.2; have := HK.out.2.2; omega
      clear htm hdm hml hmd bx hbr1 nb1 hq1 nb hbk hsm
      rcases hk4 with hk | hk | hk
      · skip
        have qa : (k == 2) = true := by rw [hk]; rfl
        have qc : (k == 4) = false := by rw [hk]; rfl
        have qe : (k == 3) = false := by rw [hk]; rfl
        have HK2 := Lib.hid hk
        clear hk
        by_cases hm3 : m.kind = 3
        · have qb : (m.kind == 3) = true := by rw [hm3]; rfl
          have HWR := Lib.hid (wrap_val (k := k) (m := m) (b := true) (by have := HK2.out; simp; omega))
          clear hm3
          by_cases hdm : dd ≤ dm
          · have d1 : decide ((dd : Int) < (dm : Int) + 1) = true := decide_eq_true (by omega)
            have d1' : decide (dd < dm + 1) = true := decide_eq_true (by omega)
            have d1'' : decide (dd ≤ dm) = true := decide_eq_true (by omega)
            have d13 : decide ((dd : Int) ≤ (dm : Int)) = true := decide_eq_true (by omega)
            by_cases hdn : dd < dm
            · have d2 : decide ((dd : Int) < (dm : Int)) = true := decide_eq_true (by omega)
              have d2' : decide (dd < dm) = true := decide_eq_true (by omega)
              go_wp2_with fail
              all_goals
                go_roundw
                case rel =>
                  refine ⟨i + 1, ?_, ?_, by go_num, hil, HX.out.1⟩
                  · rw [HM.out.2.1.1, bar_if k i false (by have := HK2.out; simp; omega), HWR.out, ← addF_eq, ← HM.out.2.2.2.1, ← HTM.out.1]
                    rfl
                  · rw [HM.out.2.1.2, HM.out.2.2.2.2.1, HWR.out, HTM.out.2]
                    first
                      | (rw [if_pos rfl]; first | (rw [Nat.max_eq_right (by omega)]; go_num) | (rw [Nat.max_eq_left (by omega)]))
                      | (rw [if_neg (by decide)]; first | (rw [Nat.max_eq_right (by omega)]; rfl) | (rw [Nat.max_eq_left (by omega)]))
                case measure => simp [intOf]; omega
            · have d2 : decide ((dd : Int) < (dm : Int)) = false := decide_eq_false (by omega)
              have d2' : decide (dd < dm) = false := decide_eq_false (by omega)
              go_wp2_with fail
              all_goals
                go_roundw
                case rel =>
                  refine ⟨i + 1, ?_, ?_, by go_num, hil, HX.out.1⟩
                  · rw [HM.out.2.1.1, bar_if k i false (by have := HK2.out; simp; omega), HWR.out, ← addF_eq, ← HM.out.2.2.2.1, ← HTM.out.1]
                    rfl
                  · rw [HM.out.2.1.2, HM.out.2.2.2.2.1, HWR.out, HTM.out.2]
                    first
                      | (rw [if_pos rfl]; first | (rw [Nat.max_eq_right (by omega)]; go_num) | (rw [Nat.max_eq_left (by omega)]))
                      | (rw [if_neg (by decide)]; first | (rw [Nat.max_eq_right (by omega)]; rfl) | (rw [Nat.max_eq_left (by omega)]))
                case measure => simp [intOf]; omega
          · have d1 : decide ((dd : Int) < (dm : Int) + 1) = false := decide_eq_false (by omega)
            have d1' : decide (dd < dm + 1) = false := decide_eq_false (by omega)
            have d1'' : decide (dd ≤ dm) = false := decide_eq_false (by omega)
            have d13 : decide ((dd : Int) ≤ (dm : Int)) = false := decide_eq_false (by omega)
            have d2 : decide ((dd : Int) < (dm : Int)) = false := decide_eq_false (by omega)
            have d2' : decide (dd < dm) = false := decide_eq_false (by omega)
            go_wp2_with fail
            all_goals
              go_roundw
              case rel =>
                refine ⟨i + 1, ?_, ?_, by go_num, hil, HX.out.1⟩
                · rw [HM.out.2.1.1, bar_if k i false (by have := HK2.out; simp; omega), HWR.out, ← addF_eq, ← HM.out.2.2.2.1, ← HTM.out.1]
                  rfl
                · rw [HM.out.2.1.2, HM.out.2.2.2.2.1, HWR.out, HTM.out.2]
                  first
                    | (rw [if_pos rfl]; first | (rw [Nat.max_eq_right (by omega)]; go_num) | (rw [Nat.max_eq_left (by omega)]))
                    | (rw [if_neg (by decide)]; first | (rw [Nat.max_eq_right (by omega)]; rfl) | (rw [Nat.max_eq_left (by omega)]))
              case measure => simp [intOf]; omega
        · have qb : (m.kind == 3) = false := by rw [beq_eq_false_iff_ne]; exact hm3
          have HWR := Lib.hid (wrap_val (k := k) (m := m) (b := false) (by have := HK2.out; simp; omega))
          clear hm3
          by_cases hdm : dd ≤ dm
          · have d1 : decide ((dd : Int) < (dm : Int) + 1) = true := decide_eq_true (by omega)
            have d1' : decide (dd < dm + 1) = true := decide_eq_true (by omega)
            have d1'' : decide (dd ≤ dm) = true := decide_eq_true (by omega)
            have d13 : decide ((dd : Int) ≤ (dm : Int)) = true := decide_eq_true (by omega)
            by_cases hdn : dd < dm
            · have d2 : decide ((dd : Int) < (dm : Int)) = true := decide_eq_true (by omega)
              have d2' : decide (dd < dm) = true := decide_eq_true (by omega)
              go_wp2_with fail
              all_goals
                go_roundw
                case rel =>
                  refine ⟨i + 1, ?_, ?_, by go_num, hil, HX.out.1⟩
                  · rw [HM.out.2.1.1, bar_if k i false (by have := HK2.out; simp; omega), HWR.out, ← addF_eq, ← HM.out.2.2.2.1, ← HTM.out.1]
                    rfl
                  · rw [HM.out.2.1.2, HM.out.2.2.2.2.1, HWR.out, HTM.out.2]
                    first
                      | (rw [if_pos rfl]; first | (rw [Nat.max_eq_right (by omega)]; go_num) | (rw [Nat.max_eq_left (by omega)]))
                      | (rw [if_neg (by decide)]; first | (rw [Nat.max_eq_right (by omega)]; rfl) | (rw [Nat.max_eq_left (by omega)]))
                case measure => simp [intOf]; omega
            · have d2 : decide ((dd : Int) < (dm : Int)) = false := decide_eq_false (by omega)
              have d2' : decide (dd < dm) = false := decide_eq_false (by omega)
              go_wp2_with fail
              all_goals
                go_roundw
                case rel =>
                  refine ⟨i + 1, ?_, ?_, by go_num, hil, HX.out.1⟩
                  · rw [HM.out.2.1.1, bar_if k i false (by have := HK2.out; simp; omega), HWR.out, ← addF_eq, ← HM.out.2.2.2.1, ← HTM.out.1]
                    rfl
                  · rw [HM.out.2.1.2, HM.out.2.2.2.2.1, HWR.out, HTM.out.2]
                    first
                      | (rw [if_pos rfl]; first | (rw [Nat.max_eq_right (by omega)]; go_num) | (rw [Nat.max_eq_left (by omega)]))
                      | (rw [if_neg (by decide)]; first | (rw [Nat.max_eq_right (by omega)]; rfl) | (rw [Nat.max_eq_left (by omega)]))
                case measure => simp [intOf]; omega
          · have d1 : decide ((dd : Int) < (dm : Int) + 1) = false := decide_eq_false (by omega)
            have d1' : decide (dd < dm + 1) = false := decide_eq_false (by omega)
            have d1'' : decide (dd ≤ dm) = false := decide_eq_false (by omega)
            have d13 : decide ((dd : Int) ≤ (dm : Int)) = false := decide_eq_false (by omega)
            have d2 : decide ((dd : Int) < (dm : Int)) = false := decide_eq_false (by omega)
            have d2' : decide (dd < dm) = false := decide_eq_false (by omega)
            go_wp2_with fail
            all_goals
              go_roundw
              case rel =>
                refine ⟨i + 1, ?_, ?_, by go_num, hil, HX.out.1⟩
                · rw [HM.out.2.1.1, bar_if k i false (by have := HK2.out; simp; omega), HWR.out, ← addF_eq, ← HM.out.2.2.2.1, ← HTM.out.1]
                  rfl
                · rw [HM.out.2.1.2, HM.out.2.2.2.2.1, HWR.out, HTM.out.2]
                  first
                    | (rw [if_pos rfl]; first | (rw [Nat.max_eq_right (by omega)]; go_num) | (rw [Nat.max_eq_left (by omega)]))
                    | (rw [if_neg (by decide)]; first | (rw [Nat.max_eq_right (by omega)]; rfl) | (rw [Nat.max_eq_left (by omega)]))
              case measure => simp [intOf]; omega
      · skip
        have qa : (k == 2) = false := by rw [hk]; rfl
        have qc : (k == 4) = false := by rw [hk]; rfl
        have qe : (k == 3) = true := by rw [hk]; rfl
        have HK2 := Lib.hid hk
        clear hk
        have HWR := Lib.hid (wrap_val (k := k) (m := m) (b := false) (by have := HK2.out; simp; omega))
        by_cases hi0 : 0 < i
        · have qi : decide ((0 : Int) < (i : Int)) = true := decide_eq_true (by omega)
          have qi' : decide (0 < i) = true := decide_eq_true (by omega)
          by_cases hdm : dd ≤ dm
          · have d1 : decide ((dd : Int) < (dm : Int) + 1) = true := decide_eq_true (by omega)
            have d1' : decide (dd < dm + 1) = true := decide_eq_true (by omega)
            have d1'' : decide (dd ≤ dm) = true := decide_eq_true (by omega)
            have d13 : decide ((dd : Int) ≤ (dm : Int)) = true := decide_eq_true (by omega)
            by_cases hdn : dd < dm
            · have d2 : decide ((dd : Int) < (dm : Int)) = true := decide_eq_true (by omega)
              have d2' : decide (dd < dm) = true := decide_eq_true (by omega)
              go_wp2_with fail
              all_goals
                go_roundw
                case rel =>
                  refine ⟨i + 1, ?_, ?_, by go_num, hil, HX.out.1⟩
                  · rw [HM.out.2.1.1, bar_if k i true (by have := HK2.out; simp; omega), HWR.out, ← addF_eq, ← HM.out.2.2.2.1, ← HTM.out.1]
                    rfl
                  · rw [HM.out.2.1.2, HM.out.2.2.2.2.1, HWR.out, HTM.out.2]
                    first
                      | (rw [if_pos rfl]; first | (rw [Nat.max_eq_right (by omega)]; go_num) | (rw [Nat.max_eq_left (by omega)]))
                      | (rw [if_neg (by decide)]; first | (rw [Nat.max_eq_right (by omega)]; rfl) | (rw [Nat.max_eq_left (by omega)]))
                case measure => simp [intOf]; omega
            · have d2 : decide ((dd : Int) < (dm : Int)) = false := decide_eq_false (by omega)
              have d2' : decide (dd < dm) = false := decide_eq_false (by omega)
              go_wp2_with fail
              all_goals
                go_roundw
                case rel =>
                  refine ⟨i + 1, ?_, ?_, by go_num, hil, HX.out.1⟩
                  · rw [HM.out.2.1.1, bar_if k i true (by have := HK2.out; simp; omega), HWR.out, ← addF_eq, ← HM.out.2.2.2.1, ← HTM.out.1]
                    rfl
                  · rw [HM.out.2.1.2, HM.out.2.2.2.2.1, HWR.out, HTM.out.2]
                    first
                      | (rw [if_pos rfl]; first | (rw [Nat.max_eq_right (by omega)]; go_num) | (rw [Nat.max_eq_left (by omega)]))
                      | (rw [if_neg (by decide)]; first | (rw [Nat.max_eq_right (by omega)]; rfl) | (rw [Nat.max_eq_left (by omega)]))
                case measure => simp [intOf]; omega
          · have d1 : decide ((dd : Int) < (dm : Int) + 1) = false := decide_eq_false (by omega)
            have d1' : decide (dd < dm + 1) = false := decide_eq_false (by omega)
            have d1'' : decide (dd ≤ dm) = false := decide_eq_false (by omega)
            have d13 : decide ((dd : Int) ≤ (dm : Int)) = false := decide_eq_false (by omega)
            have d2 : decide ((dd : Int) < (dm : Int)) = false := decide_eq_false (by omega)
            have d2' : decide (dd < dm) = false := decide_eq_false (by omega)
            go_wp2_with fail
            all_goals
              go_roundw
              case rel =>
                refine ⟨i + 1, ?_, ?_, by go_num, hil, HX.out.1⟩
                · rw [HM.out.2.1.1, bar_if k i true (by have := HK2.out; simp; omega), HWR.out, ← addF_eq, ← HM.out.2.2.2.1, ← HTM.out.1]
                  rfl
                · rw [HM.out.2.1.2, HM.out.2.2.2.2.1, HWR.out, HTM.out.2]
                  first
                    | (rw [if_pos rfl]; first | (rw [Nat.max_eq_right (by omega)]; go_num) | (rw [Nat.max_eq_left (by omega)]))
                    | (rw [if_neg (by decide)]; first | (rw [Nat.max_eq_right (by omega)]; rfl) | (rw [Nat.max_eq_left (by omega)]))
              case measure => simp [intOf]; omega
        · have qi : decide ((0 : Int) < (i : Int)) = false := decide_eq_false (by omega)
          have qi' : decide (0 < i) = false := decide_eq_false (by omega)
          by_cases hdm : dd ≤ dm
          · have d1 : decide ((dd : Int) < (dm : Int) + 1) = true := decide_eq_true (by omega)
            have d1' : decide (dd < dm + 1) = true := decide_eq_true (by omega)
            have d1'' : decide (dd ≤ dm) = true := decide_eq_true (by omega)
            have d13 : decide ((dd : Int) ≤ (dm : Int)) = true := decide_eq_true (by omega)
            by_cases hdn : dd < dm
            · have d2 : decide ((dd : Int) < (dm : Int)) = true := decide_eq_true (by omega)
              have d2' : decide (dd < dm) = true := decide_eq_true (by omega)
              go_wp2_with fail
              all_goals
                go_roundw
                case rel =>
                  refine ⟨i + 1, ?_, ?_, by go_num, hil, HX.out.1⟩
                  · rw [HM.out.2.1.1, bar_if k i false (by have := HK2.out; simp; omega), HWR.out, ← addF_eq, ← HM.out.2.2.2.1, ← HTM.out.1]
                    rfl
                  · rw [HM.out.2.1.2, HM.out.2.2.2.2.1, HWR.out, HTM.out.2]
                    first
                      | (rw [if_pos rfl]; first | (rw [Nat.max_eq_right (by omega)]; go_num) | (rw [Nat.max_eq_left (by omega)]))
                      | (rw [if_neg (by decide)]; first | (rw [Nat.max_eq_right (by omega)]; rfl) | (rw [Nat.max_eq_left (by omega)]))
                case measure => simp [intOf]; omega
            · have d2 : decide ((dd : Int) < (dm : Int)) = false := decide_eq_false (by omega)
              have d2' : decide (dd < dm) = false := decide_eq_false (by omega)
              go_wp2_with fail
              all_goals
                go_roundw
                case rel =>
                  refine ⟨i + 1, ?_, ?_, by go_num, hil, HX.out.1⟩
                  · rw [HM.out.2.1.1, bar_if k i false (by have := HK2.out; simp; omega), HWR.out, ← addF_eq, ← HM.out.2.2.2.1, ← HTM.out.1]
                    rfl
                  · rw [HM.out.2.1.2, HM.out.2.2.2.2.1, HWR.out, HTM.out.2]
                    first
                      | (rw [if_pos rfl]; first | (rw [Nat.max_eq_right (by omega)]; go_num) | (rw [Nat.max_eq_left (by omega)]))
                      | (rw [if_neg (by decide)]; first | (rw [Nat.max_eq_right (by omega)]; rfl) | (rw [Nat.max_eq_left (by omega)]))
                case measure => simp [intOf]; omega
          · have d1 : decide ((dd : Int) < (dm : Int) + 1) = false := decide_eq_false (by omega)
            have d1' : decide (dd < dm + 1) = false := decide_eq_false (by omega)
            have d1'' : decide (dd ≤ dm) = false := decide_eq_false (by omega)
            have d13 : decide ((dd : Int) ≤ (dm : Int)) = false := decide_eq_false (by omega)
            have d2 : decide ((dd : Int) < (dm : Int)) = false := decide_eq_false (by omega)
            have d2' : decide (dd < dm) = false := decide_eq_false (by omega)
            go_wp2_with fail
            all_goals
              go_roundw
              case rel =>
                refine ⟨i + 1, ?_, ?_, by go_num, hil, HX.out.1⟩
                · rw [HM.out.2.1.1, bar_if k i false (by have := HK2.out; simp; omega), HWR.out, ← addF_eq, ← HM.out.2.2.2.1, ← HTM.out.1]
                  rfl
                · rw [HM.out.2.1.2, HM.out.2.2.2.2.1, HWR.out, HTM.out.2]
                  first
                    | (rw [if_pos rfl]; first | (rw [Nat.max_eq_right (by omega)]; go_num) | (rw [Nat.max_eq_left (by omega)]))
                    | (rw [if_neg (by decide)]; first | (rw [Nat.max_eq_right (by omega)]; rfl) | (rw [Nat.max_eq_left (by omega)]))
              case measure => simp [intOf]; omega
      · skip
        have qa : (k == 2) = false := by rw [hk]; rfl
        have qc : (k == 4) = true := by rw [hk]; rfl
        have qe : (k == 3) = false := by rw [hk]; rfl
        have HK2 := Lib.hid hk
        clear hk
        by_cases hm1 : m.kind = 1
        · have qd : (m.kind != 1) = false := by rw [hm1]; rfl
          have qd' : (m.kind == 1) = true := by rw [hm1]; rfl
          have HWR := Lib.hid (wrap_val (k := k) (m := m) (b := false) (by have := HK2.out; simp; omega))
          clear hm1
          by_cases hdm : dd ≤ dm
          · have d1 : decide ((dd : Int) < (dm : Int) + 1) = true := decide_eq_true (by omega)
            have d1' : decide (dd < dm + 1) = true := decide_eq_true (by omega)
            have d1'' : decide (dd ≤ dm) = true := decide_eq_true (by omega)
            have d13 : decide ((dd : Int) ≤ (dm : Int)) = true := decide_eq_true (by omega)
            by_cases hdn : dd < dm
            · have d2 : decide ((dd : Int) < (dm : Int)) = true := decide_eq_true (by omega)
              have d2' : decide (dd < dm) = true := decide_eq_true (by omega)
              go_wp2_with fail
              all_goals
                go_roundw
                case rel =>
                  refine ⟨i + 1, ?_, ?_, by go_num, hil, HX.out.1⟩
                  · rw [HM.out.2.1.1, bar_if k i false (by have := HK2.out; simp; omega), HWR.out, ← addF_eq, ← HM.out.2.2.2.1, ← HTM.out.1]
                    rfl
                  · rw [HM.out.2.1.2, HM.out.2.2.2.2.1, HWR.out, HTM.out.2]
                    first
                      | (rw [if_pos rfl]; first | (rw [Nat.max_eq_right (by omega)]; go_num) | (rw [Nat.max_eq_left (by omega)]))
                      | (rw [if_neg (by decide)]; first | (rw [Nat.max_eq_right (by omega)]; rfl) | (rw [Nat.max_eq_left (by omega)]))
                case measure => simp [intOf]; omega
            · have d2 : decide ((dd : Int) < (dm : Int)) = false := decide_eq_false (by omega)
              have d2' : decide (dd < dm) = false := decide_eq_false (by omega)
              go_wp2_with fail
              all_goals
                go_roundw
                case rel =>
                  refine ⟨i + 1, ?_, ?_, by go_num, hil, HX.out.1⟩
                  · rw [HM.out.2.1.1, bar_if k i false (by have := HK2.out; simp; omega), HWR.out, ← addF_eq, ← HM.out.2.2.2.1, ← HTM.out.1]
                    rfl
                  · rw [HM.out.2.1.2, HM.out.2.2.2.2.1, HWR.out, HTM.out.2]
                    first
                      | (rw [if_pos rfl]; first | (rw [Nat.max_eq_right (by omega)]; go_num) | (rw [Nat.max_eq_left (by omega)]))
                      | (rw [if_neg (by decide)]; first | (rw [Nat.max_eq_right (by omega)]; rfl) | (rw [Nat.max_eq_left (by omega)]))
                case measure => simp [intOf]; omega
          · have d1 : decide ((dd : Int) < (dm : Int) + 1) = false := decide_eq_false (by omega)
            have d1' : decide (dd < dm + 1) = false := decide_eq_false (by omega)
            have d1'' : decide (dd ≤ dm) = false := decide_eq_false (by omega)
            have d13 : decide ((dd : Int) ≤ (dm : Int)) = false := decide_eq_false (by omega)
            have d2 : decide ((dd : Int) < (dm : Int)) = false := decide_eq_false (by omega)
            have d2' : decide (dd < dm) = false := decide_eq_false (by omega)
            go_wp2_with fail
            all_goals
              go_roundw
              case rel =>
                refine ⟨i + 1, ?_, ?_, by go_num, hil, HX.out.1⟩
                · rw [HM.out.2.1.1, bar_if k i false (by have := HK2.out; simp; omega), HWR.out, ← addF_eq, ← HM.out.2.2.2.1, ← HTM.out.1]
                  rfl
                · rw [HM.out.2.1.2, HM.out.2.2.2.2.1, HWR.out, HTM.out.2]
                  first
                    | (rw [if_pos rfl]; first | (rw [Nat.max_eq_right (by omega)]; go_num) | (rw [Nat.max_eq_left (by omega)]))
                    | (rw [if_neg (by decide)]; first | (rw [Nat.max_eq_right (by omega)]; rfl) | (rw [Nat.max_eq_left (by omega)]))
              case measure => simp [intOf]; omega
        · have qd : (m.kind != 1) = true := by rw [bne_iff_ne]; exact hm1
          have qd' : (m.kind == 1) = false := by rw [beq_eq_false_iff_ne]; exact hm1
          have HWR := Lib.hid (wrap_val (k := k) (m := m) (b := true) (by have := HK2.out; simp; omega))
          clear hm1
          by_cases hdm : dd ≤ dm
          · have d1 : decide ((dd : Int) < (dm : Int) + 1) = true := decide_eq_true (by omega)
            have d1' : decide (dd < dm + 1) = true := decide_eq_true (by omega)
            have d1'' : decide (dd ≤ dm) = true := decide_eq_true (by omega)
            have d13 : decide ((dd : Int) ≤ (dm : Int)) = true := decide_eq_true (by omega)
            by_cases hdn : dd < dm
            · have d2 : decide ((dd : Int) < (dm : Int)) = true := decide_eq_true (by omega)
              have d2' : decide (dd < dm) = true := decide_eq_true (by omega)
              go_wp2_with fail
              all_goals
                go_roundw
                case rel =>
                  refine ⟨i + 1, ?_, ?_, by go_num, hil, HX.out.1⟩
                  · rw [HM.out.2.1.1, bar_if k i false (by have := HK2.out; simp; omega), HWR.out, ← addF_eq, ← HM.out.2.2.2.1, ← HTM.out.1]
                    rfl
                  · rw [HM.out.2.1.2, HM.out.2.2.2.2.1, HWR.out, HTM.out.2]
                    first
                      | (rw [if_pos rfl]; first | (rw [Nat.max_eq_right (by omega)]; go_num) | (rw [Nat.max_eq_left (by omega)]))
                      | (rw [if_neg (by decide)]; first | (rw [Nat.max_eq_right (by omega)]; rfl) | (rw [Nat.max_eq_left (by omega)]))
                case measure => simp [intOf]; omega
            · have d2 : decide ((dd : Int) < (dm : Int)) = false := decide_eq_false (by omega)
              have d2' : decide (dd < dm) = false := decide_eq_false (by omega)
              go_wp2_with fail
              all_goals
                go_roundw
                case rel =>
                  refine ⟨i + 1, ?_, ?_, by go_num, hil, HX.out.1⟩
                  · rw [HM.out.2.1.1, bar_if k i false (by have := HK2.out; simp; omega), HWR.out, ← addF_eq, ← HM.out.2.2.2.1, ← HTM.out.1]
                    rfl
                  · rw [HM.out.2.1.2, HM.out.2.2.2.2.1, HWR.out, HTM.out.2]
                    first
                      | (rw [if_pos rfl]; first | (rw [Nat.max_eq_right (by omega)]; go_num) | (rw [Nat.max_eq_left (by omega)]))
                      | (rw [if_neg (by decide)]; first | (rw [Nat.max_eq_right (by omega)]; rfl) | (rw [Nat.max_eq_left (by omega)]))
                case measure => simp [intOf]; omega
          · have d1 : decide ((dd : Int) < (dm : Int) + 1) = false := decide_eq_false (by omega)
            have d1' : decide (dd < dm + 1) = false := decide_eq_false (by omega)
            have d1'' : decide (dd ≤ dm) = false := decide_eq_false (by omega)
            have d13 : decide ((dd : Int) ≤ (dm : Int)) = false := decide_eq_false (by omega)
            have d2 : decide ((dd : Int) < (dm : Int)) = false := decide_eq_false (by omega)
            have d2' : decide (dd < dm) = false := decide_eq_false (by omega)
            go_wp2_with fail
            all_goals
              go_roundw
              case rel =>
                refine ⟨i + 1, ?_, ?_, by go_num, hil, HX.out.1⟩
                · rw [HM.out.2.1.1, bar_if k i false (by have := HK2.out; simp; omega), HWR.out, ← addF_eq, ← HM.out.2.2.2.1, ← HTM.out.1]
                  rfl
                · rw [HM.out.2.1.2, HM.out.2.2.2.2.1, HWR.out, HTM.out.2]
                  first
                    | (rw [if_pos rfl]; first | (rw [Nat.max_eq_right (by omega)]; go_num) | (rw [Nat.max_eq_left (by omega)]))
                    | (rw [if_neg (by decide)]; first | (rw [Nat.max_eq_right (by omega)]; rfl) | (rw [Nat.max_eq_left (by omega)]))
              case measure => simp [intOf]; omega
    · have k1 : decide ((i : Int) < (l.length : Int)) = false := decide_eq_false (by omega)
      have k1' : decide (i < l.length) = false := decide_eq_false hil
      have e : l.take i = l := List.take_of_length_le (by omega)
      rw [e] at hta hdd
      have HE := Lib.hid (And.intro hta (And.intro hdd hbr))
      clear hta hdd e hin hlt1 hlt2 hsi hrl
      by_cases hk : k = 4
      · have qc : (k == 4) = true := by rw [hk]; rfl
        have htb : timesB x y = true := by
          rcases H.out.2.2.2.1.2.2.2 with h | h | h | h
          · omega
          · omega
          · omega
          · exact h.2.2
        have hol := oftenT_len htb
        have HK2 := Lib.hid hk
        have HTB := Lib.hid htb
        clear hk htb
        go_wp2_with fail
        refine (refoften_any x y _ HTB.out).mono ?_
        rintro e w1 ⟨rfl, bx⟩
        have HB := Lib.hid (H.out.2.2.1.trans ((HE.out.2.2.trans (bx.mono HE.out.2.2.size)).mono H.out.2.2.1.size))
        clear bx y0 y1 y2 y3 y4 y5 y6 y7 hq hbr
        obtain ⟨ts, hts⟩ : ∃ ts, bsT (oftenT x y) = ts := ⟨_, rfl⟩
        have hz9 : ts.size ≤ 7 := by rw [← hts, bsT_size]; exact hol
        rw [hts]
        have HTS := Lib.hid hts
        clear hts hol
        go_wp2_with fail
        refine bodyPost_ret (results_tmp2 rfl _ _ _) rfl ?_
        exact ⟨by
          show Ending.returned (Value.tuple #[.string (ta ++ ts), .int .i64 (dd : Int)]) = _
          rw [HK.out.1, if_pos HK2.out, HK.out.2.1, ← HE.out.1, ← HE.out.2.1, ← HTS.out, bsT_app], HB.out⟩
      · have qc : (k == 4) = false := by rw [beq_eq_false_iff_ne]; exact hk
        have HK2 := Lib.hid hk
        clear hk
        go_wp2_with fail
        refine bodyPost_ret (results_tmp2 rfl _ _ _) rfl ?_
        exact ⟨by
          show Ending.returned (Value.tuple #[.string ta, .int .i64 (dd : Int)]) = _
          rw [HK.out.1, if_neg HK2.out, List.append_nil, HK.out.2.1, HE.out.1, HE.out.2.1], H.out.2.2.1.trans (HE.out.2.2.mono H.out.2.2.1.size)⟩
end Go.Proofs.YtpknglbpbodnbaaDoor
