/- BagTerm: the program's, whose tree is its own. -/
import Derived.Test.YtfnkobcmhbdcoaaLawNum
import Derived.Test.YtfnkobcmhbdcoaaXBag1
namespace Go.Proofs.Ytfnkobcmhbdcoaa.BagT
open Go.RowKit Go.Proofs.YtfnkobcmhbdcoaaW.PrintWords Go.Proofs.YtfnkobcmhbdcoaaW.PrintLast Go.Proofs.Ytfnkobcmhbdcoaa.Base Go.Proofs.Ytfnkobcmhbdcoaa.XTypes Go.Proofs.Ytfnkobcmhbdcoaa.XInts Go.Proofs.Ytfnkobcmhbdcoaa.PureInts Go.Proofs.Ytfnkobcmhbdcoaa.Typed Go.Proofs.Ytfnkobcmhbdcoaa.Trees Go.Proofs.Ytfnkobcmhbdcoaa.XTm Go.Proofs.Ytfnkobcmhbdcoaa.XBag Go.Proofs.Ytfnkobcmhbdcoaa.EqT Go.Proofs.Ytfnkobcmhbdcoaa.MarkT Go.Proofs.Ytfnkobcmhbdcoaa.HeldT Go.Proofs.Ytfnkobcmhbdcoaa.NumT Go.Proofs.Ytfnkobcmhbdcoaa.LawNum
set_option linter.unusedVariables false
set_option linter.unusedSimpArgs false
set_option linter.unnecessarySimpa false

/-! ### rows of constants -/
def leaf (o : Int) : T := ⟨o, ⟨#[]⟩, 0, []⟩
def leafC (o : Int) : List Value := [.int .i64 o, .string ⟨#[]⟩, .int .i64 0, .slice none 0 0]
/-- A row of constants of one's own. -/
def OwF (base : Nat) (w : World) (v : Value) (os : List Int) : Prop := Kd.R (Kd.raw 4) 35 w base (fun k => some k = v.ownBlock) v (os.map leafC)
theorem OwF.of {base : Nat} {w : World} {ok : Nat → Prop} {v : Value} {os : List Int} (h : Kd.R (Kd.raw 4) 35 w base ok v (os.map leafC)) : OwF base w v os := Kd.raw_tight h
theorem OwC_leaves (w : World) (os : List Int) : OwC w (os.map leaf) (os.flatMap leafC) [] := by
  induction os with
  | nil => exact OwC_nil.2 ⟨rfl, rfl⟩
  | cons o os ih => exact OwC_cons.2 ⟨leafC o, os.flatMap leafC, [], [], rfl, rfl, OwT_iff.2 ⟨_, rfl, OwL.nil w⟩, ih, fun k hk => by cases hk⟩
theorem flat_of {os : List Int} {inner : List Value} (h : Reps (fun x cs => cs = x ∧ cs.length = 4 ∧ ∀ u ∈ cs, u.oneCell' = true) 4 (os.map leafC) inner) : inner = os.flatMap leafC := by
  induction os generalizing inner with
  | nil =>
    have := h.1
    simp at this
    simp [this]
  | cons o os ih =>
    have h0 := (h.2 0 (leafC o) rfl).1
    have hl := h.1
    simp only [List.map_cons, List.length_cons, List.length_map] at hl
    have h1 : inner.drop 4 = os.flatMap leafC := by
      refine ih ⟨by simp [hl]; omega, fun j p hj => ?_⟩
      have := h.2 (j + 1) p (by simpa using hj)
      rw [List.drop_drop]
      have e : 4 + j * 4 = (j + 1) * 4 := by omega
      rw [e]
      exact this
    have h2 : inner.take 4 = leafC o := by simpa using h0
    rw [← List.take_append_drop 4 inner, h1, h2]
    rfl
theorem OwF.owl {base : Nat} {w : World} {v : Value} {os : List Int} (h : OwF base w v os) : ∃ S, OwL w v (os.map leaf) S ∧ ∀ k ∈ S, base ≤ k := by
  obtain ⟨_, inner, ho, hr⟩ := h
  have e := flat_of hr
  rw [e] at ho
  have hl : (os.map leafC).length = (os.map leaf).length := by simp
  rw [hl] at ho
  rcases ho.2 with ⟨rfl, hn⟩ | ⟨g, cap, cur, rfl, hb, hh, hc, hm, hs, ht⟩
  · refine ⟨[], ?_, fun k hk => by cases hk⟩
    exact .inl ⟨rfl, hn, rfl⟩
  · refine ⟨[g], .inr ⟨g, cap, cur, [], rfl, hc, hm, hh, hs, ?_, rfl, by simp⟩, fun k hk => by simp at hk; omega⟩
    have ht' : cur.toList.take ((os.map leaf).length * 4) = os.flatMap leafC := ht
    rw [ht']
    exact OwC_leaves w os
theorem OwF.slice {base : Nat} {w : World} {v : Value} {os : List Int} (h : OwF base w v os) : ∃ A c, v = .slice A os.length c := by
  obtain ⟨S, ho, _⟩ := h.owl
  obtain ⟨A, c, e, _⟩ := ho.rd
  exact ⟨A, c, by simpa using e⟩
theorem OwF.below {base : Nat} {w w' : World} {v : Value} {os : List Int} (h : OwF base w v os) (hb : Below w.heap.size w w') : OwF base w' v os := Kd.R_step h (fun k _ hk => hb.block k hk)

theorem OwF.head {base : Nat} {w : World} {v : Value} {o : Int} {os : List Int} (h : OwF base w v (o :: os)) : ∃ g cap, v = .slice (some ⟨g, 0, none⟩) (os.length + 1) cap ∧
    w.cell? ⟨g, 0, none⟩ = some (.int .i64 o) ∧ w.cell? ⟨g, 1, none⟩ = some (.string ⟨#[]⟩) ∧ w.cell? ⟨g, 2, none⟩ = some (.int .i64 0) ∧ w.cell? ⟨g, 3, none⟩ = some (.slice none 0 0) := by
  obtain ⟨_, inner, ho, hr⟩ := h
  have e := flat_of hr
  rw [e] at ho
  rcases ho.2 with ⟨rfl, hn⟩ | ⟨g, cap, cur, rfl, hb, hh, hc, hm, hs, ht⟩
  · simp at hn
  · have hget : ∀ (i : Nat) u, i < 4 → (leafC o)[i]? = some u → cur[i]? = some u := by
      intro i u hi hu
      have h1 : (cur.toList.take ((List.map leafC (o :: os)).length * 4))[i]? = some u := by
        have : cur.toList.take ((List.map leafC (o :: os)).length * 4) = (o :: os).flatMap leafC := ht
        rw [this, List.flatMap_cons, List.getElem?_append_left (by simpa [leafC] using hi)]
        exact hu
      rw [List.getElem?_take] at h1
      split at h1
      · simpa using h1
      · cases h1
    refine ⟨g, cap, by simp, ?_, ?_, ?_, ?_⟩
    all_goals simp only [World.cell?, hh]
    · exact hget 0 _ (by omega) rfl
    · exact hget 1 _ (by omega) rfl
    · exact hget 2 _ (by omega) rfl
    · exact hget 3 _ (by omega) rfl
theorem leaf_cells (o : Int) : ∀ u ∈ ([.int .i64 o, .string ⟨#[]⟩, .int .i64 0, .slice none 0 0] : List Value), u.oneCell' = true := by
  intro u hu
  simp at hu
  rcases hu with rfl | rfl | rfl | rfl <;> rfl
theorem OwF.snoc {base : Nat} {w : World} {ok : Nat → Prop} {v : Value} {os : List Int} {o : Int} (h : Kd.R (Kd.raw 4) 35 w base ok v (os.map leafC ++ [[.int .i64 o, .string ⟨#[]⟩, .int .i64 0, .slice none 0 0]])) : OwF base w v (os ++ [o]) := by
  refine OwF.of (ok := ok) ?_
  rw [List.map_append]
  exact h
/-! ### joined -/
def joinO (os : List Int) : Int := match os with | [] => 0 | [o] => o | _ => 4
def joinA (os : List Int) : List T := match os with | [] => [] | [_] => [] | os => os.map leaf
set_option maxHeartbeats 1000000 in
set_option maxRecDepth 100000 in
theorem impl_joined (os : List Int) (v : Value) (base : Nat) (w : World) (h : OwF base w v os) :
    Calls Try.prog 67 #[.int .i64 4, v] w fun e w' => ∃ va S, e = .returned (.agg #[.int .i64 (joinO os), .string ⟨#[]⟩, .int .i64 0, va]) ∧ OwL w' va (joinA os) S ∧ (∀ k ∈ S, base ≤ k) ∧ Below w.heap.size w w' := by
  obtain ⟨S, ho, hs⟩ := h.owl
  obtain ⟨A, c, e, hc, hC⟩ := ho.rd
  rw [List.length_map] at e hc hC
  subst e
  have HO := Lib.hid ho
  have HS := Lib.hid hs
  have HF := Lib.hid h
  clear h ho hs hC
  match os, HO, HS, HF with
  | [], HO, HS, HF =>
    go_enter Try.func67, Try.ntmps67
    go_wp2_with fail
    refine name_post ?_
    intro W1 hW
    obtain ⟨g0, b1⟩ := boxed hW
    clear hW
    refine bodyPost_ret (results_cell_row rfl _ _ w.heap.size 35 #[.int .i64 0, .string ⟨#[]⟩, .int .i64 0, .slice none 0 0] (0, 0) _ rfl g0 Try.underlying35 rfl (by kernel_rfl)) rfl ?_
    exact ⟨_, [], rfl, OwL.nil _, (fun k hk => by cases hk), b1⟩
  | [o], HO, HS, HF =>
    obtain ⟨g, cap, e, e0, e1, e2, e3⟩ := HF.out.head
    injection e with eA _ ec
    subst eA
    subst ec
    go_enter Try.func67, Try.ntmps67
    have hq : ∀ o' : Obj, _ := fun o' => And.intro (cell_below e0 (below_alloc (Below.refl w.heap.size w) o')) (And.intro (cell_below e1 (below_alloc (Below.refl w.heap.size w) o')) (And.intro (cell_below e2 (below_alloc (Below.refl w.heap.size w) o')) (cell_below e3 (below_alloc (Below.refl w.heap.size w) o'))))
    have d0 := fun o' => (hq o').1
    have d1 := fun o' => (hq o').2.1
    have d2 := fun o' => (hq o').2.2.1
    have d3 := fun o' => (hq o').2.2.2
    clear hq
    go_wp2_with fail
    refine name_post ?_
    intro W1 hW
    obtain ⟨g0, b1⟩ := boxed hW
    clear hW
    refine bodyPost_ret (results_cell_row rfl _ _ w.heap.size 35 #[.int .i64 o, .string ⟨#[]⟩, .int .i64 0, .slice none 0 0] (0, 0) _ rfl g0 Try.underlying35 rfl (by kernel_rfl)) rfl ?_
    exact ⟨_, [], rfl, OwL.nil _, (fun k hk => by cases hk), b1⟩
  | o :: p :: os, HO, HS, HF =>
    generalize hl : (o :: p :: os).length = l at *
    have hl2 : 2 ≤ l := by rw [← hl]; simp
    have l0 : ((l : Int) == 0) = false := by rw [beq_eq_false_iff_ne]; omega
    have l1 : ((l : Int) == 1) = false := by rw [beq_eq_false_iff_ne]; omega
    have l0' : ¬ (l : Int) = 0 := by omega
    have l1' : ¬ (l : Int) = 1 := by omega
    clear hl HF
    go_enter Try.func67, Try.ntmps67
    go_wp2_with fail
    refine name_post ?_
    intro W1 hW
    obtain ⟨g0, b1⟩ := boxed hW
    clear hW
    refine bodyPost_ret (results_cell_row rfl _ _ w.heap.size 35 #[.int .i64 4, .string ⟨#[]⟩, .int .i64 0, .slice A l c] (0, 0) _ rfl g0 Try.underlying35 rfl (by kernel_rfl)) rfl ?_
    exact ⟨_, S, rfl, HO.out.frame (fun k hk => b1.block k (HO.out.lt k hk)), HS.out, b1⟩

/-! ### the bag -/
/-- The constants of the first j kinds. -/
def upTo (l : List Int) (j : Nat) : List Int := (List.range j).flatMap (fun i : Nat => List.replicate (rd l (i : Int)).toNat (1 + (i : Int)))
theorem upTo_succ (l : List Int) (j : Nat) : upTo l (j + 1) = upTo l j ++ List.replicate (rd l (j : Int)).toNat (1 + (j : Int)) := by
  unfold upTo
  rw [List.range_succ, List.flatMap_append]
  simp
def okN (n : Int) : Bool := decide (0 ≤ n) && decide (n ≤ 7)
theorem upTo_len (l : List Int) (j : Nat) (h : ∀ i : Nat, i < j → okN (rd l (i : Int)) = true) : (upTo l j).length ≤ 7 * j := by
  induction j with
  | zero => simp [upTo]
  | succ j ih =>
    rw [upTo_succ, List.length_append, List.length_replicate]
    have h1 := ih (fun i hi => h i (by omega))
    have h2 := h j (by omega)
    simp [okN] at h2
    omega
/-- What BagTerm answers. -/
def bagB (l : List Int) : Bool := l.all okN && decide (l.length = 3) && decide ((upTo l l.length).length ≤ 7)
def bagO (l : List Int) : Int := if bagB l = true then joinO (upTo l l.length) else 0
def bagA (l : List Int) : List T := if bagB l = true then joinA (upTo l l.length) else []
theorem bagB_bad {l : List Int} {j : Nat} (hj : j < l.length) (h : okN (rd l (j : Int)) = false) : bagB l = false := by
  have : l.all okN = false := by
    rw [List.all_eq_false]
    refine ⟨l[j], List.getElem_mem _, ?_⟩
    rw [rd_nat hj] at h
    simp [h]
  simp [bagB, this]
theorem all_good {l : List Int} (h : ∀ i : Nat, i < l.length → okN (rd l (i : Int)) = true) : l.all okN = true := by
  rw [List.all_eq_true]
  intro x hx
  obtain ⟨i, hi, rfl⟩ := List.getElem_of_mem hx
  have := h i hi
  rwa [rd_nat hi] at this

set_option maxHeartbeats 2000000 in
set_option maxRecDepth 100000 in
theorem impl_bag (l : List Int) (A : Option Addr) (c : Nat) (hlen : l.length ≤ 1048576) (w : World) (hr : Kd.C (Kd.int .i64) w A l.length l) (hc : l.length ≤ c) :
    Calls Try.prog 42 #[.slice A l.length c] w (Gives (bagO l) (bagA l) (bagB l) w) := by
  have HR := Lib.hid hr
  have HC := Lib.hid hc
  clear hr hc
  go_enter Try.func42, Try.ntmps42
  go_wp2_with fail
  obtain ⟨V, hV⟩ : ∃ V, V = w.alloc (.cells #[.int .i64 0, .string ⟨#[]⟩, .int .i64 0, .slice none 0 0] 35) := ⟨_, rfl⟩
  obtain ⟨vb, bV⟩ := boxed hV
  have hVs : V.heap.size = w.heap.size + 1 := by rw [hV]; simp
  rw [← hV, ← hVs]
  refine name_wp ?_
  intro W1 hW
  have b1 : Below V.heap.size V W1 := by rw [hW]; exact below_alloc (Below.refl _ _) _
  have o1 : OwF V.heap.size W1 (.slice (some ⟨V.heap.size, 0, none⟩) 0 0) [] := by
    refine OwF.of (ok := fun _ => True) ⟨fun _ _ => trivial, [], ⟨rfl, .inr ⟨V.heap.size, 0, #[], rfl, Nat.le_refl _, ?_, Nat.le_refl _, by decide, rfl, rfl⟩⟩, Reps.none _ _⟩
    rw [hW]
    exact blk_new _ _
  have HV := Lib.hid (And.intro vb bV)
  have hbx : w.heap.size < V.heap.size := by omega
  clear hW hV vb bV hVs
  go_loopw [4, 10] (fun v i wr => ∃ j : Nat, j ≤ l.length ∧ i = .int .i64 j ∧ Aside0 (∀ q : Nat, q < j → okN (rd l (q : Int)) = true) ∧ Aside0 (OwF V.heap.size wr v (upTo l j)) ∧ Aside0 (Below V.heap.size V wr)) (fun _ i _ => l.length - (intOf i).toNat)
  case atStart => exact ⟨0, Nat.zero_le _, rfl, ⟨fun q hq => absurd hq (Nat.not_lt_zero _)⟩, ⟨o1⟩, ⟨b1⟩⟩
  case round =>
    obtain ⟨j, hj, rfl, hgood, hO, hB⟩ := hrel
    by_cases hlt : j < l.length
    · obtain ⟨ad, rfl, hcell⟩ := Kd.at_int (Kd.C_below HR.out (HV.out.2.trans (hB.out.mono (by omega)))) (j : Int) (by omega) (by omega)
      simp only [Int.toNat_natCast] at hcell
      generalize hy : rd l (j : Int) = y at *
      have HY := Lib.hid hy
      clear hy
      by_cases hn : okN y = true
      · have hn0 : 0 ≤ y ∧ y ≤ 7 := by simpa [okN] using hn
        have HN := Lib.hid hn
        clear hn
        obtain ⟨n, rfl⟩ : ∃ n : Nat, y = n := ⟨y.toNat, by omega⟩
        have hn7 : n ≤ 7 := by omega
        clear hn0
        go_wp2_with fail
        go_loopw [4, 23] (fun v i wr => ∃ k : Nat, k ≤ n ∧ i = .int .i64 k ∧ Aside0 (OwF V.heap.size wr v (upTo l j ++ List.replicate k (1 + (j : Int)))) ∧ Aside0 (Below V.heap.size V wr)) (fun _ i _ => n - (intOf i).toNat)
        case atStart => exact ⟨0, Nat.zero_le _, rfl, ⟨by simpa using hO.out⟩, hB⟩
        case round =>
          obtain ⟨k, hk, rfl, hO2, hB2⟩ := hrel
          by_cases hlt2 : k < n
          · have hll := upTo_len l j hgood.out
            have hlb : ((upTo l j ++ List.replicate k (1 + (j : Int))).length + 1) * 56 ≤ 140737488355328 := by rw [List.length_append, List.length_replicate]; omega
            have HLB := Lib.hid hlb
            clear hll hlb
            have hO3 : Kd.R (Kd.raw 4) 35 wr V.heap.size (fun _ => True) u4 ((upTo l j ++ List.replicate k (1 + (j : Int))).map leafC) := Kd.raw_any hO2.out
            have HO3 := Lib.hid hO3
            clear hO3
            go_wp2_with (first | ((with_reducible refine gate_builtin (b := .append) (xs := #[.tmp 25, .tmp 29]) rfl ?_); at_builtin; refine Kd.R_append (Kd.raw 4) (w0 := V) V.heap.size rfl (.tmp 25) (.tmp 29) 33 35 (.agg #[(.int .i64 0), (.string ⟨#[]⟩), (.int .i64 0), (.slice none 0 0)]) 56 rfl Try.underlying33 info35 rfl (by decide) (by omega) u4 ((upTo l j ++ List.replicate k (1 + (j : Int))).map leafC) [.int .i64 (1 + (j : Int)), .string ⟨#[]⟩, .int .i64 0, .slice none 0 0] [.int .i64 (1 + (j : Int)), .string ⟨#[]⟩, .int .i64 0, .slice none 0 0] (fun _ => True) (fun _ => False) rfl rfl ?aP (fun _ hk => hk.elim) (fun _ _ => trivial) ?aO ?aB ?aS ?aL ?_; (case aP => exact ⟨rfl, rfl, leaf_cells _⟩); (case aB => exact hB2.out); (case aO => exact HO3.out); (case aS => exact hB2.out.size); (case aL => rw [List.length_map]; exact HLB.out); intro v1 w1 ho hb _ _; have HO1 := Lib.hid (OwF.snoc ho); have HB1 := Lib.hid hb; clear ho hb))
            go_roundw
            case rel => exact ⟨k + 1, by omega, by go_num, ⟨by rw [List.replicate_succ', ← List.append_assoc]; exact HO1.out⟩, ⟨HB1.out⟩⟩
            case measure => simp [intOf]; omega
          · obtain rfl : k = n := by omega
            go_wp2_with fail
            go_roundw
            case rel => exact ⟨j + 1, by omega, by go_num, ⟨fun q hq => by
              by_cases e : q = j
              · subst e; rw [HY.out]; exact HN.out
              · exact hgood.out q (by omega)⟩, ⟨by
              have e := upTo_succ l j
              rw [HY.out, Int.toNat_natCast] at e
              rw [e]
              exact hO2.out⟩, hB2⟩
            case measure => simp [intOf]; omega
      · have hbad : bagB l = false := bagB_bad hlt (by rw [HY.out]; simpa using hn)
        have hy : y < 0 ∨ 7 < y := by
          simp [okN] at hn
          omega
        have HBAD := Lib.hid hbad
        clear hbad hn
        obtain ⟨c0, f0, c1, f1, c2, f2, c3, f3⟩ := cells4 (i := 0) (blk_below HV.out.1 hB.out) (by simp) rfl rfl rfl rfl
        have hfin : ∀ W : World, Stirs [w.heap.size] wr W → W.heap[w.heap.size]? = some (.cells #[.int .i64 0, .string ⟨#[]⟩, .int .i64 0, .slice none 0 0] 35 (0, 0)) → Gives (bagO l) (bagA l) (bagB l) w (.returned (.tuple #[.agg #[.int .i64 0, .string ⟨#[]⟩, .int .i64 0, .slice none 0 0], .bool false])) W := by
          intro W hs hg
          refine ⟨.slice none 0 0, [], ?_, ?_, (fun k hk => by cases hk), ?_⟩
          · simp only [bagO, HBAD.out]; rfl
          · simp only [bagA, HBAD.out]
            exact OwL.nil _
          · exact (HV.out.2.trans (hB.out.mono (by omega))).trans (hs.below (n := w.heap.size) (by have := hB.out.size; omega) (fun k hk => by simp at hk; omega))
        have HFIN := Lib.hid hfin
        clear hfin
        by_cases hy0 : y < 0
        · go_wp2_with fail
          refine name_post ?_
          intro W2 hW
          have g0 : W2.heap[w.heap.size]? = some (.cells #[.int .i64 0, .string ⟨#[]⟩, .int .i64 0, .slice none 0 0] 35 (0, 0)) := by
            rw [hW]
            exact set_at (set_at (set_at (set_at (blk_below HV.out.1 hB.out) _) _) _) _
          have ob : Stirs [w.heap.size] wr W2 := by
            rw [hW]
            exact (((Stirs.set _ _ List.mem_cons_self).trans (Stirs.set _ _ List.mem_cons_self)).trans (Stirs.set _ _ List.mem_cons_self)).trans (Stirs.set _ _ List.mem_cons_self)
          clear hW
          refine bodyPost_ret (results_ct rfl _ _ w.heap.size 35 #[.int .i64 0, .string ⟨#[]⟩, .int .i64 0, .slice none 0 0] (0, 0) _ rfl g0 Try.underlying35 rfl (by kernel_rfl)) rfl ?_
          exact HFIN.out W2 ob g0
        · have hy7 : 7 < y := by omega
          go_wp2_with fail
          refine name_post ?_
          intro W2 hW
          have g0 : W2.heap[w.heap.size]? = some (.cells #[.int .i64 0, .string ⟨#[]⟩, .int .i64 0, .slice none 0 0] 35 (0, 0)) := by
            rw [hW]
            exact set_at (set_at (set_at (set_at (blk_below HV.out.1 hB.out) _) _) _) _
          have ob : Stirs [w.heap.size] wr W2 := by
            rw [hW]
            exact (((Stirs.set _ _ List.mem_cons_self).trans (Stirs.set _ _ List.mem_cons_self)).trans (Stirs.set _ _ List.mem_cons_self)).trans (Stirs.set _ _ List.mem_cons_self)
          clear hW
          refine bodyPost_ret (results_ct rfl _ _ w.heap.size 35 #[.int .i64 0, .string ⟨#[]⟩, .int .i64 0, .slice none 0 0] (0, 0) _ rfl g0 Try.underlying35 rfl (by kernel_rfl)) rfl ?_
          exact HFIN.out W2 ob g0
    · obtain rfl : j = l.length := by omega
      obtain ⟨A4, c4, e4⟩ := hO.out.slice
      subst e4
      have hall := all_good hgood.out
      generalize hos : upTo l l.length = os at *
      by_cases h3 : l.length = 3
      · by_cases h7 : os.length ≤ 7
        · have hb1 : bagB l = true := by
            unfold bagB
            rw [hos]
            simp [hall, h3, h7]
          have ho1 : bagO l = joinO os := by simp only [bagO, hb1, hos]; rfl
          have ha1 : bagA l = joinA os := by simp only [bagA, hb1, hos]; rfl
          have HX := Lib.hid (And.intro hb1 (And.intro ho1 ha1))
          clear hb1 ho1 ha1 hall hos
          go_wp2_with fail
          refine (impl_joined os _ V.heap.size wr hO.out).mono ?_
          rintro e W2 ⟨va, S, rfl, ho, hs, hb⟩
          obtain ⟨A5, c5, rfl, _, _⟩ := ho.rd
          generalize (joinA os).length = l5 at *
          have g0 := blk_below (blk_below HV.out.1 hB.out) hb
          obtain ⟨d0, e0, d1, e1, d2, e2, d3, e3⟩ := cells4 (i := 0) g0 (by simp) rfl rfl rfl rfl
          have G0 := Lib.hid g0
          have HO := Lib.hid ho
          have HS := Lib.hid hs
          have HB := Lib.hid hb
          clear g0 ho hs hb
          go_wp2_with fail
          refine name_post ?_
          intro W3 hW
          have g3 : W3.heap[w.heap.size]? = some (.cells #[.int .i64 (joinO os), .string ⟨#[]⟩, .int .i64 0, .slice A5 l5 c5] 35 (0, 0)) := by
            rw [hW]
            exact set_at (set_at (set_at (set_at G0.out _) _) _) _
          have ob : Stirs [w.heap.size] W2 W3 := by
            rw [hW]
            exact (((Stirs.set _ _ List.mem_cons_self).trans (Stirs.set _ _ List.mem_cons_self)).trans (Stirs.set _ _ List.mem_cons_self)).trans (Stirs.set _ _ List.mem_cons_self)
          clear hW
          refine bodyPost_ret (results_ct rfl _ _ w.heap.size 35 #[.int .i64 (joinO os), .string ⟨#[]⟩, .int .i64 0, .slice A5 l5 c5] (0, 0) _ rfl g3 Try.underlying35 rfl (by kernel_rfl)) rfl ?_
          refine ⟨.slice A5 l5 c5, S, ?_, ?_, fun k hk => Nat.le_trans (Nat.le_of_lt hbx) (HS.out k hk), ?_⟩
          · rw [HX.out.1, HX.out.2.1]; rfl
          · rw [HX.out.2.2]
            exact HO.out.frame (fun k hk => ob.block k (HO.out.lt k hk) (fun e => by have := HS.out k hk; simp at e; omega))
          · exact ((HV.out.2.trans (hB.out.mono (by omega))).trans (HB.out.mono (by have := hB.out.size; omega))).trans (ob.below (n := w.heap.size) (by have := hB.out.size; have := HB.out.size; omega) (fun k hk => by simp at hk; omega))
        · have hb0 : bagB l = false := by
            unfold bagB
            rw [hos]
            simp [h7]
          have l7 : 7 < os.length := by omega
          have HX := Lib.hid hb0
          clear hb0 hall hos h7
          obtain ⟨c0, f0, c1, f1, c2, f2, c3, f3⟩ := cells4 (i := 0) (blk_below HV.out.1 hB.out) (by simp) rfl rfl rfl rfl
          go_wp2_with fail
          refine name_post ?_
          intro W2 hW
          have g0 : W2.heap[w.heap.size]? = some (.cells #[.int .i64 0, .string ⟨#[]⟩, .int .i64 0, .slice none 0 0] 35 (0, 0)) := by
            rw [hW]
            exact set_at (set_at (set_at (set_at (blk_below HV.out.1 hB.out) _) _) _) _
          have ob : Stirs [w.heap.size] wr W2 := by
            rw [hW]
            exact (((Stirs.set _ _ List.mem_cons_self).trans (Stirs.set _ _ List.mem_cons_self)).trans (Stirs.set _ _ List.mem_cons_self)).trans (Stirs.set _ _ List.mem_cons_self)
          clear hW
          refine bodyPost_ret (results_ct rfl _ _ w.heap.size 35 #[.int .i64 0, .string ⟨#[]⟩, .int .i64 0, .slice none 0 0] (0, 0) _ rfl g0 Try.underlying35 rfl (by kernel_rfl)) rfl ?_
          refine ⟨.slice none 0 0, [], ?_, ?_, (fun k hk => by cases hk), ?_⟩
          · simp only [bagO, HX.out]; rfl
          · simp only [bagA, HX.out]
            exact OwL.nil _
          · exact (HV.out.2.trans (hB.out.mono (by omega))).trans (ob.below (n := w.heap.size) (by have := hB.out.size; omega) (fun k hk => by simp at hk; omega))
      · have hb0 : bagB l = false := by simp [bagB, h3]
        have l3 : ((l.length : Int) != 3) = true := by rw [bne_iff_ne]; omega
        have HX := Lib.hid hb0
        clear hb0 hall hos
        obtain ⟨c0, f0, c1, f1, c2, f2, c3, f3⟩ := cells4 (i := 0) (blk_below HV.out.1 hB.out) (by simp) rfl rfl rfl rfl
        go_wp2_with fail
        refine name_post ?_
        intro W2 hW
        have g0 : W2.heap[w.heap.size]? = some (.cells #[.int .i64 0, .string ⟨#[]⟩, .int .i64 0, .slice none 0 0] 35 (0, 0)) := by
          rw [hW]
          exact set_at (set_at (set_at (set_at (blk_below HV.out.1 hB.out) _) _) _) _
        have ob : Stirs [w.heap.size] wr W2 := by
          rw [hW]
          exact (((Stirs.set _ _ List.mem_cons_self).trans (Stirs.set _ _ List.mem_cons_self)).trans (Stirs.set _ _ List.mem_cons_self)).trans (Stirs.set _ _ List.mem_cons_self)
        clear hW
        refine bodyPost_ret (results_ct rfl _ _ w.heap.size 35 #[.int .i64 0, .string ⟨#[]⟩, .int .i64 0, .slice none 0 0] (0, 0) _ rfl g0 Try.underlying35 rfl (by kernel_rfl)) rfl ?_
        refine ⟨.slice none 0 0, [], ?_, ?_, (fun k hk => by cases hk), ?_⟩
        · simp only [bagO, HX.out]; rfl
        · simp only [bagA, HX.out]
          exact OwL.nil _
        · exact (HV.out.2.trans (hB.out.mono (by omega))).trans (ob.below (n := w.heap.size) (by have := hB.out.size; omega) (fun k hk => by simp at hk; omega))
end Go.Proofs.Ytfnkobcmhbdcoaa.BagT
