/- FnExactNumeralValue: the walk (the row's reading of a term is still to be written). -/
import Derived.Test.YtfnkobcmhbdcoaaNumV
import Derived.Test.YtfnkobcmhbdcoaaToT
namespace Go.Proofs.Ytfnkobcmhbdcoaa.LawVal
open Go.RowKit Go.Proofs.YtfnkobcmhbdcoaaW.PrintWords Go.Proofs.YtfnkobcmhbdcoaaW.PrintLast Go.Proofs.Ytfnkobcmhbdcoaa.Base Go.Proofs.Ytfnkobcmhbdcoaa.XTypes Go.Proofs.Ytfnkobcmhbdcoaa.PureInts Go.Proofs.Ytfnkobcmhbdcoaa.Typed Go.Proofs.Ytfnkobcmhbdcoaa.Trees Go.Proofs.Ytfnkobcmhbdcoaa.Sz Go.Proofs.Ytfnkobcmhbdcoaa.XTm Go.Proofs.Ytfnkobcmhbdcoaa.EqT Go.Proofs.Ytfnkobcmhbdcoaa.MarkT Go.Proofs.Ytfnkobcmhbdcoaa.HeldT Go.Proofs.Ytfnkobcmhbdcoaa.NumT Go.Proofs.Ytfnkobcmhbdcoaa.CmpT Go.Proofs.Ytfnkobcmhbdcoaa.NumV Go.Proofs.Ytfnkobcmhbdcoaa.ToT
set_option linter.unusedVariables false
set_option linter.unusedSimpArgs false
set_option linter.unnecessarySimpa false

theorem to_any (t : L) {v : Value} {w : World} (hr : RdK w v t.f3) (hn : cntT t ≤ 1048576) :
    Calls Try.prog 45 #[.agg #[.int .i64 t.f0, .string t.f1, .int .i64 t.f2, v]] w fun e w' => ∃ v' S, e = .returned (.agg #[.int .i64 t.f0, .string t.f1, .int .i64 t.f2, v']) ∧ OwL w' v' (conL t.f3) S ∧ (∀ k ∈ S, w.heap.size ≤ k) ∧ Below w.heap.size w w' := to_all t v w hr hn
theorem sz_any (t : L) (left : Int) {v : Value} {w : World} (hr : RdK w v t.f3) (hf : FitT t) (h0 : 0 ≤ left) (h1 : left ≤ 1048576) :
    Calls Try.prog 43 #[.agg #[.int .i64 t.f0, .string t.f1, .int .i64 t.f2, v], .int .i64 left] w fun e w' => e = .returned (.int .i64 (leftT t left)) ∧ Below w.heap.size w w' := sz_all t v left w hr hf h0 h1
set_option maxHeartbeats 2000000 in
set_option maxRecDepth 100000 in
theorem walk_of (t : L) (v : Value) (w : World) (hr : RdK w v t.f3) (hf : FitT t) :
    Calls Try.prog 10 #[.agg #[.int .i64 t.f0, .string t.f1, .int .i64 t.f2, v]] w fun e w' => e = .returned (.bool true) ∧ Below w.heap.size w w' := by
  obtain ⟨A, c, rfl, _, _⟩ := id hr
  generalize hl : t.f3.length = l at *
  have HR := Lib.hid hr
  have HF := Lib.hid hf
  clear hr hf hl
  go_enter Try.func10, Try.ntmps10
  go_wp2_with fail
  refine name_calls ?_
  intro W0 hW
  obtain ⟨g0, b0⟩ := boxed4 hW
  have HG := Lib.hid g0
  have HB0 := Lib.hid b0
  have HR0 := Lib.hid (HR.out.below b0)
  clear hW g0 b0
  refine (sz_any t 1048576 HR0.out HF.out (by omega) (by omega)).mono ?_
  rintro e W1 ⟨rfl, hb⟩
  have HB1 := Lib.hid hb
  clear hb
  by_cases hneg : leftT t 1048576 < 0
  · generalize leftT t 1048576 = q at *
    go_wp2_with fail
    go_ret
    exact ⟨rfl, below_to HB0.out HB1.out HB0.out.size⟩
  · have hcnt : cntT t ≤ 1048576 := by
      unfold leftT at hneg
      split at hneg
      · omega
      · omega
    have HC := Lib.hid hcnt
    clear hcnt
    generalize leftT t 1048576 = q at *
    obtain ⟨c0, _, c1, _, c2, _, c3, _⟩ := cells4 (i := 0) (blk_below HG.out HB1.out) (by simp) rfl rfl rfl rfl
    go_wp2_with fail
    refine (to_any t (HR0.out.below HB1.out) HC.out).mono ?_
    rintro e W2 ⟨v1, S1, rfl, ho1, hs1, hb2⟩
    have HO1 := Lib.hid ho1.rd
    have HB2 := Lib.hid (below_to HB1.out hb2 HB1.out.size)
    clear ho1 hs1 hb2 c0 c1 c2 c3
    go_wp2_with fail
    refine (spec_val ⟨t.f0, t.f1, t.f2, conL t.f3⟩ v1 W2 HO1.out).mono ?_
    rintro e W3 ⟨r, rfl, hv, hb3⟩
    have HV := Lib.hid hv
    have HB3 := Lib.hid (below_to HB2.out hb3 HB2.out.size)
    clear hv hb3 HO1 HB2
    obtain ⟨c0, _, c1, _, c2, _, c3, _⟩ := cells4 (i := 0) (blk_below HG.out HB3.out) (by simp) rfl rfl rfl rfl
    go_wp2_with fail
    refine (to_any t (HR0.out.below HB3.out) HC.out).mono ?_
    rintro e W4 ⟨v2, S2, rfl, ho2, hs2, hb4⟩
    obtain ⟨A2, d2, rfl, _, _⟩ := ho2.rd
    generalize hl2 : (conL t.f3).length = l2 at *
    have HO2 := Lib.hid ho2.rd
    have HB4 := Lib.hid (below_to HB3.out hb4 HB3.out.size)
    clear ho2 hs2 hb4 c0 c1 c2 c3 HB3
    go_upto_region 7 with (fail)
    refine name_wp ?_
    intro W5 hW
    obtain ⟨y0, b5⟩ := boxed4 hW
    have HY := Lib.hid y0
    have HB5 := Lib.hid (below_to HB4.out b5 HB4.out.size)
    have HO5 := Lib.hid (HO2.out.below b5)
    generalize hby : W4.heap.size = bw at *
    clear hW y0 b5 HO2 HB4
    obtain ⟨d0, _, d1, _, d2', _, d3, _⟩ := cells4 (i := 0) HY.out (by simp) rfl rfl rfl rfl
    go_wp2_with fail
    refine (impl_val ⟨t.f0, t.f1, t.f2, conL t.f3⟩ (.slice A2 l2 d2) W5 HO5.out).mono ?_
    rintro e W6 ⟨r', rfl, hv', hb6⟩
    have er : r' = r := ValR.one hv' HV.out
    subst er
    have HB6 := Lib.hid (below_to HB5.out hb6 HB5.out.size)
    have HO6 := Lib.hid (HO5.out.below hb6)
    have hy6 := blk_below HY.out hb6
    clear hv' hb6 d0 d1 d2' d3 HB5 HO5 HY
    obtain ⟨c0, _, c1, _, c2, _, c3, _⟩ := cells4 (i := 0) (blk_below HG.out HB6.out) (by simp) rfl rfl rfl rfl
    obtain ⟨d0, _, d1, _, d2', _, d3, _⟩ := cells4 (i := 0) hy6 (by simp) rfl rfl rfl rfl
    have BW : Below W6.heap.size W6 W6 := Below.refl _ _
    have RV := Lib.hid (HR0.out.below HB6.out)
    go_upto_region 10 with (fail)
    go_cut [26] (fun s wx => s = .bool false ∧ Below W6.heap.size W6 wx)
    case first =>
      go_region_held3 (fun w' => w'.cell? ⟨bw, 0, none⟩ = some (.int .i64 t.f0) ∧ w'.cell? ⟨bw, 1, none⟩ = some (.string t.f1) ∧ w'.cell? ⟨bw, 2, none⟩ = some (.int .i64 t.f2) ∧ w'.cell? ⟨bw, 3, none⟩ = some (.slice A2 l2 d2) ∧ w'.cell? ⟨w.heap.size, 0, none⟩ = some (.int .i64 t.f0) ∧ w'.cell? ⟨w.heap.size, 1, none⟩ = some (.string t.f1) ∧ w'.cell? ⟨w.heap.size, 2, none⟩ = some (.int .i64 t.f2) ∧ w'.cell? ⟨w.heap.size, 3, none⟩ = some (.slice A l c))
        (exact ⟨cell_below d0 (by repeat (first | exact BW | exact Below.refl _ _ | apply below_alloc | apply below_drew1 | apply pw_below_drewN)), cell_below d1 (by repeat (first | exact BW | exact Below.refl _ _ | apply below_alloc | apply below_drew1 | apply pw_below_drewN)), cell_below d2' (by repeat (first | exact BW | exact Below.refl _ _ | apply below_alloc | apply below_drew1 | apply pw_below_drewN)), cell_below d3 (by repeat (first | exact BW | exact Below.refl _ _ | apply below_alloc | apply below_drew1 | apply pw_below_drewN)), cell_below c0 (by repeat (first | exact BW | exact Below.refl _ _ | apply below_alloc | apply below_drew1 | apply pw_below_drewN)), cell_below c1 (by repeat (first | exact BW | exact Below.refl _ _ | apply below_alloc | apply below_drew1 | apply pw_below_drewN)), cell_below c2 (by repeat (first | exact BW | exact Below.refl _ _ | apply below_alloc | apply below_drew1 | apply pw_below_drewN)), cell_below c3 (by repeat (first | exact BW | exact Below.refl _ _ | apply below_alloc | apply below_drew1 | apply pw_below_drewN))⟩)
        (first
          | (go_at_call 45; refine name_calls ?_; intro Wq hWq; have BQ : Below W6.heap.size W6 Wq := (by rw [hWq]; first | done | (repeat (first | exact BW | exact Below.refl _ _ | apply below_alloc | apply below_drew1 | apply pw_below_drewN))); clear hWq; (with_reducible refine (to_any t (RV.out.below BQ) HC.out).mono ?_); rintro e Wn ⟨v9, S9, rfl, o9, s9, hb⟩; have O9 := Lib.hid o9.rd; replace BW := below_to BQ hb BQ.size; clear hb BQ o9 s9)
          | (go_at_call 29; refine name_calls ?_; intro Wq hWq; have HW9 := Lib.hid hWq; have BQ : Below W6.heap.size W6 Wq := (by rw [hWq]; first | done | (repeat (first | exact BW | exact Below.refl _ _ | apply below_alloc | apply below_drew1 | apply pw_below_drewN))); have hq9 : Below Wn.heap.size Wn Wq := (by rw [hWq]; first | done | (repeat (first | exact Below.refl _ _ | apply below_alloc | apply below_drew1 | apply pw_below_drewN))); clear hWq; (with_reducible refine (eq_any t.f0 t.f2 t.f1 (conL t.f3) (v := .slice A2 l2 d2) (v' := v9) (HO6.out.below BQ) (O9.out.below hq9)).mono ?_); rintro e Wm ⟨rfl, hb⟩; replace BW := below_to BQ hb BQ.size; clear hb BQ))
      all_goals go_wp2_with fail
      all_goals go_meet
      all_goals exact ⟨rfl, BW⟩
    case rest =>
    obtain ⟨rfl, hb⟩ := hcut
    have HB7 := Lib.hid (below_to HB0.out (below_to HB6.out hb HB6.out.size) HB0.out.size)
    clear hb c0 c1 c2 c3 d0 d1 d2' d3 hy6 BW
    go_wp2_with fail
    go_ret
    exact ⟨rfl, HB7.out⟩
end Go.Proofs.Ytfnkobcmhbdcoaa.LawVal
