/- NumeralValue: the program's. -/
import Derived.Test.YtfnkobcmhbdcoaaLawNumT
import Derived.Test.YtfnkobcmhbdcoaaCmpT
namespace Go.Proofs.Ytfnkobcmhbdcoaa.NumV
open Go.RowKit Go.Proofs.YtfnkobcmhbdcoaaW.PrintWords Go.Proofs.YtfnkobcmhbdcoaaW.PrintLast Go.Proofs.Ytfnkobcmhbdcoaa.Base Go.Proofs.Ytfnkobcmhbdcoaa.XTypes Go.Proofs.Ytfnkobcmhbdcoaa.XInts Go.Proofs.Ytfnkobcmhbdcoaa.PureInts Go.Proofs.Ytfnkobcmhbdcoaa.Typed Go.Proofs.Ytfnkobcmhbdcoaa.Trees Go.Proofs.Ytfnkobcmhbdcoaa.XTm Go.Proofs.Ytfnkobcmhbdcoaa.EqT Go.Proofs.Ytfnkobcmhbdcoaa.MarkT Go.Proofs.Ytfnkobcmhbdcoaa.HeldT Go.Proofs.Ytfnkobcmhbdcoaa.NumT Go.Proofs.Ytfnkobcmhbdcoaa.LawNum Go.Proofs.Ytfnkobcmhbdcoaa.LawNumT Go.Proofs.Ytfnkobcmhbdcoaa.CmpT
set_option linter.unusedVariables false
set_option linter.unusedSimpArgs false
set_option linter.unnecessarySimpa false

/-- The numeral of n. -/
def numT (n : Nat) : T := ⟨numO n, ⟨#[]⟩, 0, numA n⟩
theorem numT_inj {m n : Nat} (h : numT m = numT n) : m = n := by
  have : nodL (numA m) = nodL (numA n) := by
    have h3 : (numT m).f3 = (numT n).f3 := by rw [h]
    exact congrArg nodL h3
  rwa [nod_num, nod_num] at this
/-- What a value is. -/
def ValR (t : T) (r : Int) : Prop := (∃ m : Nat, m ≤ 19 ∧ t = numT m ∧ r = m) ∨ ((∀ m : Nat, m ≤ 19 → t ≠ numT m) ∧ r = -1)
theorem ValR.one {t : T} {r r' : Int} (h : ValR t r) (h' : ValR t r') : r = r' := by
  rcases h with ⟨m, hm, e, rfl⟩ | ⟨hn, rfl⟩
  · rcases h' with ⟨m', hm', e', rfl⟩ | ⟨hn', rfl⟩
    · rw [numT_inj (e.symm.trans e')]
    · exact absurd e (hn' m hm)
  · rcases h' with ⟨m', hm', e', rfl⟩ | ⟨hn', rfl⟩
    · exact absurd e' (hn m' hm')
    · rfl
set_option maxHeartbeats 1000000 in
set_option maxRecDepth 100000 in
theorem impl_val (t : T) (v : Value) (w : World) (hr : RdL w v t.f3) :
    Calls Try.prog 46 #[.agg #[.int .i64 t.f0, .string t.f1, .int .i64 t.f2, v]] w fun e w' => ∃ r, e = .returned (.int .i64 r) ∧ ValR t r ∧ Below w.heap.size w w' := by
  obtain ⟨A, c, rfl, _, _⟩ := id hr
  generalize hl : t.f3.length = l at *
  have HR := Lib.hid hr
  clear hr hl
  go_enter Try.func46, Try.ntmps46
  go_wp2_with fail
  refine name_wp ?_
  intro W0 hW
  obtain ⟨g0, b0⟩ := boxed4 hW
  have HG := Lib.hid g0
  have HB0 := Lib.hid b0
  have HR0 := Lib.hid (HR.out.below b0)
  have hlt0 : w.heap.size < W0.heap.size := heap_lt g0
  clear hW g0 b0 HR
  go_loopw [3] (fun i wr => ∃ k : Nat, k ≤ 20 ∧ i = .int .i64 k ∧ Aside0 (∀ m : Nat, m < k → t ≠ numT m) ∧ Aside0 (Below W0.heap.size W0 wr)) (fun i _ => 20 - (intOf i).toNat)
  case atStart => exact ⟨0, Nat.zero_le _, rfl, ⟨fun m hm => absurd hm (Nat.not_lt_zero _)⟩, ⟨Below.refl _ _⟩⟩
  case round =>
    obtain ⟨k, hk, rfl, hN, hB⟩ := hrel
    by_cases hlt : k < 20
    · go_wp2_with fail
      refine (impl_num k (by omega) _).mono ?_
      rintro e W1 ⟨va, S, rfl, ho, hs, hb1⟩
      obtain ⟨A1, c1, rfl, _, _⟩ := ho.rd
      have HO := Lib.hid ho.rd
      generalize hl1 : (numA k).length = l1 at *
      have HB1 := Lib.hid (below_to hB.out hb1 hB.out.size)
      have hno : numT k = ⟨numO k, ⟨#[]⟩, 0, numA k⟩ := rfl
      have HNO := Lib.hid hno
      generalize hno1 : numO k = o1 at *
      clear ho hs hb1 hno hno1 hB hl1
      go_upto_region 5 with (fail)
      refine name_wp ?_
      intro W2 hW
      obtain ⟨y0, b2⟩ := boxed4 hW
      have HB2 := Lib.hid (below_to HB1.out b2 HB1.out.size)
      have HO2 := Lib.hid (HO.out.below b2)
      obtain ⟨d0, _, d1, _, d2, _, d3, _⟩ := cells4 (i := 0) y0 (by simp) rfl rfl rfl rfl
      obtain ⟨e0, _, e1, _, e2, _, e3, _⟩ := cells4 (i := 0) (blk_below HG.out HB2.out) (by simp) rfl rfl rfl rfl
      generalize hb1 : W1.heap.size = bz at *
      clear hW b2 y0 HB1 HO
      go_wp2_with fail
      refine (same_any t ⟨o1, ⟨#[]⟩, 0, numA k⟩ (v := .slice A l c) (v' := .slice A1 l1 c1) (HR0.out.below HB2.out) HO2.out).mono ?_
      rintro e W3 ⟨r, rfl, hrr, hb3⟩
      have HRR := Lib.hid hrr
      have HB3 := Lib.hid (below_to HB2.out hb3 HB2.out.size)
      clear hrr hb3 d0 d1 d2 d3 e0 e1 e2 e3 HB2 HO2
      cases r with
      | true =>
        have HE := Lib.hid (HRR.out.1 rfl)
        go_wp2_with fail
        go_ret
        exact ⟨k, rfl, .inl ⟨k, by omega, by rw [HNO.out]; exact HE.out, rfl⟩, HB0.out.trans (HB3.out.mono (by omega))⟩
      | false =>
        go_wp2_with fail
        go_roundw
        case rel => exact ⟨k + 1, by omega, by go_num, ⟨fun m hm e => by
          by_cases hmk : m = k
          · subst hmk
            rw [HNO.out] at e
            have := HRR.out.2 e
            cases this
          · exact hN.out m (by omega) e⟩, ⟨HB3.out⟩⟩
        case measure => simp [intOf]; omega
    · obtain rfl : k = 20 := by omega
      go_wp2_with fail
      go_ret
      exact ⟨-1, rfl, .inr ⟨fun m hm => hN.out m (by omega), rfl⟩, HB0.out.trans (hB.out.mono (by omega))⟩

/-! ### the reference -/
theorem numT_succ (j : Nat) : numT (j + 1) = ⟨1, ⟨#[]⟩, 0, [numT j]⟩ := by simp [numT, numO, numA]
theorem numT_zero : numT 0 = ⟨0, ⟨#[]⟩, 0, []⟩ := rfl
theorem numT_name (j : Nat) : (numT j).f1 = ⟨#[]⟩ ∧ (numT j).f2 = 0 := ⟨rfl, rfl⟩
theorem val_loop : ∀ (d n : Nat), 20 - n = d → n ≤ 20 → ∀ (t0 t : T), (∀ m : Nat, m ≤ 19 → (t0 = numT m ↔ n ≤ m ∧ t = numT (m - n))) → ∃ r, ValR t0 r ∧ Ev (fun k => spec_NumeralValue.l0 k (n : Int) t.f0 t.f1 t.f2 t.f3) r := by
  intro d
  induction d with
  | zero =>
    intro n hd hn t0 t h
    obtain rfl : n = 20 := by omega
    refine ⟨-1, .inr ⟨fun m hm e => ?_, rfl⟩, ?_⟩
    · have := ((h m hm).1 e).1
      omega
    · exact Ev.step (fun k => by simp only [spec_NumeralValue.l0]; rfl) (Ev.neg (by omega) (Ev.now _))
  | succ d ih =>
    intro n hd hn t0 t h
    have bad : (∀ m : Nat, t ≠ numT m) → ValR t0 (-1) := fun hb => .inr ⟨fun m hm e => hb (m - n) ((h m hm).1 e).2, rfl⟩
    by_cases h1 : t.f1.toList = ([] : List UInt8)
    · have e1 : t.f1 = ⟨#[]⟩ := Go.WideShapes.bytes_inj (by rw [← Lib.toList_data, h1])
      by_cases h2 : t.f2 = 0
      · by_cases h3 : t.f0 = 0
        · by_cases h4 : t.f3 = []
          · have et : t = numT 0 := by
              rw [T.ext_iff]
              exact ⟨⟨h3, e1, h2⟩, h4⟩
            refine ⟨n, .inl ⟨n, by omega, (h n (by omega)).2 ⟨Nat.le_refl _, by rw [Nat.sub_self]; exact et⟩, rfl⟩, ?_⟩
            refine Ev.step (fun k => by simp only [spec_NumeralValue.l0]; rfl) (Ev.pos (by omega) (Ev.pos h1 ?_))
            refine Ev.step (fun k => by simp only [spec_NumeralValue.j1]; rfl) (Ev.neg (by simp [h2]) (Ev.pos h3 ?_))
            exact Ev.step (fun k => by simp only [spec_NumeralValue.j2]; rfl) (Ev.pos (by simp [h4]) (Ev.now _))
          · have hb : ∀ m : Nat, t ≠ numT m := by
              intro m e
              cases m with
              | zero => exact h4 (by rw [e]; rfl)
              | succ j => rw [e, numT_succ] at h3; cases h3
            refine ⟨-1, bad hb, ?_⟩
            refine Ev.step (fun k => by simp only [spec_NumeralValue.l0]; rfl) (Ev.pos (by omega) (Ev.pos h1 ?_))
            refine Ev.step (fun k => by simp only [spec_NumeralValue.j1]; rfl) (Ev.neg (by simp [h2]) (Ev.pos h3 ?_))
            exact Ev.step (fun k => by simp only [spec_NumeralValue.j2]; rfl) (Ev.neg (by simp [h4]) (Ev.neg (by omega) (Ev.now _)))
        · by_cases h5 : t.f0 = 1
          · by_cases h6 : t.f3.length = 1
            · obtain ⟨u, hu⟩ : ∃ u, t.f3 = [u] := by
                match hf : t.f3, h6 with
                | [u], _ => exact ⟨u, rfl⟩
              have et : t = ⟨1, ⟨#[]⟩, 0, [u]⟩ := by
                rw [T.ext_iff]
                exact ⟨⟨h5, e1, h2⟩, hu⟩
              obtain ⟨r, hr, hev⟩ := ih (n + 1) (by omega) (by omega) t0 u (by
                intro m hm
                rw [h m hm, et]
                constructor
                · rintro ⟨hnm, e⟩
                  cases hj : m - n with
                  | zero => rw [hj, numT_zero] at e; cases e
                  | succ j =>
                    rw [hj, numT_succ] at e
                    injection e with _ _ _ e
                    injection e with e
                    refine ⟨by omega, ?_⟩
                    have : m - (n + 1) = j := by omega
                    rw [this]
                    exact e
                · rintro ⟨hnm, e⟩
                  refine ⟨by omega, ?_⟩
                  have : m - n = (m - (n + 1)) + 1 := by omega
                  rw [this, numT_succ, e])
              refine ⟨r, hr, ?_⟩
              refine Ev.step (fun k => by simp only [spec_NumeralValue.l0]; rfl) (Ev.pos (by omega) (Ev.pos h1 ?_))
              refine Ev.step (fun k => by simp only [spec_NumeralValue.j1]; rfl) (Ev.neg (by simp [h2]) (Ev.neg h3 ?_))
              refine Ev.step (fun k => by simp only [spec_NumeralValue.j2]; rfl) (Ev.neg (by decide) (Ev.pos h5 (Ev.pos (by omega) (Ev.pos (by omega) ?_))))
              rw [wrap_succ (by omega), hu]
              exact hev
            · have hb : ∀ m : Nat, t ≠ numT m := by
                intro m e
                cases m with
                | zero => exact h3 (by rw [e]; rfl)
                | succ j => exact h6 (by rw [e, numT_succ]; rfl)
              refine ⟨-1, bad hb, ?_⟩
              refine Ev.step (fun k => by simp only [spec_NumeralValue.l0]; rfl) (Ev.pos (by omega) (Ev.pos h1 ?_))
              refine Ev.step (fun k => by simp only [spec_NumeralValue.j1]; rfl) (Ev.neg (by simp [h2]) (Ev.neg h3 ?_))
              exact Ev.step (fun k => by simp only [spec_NumeralValue.j2]; rfl) (Ev.neg (by decide) (Ev.pos h5 (Ev.neg (by omega) (Ev.now _))))
          · have hb : ∀ m : Nat, t ≠ numT m := by
              intro m e
              cases m with
              | zero => exact h3 (by rw [e]; rfl)
              | succ j => exact h5 (by rw [e, numT_succ])
            refine ⟨-1, bad hb, ?_⟩
            refine Ev.step (fun k => by simp only [spec_NumeralValue.l0]; rfl) (Ev.pos (by omega) (Ev.pos h1 ?_))
            refine Ev.step (fun k => by simp only [spec_NumeralValue.j1]; rfl) (Ev.neg (by simp [h2]) (Ev.neg h3 ?_))
            exact Ev.step (fun k => by simp only [spec_NumeralValue.j2]; rfl) (Ev.neg (by decide) (Ev.neg h5 (Ev.now _)))
      · refine ⟨-1, bad (fun m e => h2 (by rw [e]; rfl)), ?_⟩
        refine Ev.step (fun k => by simp only [spec_NumeralValue.l0]; rfl) (Ev.pos (by omega) (Ev.pos h1 ?_))
        exact Ev.step (fun k => by simp only [spec_NumeralValue.j1]; rfl) (Ev.pos (by simpa using h2) (Ev.now _))
    · refine ⟨-1, bad (fun m e => h1 (by rw [e, Lib.toList_data]; rfl)), ?_⟩
      refine Ev.step (fun k => by simp only [spec_NumeralValue.l0]; rfl) (Ev.pos (by omega) (Ev.neg h1 ?_))
      exact Ev.step (fun k => by simp only [spec_NumeralValue.j1]; rfl) (Ev.pos (c := True) trivial (Ev.now _))
theorem spec_val (t : T) (v : Value) (w : World) (hr : RdL w v t.f3) :
    Calls Try.prog 44 #[.agg #[.int .i64 t.f0, .string t.f1, .int .i64 t.f2, v]] w fun e w' => ∃ r, e = .returned (.int .i64 r) ∧ ValR t r ∧ Below w.heap.size w w' := by
  obtain ⟨A, c, rfl, hc, hC⟩ := hr
  obtain ⟨r, hv, hev⟩ := val_loop 20 0 (by omega) (by omega) t t (fun m hm => by simp)
  obtain ⟨k, hk⟩ := hev.rounds
  refine (spec_NumeralValue.calls k t.f0 t.f1 t.f2 (fun k => k < w.heap.size) A c t.f3 r w (Kd.V_mk hc (Kd.C_F k35_heap hC)) hk).mono ?_
  rintro e w' ⟨rfl, hb⟩
  exact ⟨r, rfl, hv, hb⟩
end Go.Proofs.Ytfnkobcmhbdcoaa.NumV
