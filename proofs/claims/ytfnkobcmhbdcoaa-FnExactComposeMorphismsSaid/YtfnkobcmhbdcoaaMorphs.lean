/- Morphisms: the laws' helpers, and composition, the program's and the reference's. -/
import Derived.Test.YtfnkobcmhbdcoaaTyped
import Derived.Test.YtfnkobcmhbdcoaaXMorph1
import Derived.Test.YtfnkobcmhbdcoaaXMorph2
import Derived.Test.YtfnkobcmhbdcoaaXMorph3
namespace Go.Proofs.Ytfnkobcmhbdcoaa.Morphs
open Go.RowKit Go.Proofs.YtfnkobcmhbdcoaaW.PrintWords Go.Proofs.YtfnkobcmhbdcoaaW.PrintLast Go.Proofs.Ytfnkobcmhbdcoaa.Base Go.Proofs.Ytfnkobcmhbdcoaa.XTypes Go.Proofs.Ytfnkobcmhbdcoaa.XInts Go.Proofs.Ytfnkobcmhbdcoaa.XMorph Go.Proofs.Ytfnkobcmhbdcoaa.PureInts Go.Proofs.Ytfnkobcmhbdcoaa.Typed
set_option linter.unusedVariables false
set_option linter.unusedSimpArgs false
set_option linter.unnecessarySimpa false

/-! ### one composed list -/
def inB (n : Nat) (k : Int) : Bool := decide (0 ≤ k) && decide (k < n)
def okB (f g : List Int) : Bool := f.all (inB g.length)
def via (f g : List Int) : List Int := f.map (rd g)
def compM (f0 f1 g0 g1 : List Int) : List Int × List Int × Bool := if okB f0 g0 = true then (if okB f1 g1 = true then (via f0 g0, via f1 g1, true) else ([], [], false)) else ([], [], false)
theorem okB_cons (k : Int) (f g : List Int) : okB (k :: f) g = (inB g.length k && okB f g) := rfl

theorem via_succ {f g : List Int} {i : Nat} (h : i < f.length) : via (f.take (i + 1)) g = via (f.take i) g ++ [rd g f[i]] := by
  unfold via
  rw [List.take_succ_eq_append_getElem h, List.map_append]
  rfl
theorem impl_l1 (f g : List Int) (hf : f.length ≤ 1048576) (hg : g.length ≤ 1048576) (a b c d e r : List Int) : ∀ (n i : Nat) (x : List Int), f.length - i = n → i ≤ f.length → x = via (f.take i) g →
    Ev (fun k => impl_ComposeMorphisms.l1 k f (f.length : Int) (i : Int) c g r x) (if okB (f.drop i) g = true then (r, via f g, true) else ([], [], false)) := by
  intro n
  induction n with
  | zero =>
    intro i x hd hi hx
    obtain rfl : i = f.length := by omega
    refine Ev.step (fun k => by simp only [impl_ComposeMorphisms.l1]; rfl) (Ev.neg (by omega) (Ev.some_eq ?_))
    rw [hx, List.take_length, List.drop_of_length_le (Nat.le_refl _)]
    rfl
  | succ n ih =>
    intro i x hd hi hx
    have hlt : i < f.length := by omega
    refine Ev.step (fun k => by simp only [impl_ComposeMorphisms.l1]; rfl) (Ev.pos (by omega) (Ev.pos (by omega) (Ev.pos (by omega) ?_)))
    rw [List.drop_eq_getElem_cons hlt, okB_cons, rd_nat hlt]
    by_cases c1 : f[i] < 0
    · exact Ev.pos c1 (Ev.some_eq (by rw [show inB g.length f[i] = false by unfold inB; simp; omega]; rfl))
    · refine Ev.neg c1 ?_
      by_cases c2 : f[i] ≥ (g.length : Int)
      · exact Ev.pos c2 (Ev.some_eq (by rw [show inB g.length f[i] = false by unfold inB; simp; omega]; rfl))
      · refine Ev.neg c2 (Ev.pos (by omega) (Ev.pos (by omega) (Ev.pos (by rw [hx]; unfold via; simp; omega) ?_)))
        rw [show inB g.length f[i] = true by unfold inB; simp; omega, wrap_succ (by omega), Bool.true_and]
        refine ih (i + 1) _ (by omega) (by omega) ?_
        rw [hx, via_succ hlt]
theorem impl_l0 (f0 f1 g0 g1 : List Int) (hf : f0.length ≤ 1048576) (hg : g0.length ≤ 1048576) (hf1 : f1.length ≤ 1048576) (hg1 : g1.length ≤ 1048576) : ∀ (n i : Nat) (x : List Int), f0.length - i = n → i ≤ f0.length → x = via (f0.take i) g0 →
    Ev (fun k => impl_ComposeMorphisms.l0 k f0 (f0.length : Int) (i : Int) f0 f1 g0 g1 x) (if okB (f0.drop i) g0 = true then (if okB f1 g1 = true then (via f0 g0, via f1 g1, true) else ([], [], false)) else ([], [], false)) := by
  intro n
  induction n with
  | zero =>
    intro i x hd hi hx
    obtain rfl : i = f0.length := by omega
    refine Ev.step (fun k => by simp only [impl_ComposeMorphisms.l0]; rfl) (Ev.neg (by omega) ?_)
    rw [hx, List.take_length, List.drop_of_length_le (Nat.le_refl _)]
    have := impl_l1 f1 g1 hf1 hg1 [] [] g0 [] [] (via f0 g0) f1.length 0 [] (by omega) (by omega) rfl
    simpa [okB] using this
  | succ n ih =>
    intro i x hd hi hx
    have hlt : i < f0.length := by omega
    refine Ev.step (fun k => by simp only [impl_ComposeMorphisms.l0]; rfl) (Ev.pos (by omega) (Ev.pos (by omega) (Ev.pos (by omega) ?_)))
    rw [List.drop_eq_getElem_cons hlt, okB_cons, rd_nat hlt]
    by_cases c1 : f0[i] < 0
    · exact Ev.pos c1 (Ev.some_eq (by rw [show inB g0.length f0[i] = false by unfold inB; simp; omega]; rfl))
    · refine Ev.neg c1 ?_
      by_cases c2 : f0[i] ≥ (g0.length : Int)
      · exact Ev.pos c2 (Ev.some_eq (by rw [show inB g0.length f0[i] = false by unfold inB; simp; omega]; rfl))
      · refine Ev.neg c2 (Ev.pos (by omega) (Ev.pos (by omega) (Ev.pos (by rw [hx]; unfold via; simp; omega) ?_)))
        rw [show inB g0.length f0[i] = true by unfold inB; simp; omega, wrap_succ (by omega), Bool.true_and]
        refine ih (i + 1) _ (by omega) (by omega) ?_
        rw [hx, via_succ hlt]
theorem implCompose_ev (f0 f1 g0 g1 : List Int) (h0 : f0.length ≤ 1048576) (h1 : f1.length ≤ 1048576) (h2 : g0.length ≤ 1048576) (h3 : g1.length ≤ 1048576) :
    Ev (fun k => impl_ComposeMorphisms.f k f0 f1 g0 g1) (compM f0 f1 g0 g1) := impl_l0 f0 f1 g0 g1 h0 h2 h1 h3 f0.length 0 [] (by omega) (by omega) rfl

theorem in_eq {n : Nat} (hn : n ≤ 1048576) (k : Int) : spec_l1In.f k 0 (wrap64 ((n : Int) - 1)) = some (inB n k) := by
  rw [l1In_eq, wrap_id (by omega) (by omega)]
  unfold inB
  congr 2
  by_cases h : k < (n : Int)
  · rw [decide_eq_true h, decide_eq_true (by omega)]
  · rw [decide_eq_false h, decide_eq_false (by omega)]
theorem spec_l1 (f g : List Int) (hf : f.length ≤ 1048576) (hg : g.length ≤ 1048576) (a c r : List Int) : ∀ (n i : Nat) (x : List Int), f.length - i = n → i ≤ f.length → x = via (f.take i) g →
    Ev (fun k => spec_ComposeMorphisms.l1 k (i : Int) a f c g r x) (if okB (f.drop i) g = true then (r, via f g, true) else ([], [], false)) := by
  intro n
  induction n with
  | zero =>
    intro i x hd hi hx
    obtain rfl : i = f.length := by omega
    refine Ev.step (fun k => by simp only [spec_ComposeMorphisms.l1]; rfl) (Ev.neg (by omega) (Ev.some_eq ?_))
    rw [hx, List.take_length, List.drop_of_length_le (Nat.le_refl _)]
    rfl
  | succ n ih =>
    intro i x hd hi hx
    have hlt : i < f.length := by omega
    refine Ev.step (fun k => by simp only [spec_ComposeMorphisms.l1]; rfl) (Ev.pos (by omega) (Ev.pos (by omega) ?_))
    rw [List.drop_eq_getElem_cons hlt, okB_cons, rd_nat hlt, in_eq hg]
    simp only [Option.bind_some]
    cases hb : inB g.length f[i] with
    | false => exact Ev.neg (by decide) (Ev.some_eq rfl)
    | true =>
      have hb' := hb
      unfold inB at hb'
      simp at hb'
      refine Ev.pos rfl (Ev.pos (by omega) (Ev.pos (by omega) (Ev.pos (by rw [hx]; unfold via; simp; omega) ?_)))
      rw [wrap_succ (by omega), Bool.true_and]
      refine ih (i + 1) _ (by omega) (by omega) ?_
      rw [hx, via_succ hlt]
theorem spec_l0 (f0 f1 g0 g1 : List Int) (hf : f0.length ≤ 1048576) (hg : g0.length ≤ 1048576) (hf1 : f1.length ≤ 1048576) (hg1 : g1.length ≤ 1048576) : ∀ (n i : Nat) (x : List Int), f0.length - i = n → i ≤ f0.length → x = via (f0.take i) g0 →
    Ev (fun k => spec_ComposeMorphisms.l0 k (i : Int) f0 f1 g0 g1 x) (if okB (f0.drop i) g0 = true then (if okB f1 g1 = true then (via f0 g0, via f1 g1, true) else ([], [], false)) else ([], [], false)) := by
  intro n
  induction n with
  | zero =>
    intro i x hd hi hx
    obtain rfl : i = f0.length := by omega
    refine Ev.step (fun k => by simp only [spec_ComposeMorphisms.l0]; rfl) (Ev.neg (by omega) ?_)
    rw [hx, List.take_length, List.drop_of_length_le (Nat.le_refl _)]
    have := spec_l1 f1 g1 hf1 hg1 f0 g0 (via f0 g0) f1.length 0 [] (by omega) (by omega) rfl
    simpa [okB] using this
  | succ n ih =>
    intro i x hd hi hx
    have hlt : i < f0.length := by omega
    refine Ev.step (fun k => by simp only [spec_ComposeMorphisms.l0]; rfl) (Ev.pos (by omega) (Ev.pos (by omega) ?_))
    rw [List.drop_eq_getElem_cons hlt, okB_cons, rd_nat hlt, in_eq hg]
    simp only [Option.bind_some]
    cases hb : inB g0.length f0[i] with
    | false => exact Ev.neg (by decide) (Ev.some_eq rfl)
    | true =>
      have hb' := hb
      unfold inB at hb'
      simp at hb'
      refine Ev.pos rfl (Ev.pos (by omega) (Ev.pos (by omega) (Ev.pos (by rw [hx]; unfold via; simp; omega) ?_)))
      rw [wrap_succ (by omega), Bool.true_and]
      refine ih (i + 1) _ (by omega) (by omega) ?_
      rw [hx, via_succ hlt]
theorem specCompose_ev (f0 f1 g0 g1 : List Int) (h0 : f0.length ≤ 1048576) (h1 : f1.length ≤ 1048576) (h2 : g0.length ≤ 1048576) (h3 : g1.length ≤ 1048576) :
    Ev (fun k => spec_ComposeMorphisms.f k f0 f1 g0 g1) (compM f0 f1 g0 g1) := spec_l0 f0 f1 g0 g1 h0 h2 h1 h3 f0.length 0 [] (by omega) (by omega) rfl

/-! ### contracts, in the words of Typed -/
theorem szM_any (u0 u1 : Value) (m0 m1 : List Int) (a : Int) (w : World) (h0 : RdI w u0 m0) (h1 : RdI w u1 m1) (r : Int) (h : laws_szMorphism.f m0 m1 a = some r) :
    Calls Try.prog 34 #[.agg #[u0, u1], .int .i64 a] w fun e w' => e = .returned (.int .i64 r) ∧ Below w.heap.size w w' := by
  obtain ⟨A0, c0, rfl, l0, r0⟩ := h0
  obtain ⟨A1, c1, rfl, l1, r1⟩ := h1
  refine (laws_szMorphism.calls _ _ m0 _ _ m1 a r w r0 l0 r1 l1 h).mono ?_
  rintro e w' ⟨he, hb⟩
  exact ⟨he, hb⟩
theorem toM_any (u0 u1 : Value) (m0 m1 : List Int) (w : World) (h0 : RdI w u0 m0) (h1 : RdI w u1 m1) (l0 : m0.length ≤ 1048576) (l1 : m1.length ≤ 1048576) :
    Calls Try.prog 36 #[.agg #[u0, u1]] w fun e w' => ∃ v0 v1, e = .returned (.agg #[v0, v1]) ∧ OwI w.heap.size w' v0 m0 ∧ OwI w.heap.size w' v1 m1 ∧ (∀ k, Fp v0 k → ¬ Fp v1 k) ∧ Below w.heap.size w w' := by
  obtain ⟨A0, c0, rfl, l0, r0⟩ := h0
  obtain ⟨A1, c1, rfl, l1, r1⟩ := h1
  have hev : Ev (fun k => laws_toMorphism.f k m0 m1) (m0, m1) := Ev.bind (toIntS_ev m0 (by omega)) (Ev.bind (toIntS_ev m1 (by omega)) (Ev.now _))
  obtain ⟨k, hk⟩ := hev.rounds
  refine (laws_toMorphism.calls k _ _ m0 _ _ m1 m0 m1 w r0 l0 r1 l1 hk).mono ?_
  rintro e w' ⟨v0, v1, he, ho0, ho1, hb⟩
  exact ⟨v0, v1, he, OwI.of ho0, OwI.of ho1, fun k h0 h1 => ho0.1 k h0 h1.symm, hb⟩
theorem eqM_any (u0 u1 v0 v1 : Value) (m0 m1 : List Int) (w : World) (h0 : RdI w u0 m0) (h1 : RdI w u1 m1) (h2 : RdI w v0 m0) (h3 : RdI w v1 m1) (l0 : m0.length ≤ 1048576) (l1 : m1.length ≤ 1048576) :
    Calls Try.prog 38 #[.agg #[u0, u1], .agg #[v0, v1]] w fun e w' => e = .returned (.bool true) ∧ Below w.heap.size w w' := by
  obtain ⟨A0, c0, rfl, l0, r0⟩ := h0
  obtain ⟨A1, c1, rfl, l1, r1⟩ := h1
  obtain ⟨A2, c2, rfl, l2, r2⟩ := h2
  obtain ⟨A3, c3, rfl, l3, r3⟩ := h3
  have hev : Ev (fun k => laws_eqMorphism.f k m0 m1 m0 m1) true := Ev.bind (eqIntS_ev m0 (by omega)) (Ev.pos rfl (Ev.bind (eqIntS_ev m1 (by omega)) (Ev.pos rfl (Ev.now _))))
  obtain ⟨k, hk⟩ := hev.rounds
  refine (laws_eqMorphism.calls k _ _ m0 _ _ m1 _ _ m0 _ _ m1 true w r0 l0 r1 l1 r2 l2 r3 l3 hk).mono ?_
  rintro e w' ⟨he, hb⟩
  exact ⟨he, hb⟩
theorem markM_any (v0 v1 : Value) (m0 m1 : List Int) (a : Int) (w0 w : World) (hB : Below w0.heap.size w0 w) (h0 : OwI w0.heap.size w v0 m0) (h1 : OwI w0.heap.size w v1 m1) (hd : ∀ k, Fp v0 k → ¬ Fp v1 k) (ha : 0 ≤ a) (hal : a ≤ 1073741824) (l0 : m0.length ≤ 1048576) (l1 : m1.length ≤ 1048576) :
    Calls Try.prog 39 #[.agg #[v0, v1], .int .i64 a] w fun e w' => e = .returned (.int .i64 (a + m0.length + m1.length)) ∧ OwI w0.heap.size w' v0 (upFrom a m0.length) ∧ OwI w0.heap.size w' v1 (upFrom (a + m0.length) m1.length) ∧ Below w0.heap.size w0 w' ∧ Kept w w' (fun k => Fp v0 k ∨ Fp v1 k) := by
  have hev : Ev (fun k => laws_markMorphism.f k m0 m1 a) (a + m0.length + m1.length, upFrom a m0.length, upFrom (a + m0.length) m1.length) :=
    Ev.bind (markIntS_ev m0 a ha (by omega)) (Ev.bind (markIntS_ev m1 (a + m0.length) (by omega) (by omega)) (Ev.now _))
  obtain ⟨k, hk⟩ := hev.rounds
  refine (laws_markMorphism.calls k (Fp v0) v0 m0 (Fp v1) v1 m1 a _ _ _ w0 w hB h0 hd h1 (fun k h1 h0 => hd k h0 h1) hk).mono ?_
  rintro e w' ⟨he, ho0, ho1, hb, hk⟩
  exact ⟨he, OwI.of ho0, OwI.of ho1, hb, hk⟩
theorem heldM_any (v0 v1 : Value) (n0 n1 : Nat) (a : Int) (w : World) (h0 : RdI w v0 (upFrom a n0)) (h1 : RdI w v1 (upFrom (a + n0) n1)) (ha : 0 ≤ a) (hal : a ≤ 1073741824) (l0 : n0 ≤ 1048576) (l1 : n1 ≤ 1048576) :
    Calls Try.prog 40 #[.agg #[v0, v1], .int .i64 a] w fun e w' => e = .returned (.int .i64 (a + n0 + n1)) ∧ Below w.heap.size w w' := by
  obtain ⟨A0, c0, rfl, l0, r0⟩ := h0
  obtain ⟨A1, c1, rfl, l1, r1⟩ := h1
  have hev : Ev (fun k => laws_heldMorphism.f k (upFrom a n0) (upFrom (a + n0) n1) a) (a + n0 + n1) :=
    Ev.bind (heldIntS_ev a n0 ha (by omega)) (Ev.neg (by omega) (Ev.bind (heldIntS_ev (a + n0) n1 (by omega) (by omega)) (Ev.neg (by omega) (Ev.now _))))
  obtain ⟨k, hk⟩ := hev.rounds
  refine (laws_heldMorphism.calls k _ _ (upFrom a n0) _ _ (upFrom (a + n0) n1) a _ w r0 l0 r1 l1 hk).mono ?_
  rintro e w' ⟨he, hb⟩
  exact ⟨he, hb⟩
theorem implC_any (u0 u1 v0 v1 : Value) (f0 f1 g0 g1 r0 r1 : List Int) (rb : Bool) (hr : compM f0 f1 g0 g1 = (r0, r1, rb)) (w : World) (h0 : RdI w u0 f0) (h1 : RdI w u1 f1) (h2 : RdI w v0 g0) (h3 : RdI w v1 g1) (l0 : f0.length ≤ 1048576) (l1 : f1.length ≤ 1048576) (l2 : g0.length ≤ 1048576) (l3 : g1.length ≤ 1048576) :
    Calls Try.prog 37 #[.agg #[u0, u1], .agg #[v0, v1]] w fun e w' => ∃ x0 x1, e = .returned (.tuple #[.agg #[x0, x1], .bool rb]) ∧ OwI w.heap.size w' x0 r0 ∧ OwI w.heap.size w' x1 r1 ∧ (∀ k, Fp x0 k → ¬ Fp x1 k) ∧ Below w.heap.size w w' := by
  obtain ⟨A0, c0, rfl, b0, r0⟩ := h0
  obtain ⟨A1, c1, rfl, b1, r1⟩ := h1
  obtain ⟨A2, c2, rfl, b2, r2⟩ := h2
  obtain ⟨A3, c3, rfl, b3, r3⟩ := h3
  obtain ⟨k, hk⟩ := (implCompose_ev f0 f1 g0 g1 l0 l1 l2 l3).rounds
  rw [hr] at hk
  refine (impl_ComposeMorphisms.calls k _ _ f0 _ _ f1 _ _ g0 _ _ g1 _ _ _ w r0 b0 r1 b1 r2 b2 r3 b3 hk).mono ?_
  rintro e w' ⟨x0, x1, he, ho0, ho1, hb⟩
  exact ⟨x0, x1, he, OwI.of ho0, OwI.of ho1, fun k h0 h1 => ho0.1 k h0 h1.symm, hb⟩
theorem specC_any (u0 u1 v0 v1 : Value) (f0 f1 g0 g1 r0 r1 : List Int) (rb : Bool) (hr : compM f0 f1 g0 g1 = (r0, r1, rb)) (w : World) (h0 : RdI w u0 f0) (h1 : RdI w u1 f1) (h2 : RdI w v0 g0) (h3 : RdI w v1 g1) (l0 : f0.length ≤ 1048576) (l1 : f1.length ≤ 1048576) (l2 : g0.length ≤ 1048576) (l3 : g1.length ≤ 1048576) :
    Calls Try.prog 35 #[.agg #[u0, u1], .agg #[v0, v1]] w fun e w' => ∃ x0 x1, e = .returned (.tuple #[.agg #[x0, x1], .bool rb]) ∧ OwI w.heap.size w' x0 r0 ∧ OwI w.heap.size w' x1 r1 ∧ (∀ k, Fp x0 k → ¬ Fp x1 k) ∧ Below w.heap.size w w' := by
  obtain ⟨A0, c0, rfl, b0, r0⟩ := h0
  obtain ⟨A1, c1, rfl, b1, r1⟩ := h1
  obtain ⟨A2, c2, rfl, b2, r2⟩ := h2
  obtain ⟨A3, c3, rfl, b3, r3⟩ := h3
  obtain ⟨k, hk⟩ := (specCompose_ev f0 f1 g0 g1 l0 l1 l2 l3).rounds
  rw [hr] at hk
  refine (spec_ComposeMorphisms.calls k _ _ f0 _ _ f1 _ _ g0 _ _ g1 _ _ _ w r0 b0 r1 b1 r2 b2 r3 b3 hk).mono ?_
  rintro e w' ⟨x0, x1, he, ho0, ho1, hb⟩
  exact ⟨x0, x1, he, OwI.of ho0, OwI.of ho1, fun k h0 h1 => ho0.1 k h0 h1.symm, hb⟩
theorem comp_len {f0 f1 g0 g1 : List Int} : (compM f0 f1 g0 g1).1.length ≤ f0.length ∧ (compM f0 f1 g0 g1).2.1.length ≤ f1.length := by
  unfold compM
  split
  · split
    · simp [via]
    · simp
  · simp
end Go.Proofs.Ytfnkobcmhbdcoaa.Morphs
