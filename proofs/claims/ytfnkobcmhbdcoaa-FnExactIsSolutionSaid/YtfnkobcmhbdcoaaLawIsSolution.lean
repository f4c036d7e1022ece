/- The test of a solution: the program's answer is the reference's. -/
import Derived.Test.YtfnkobcmhbdcoaaXSol1
namespace Go.Proofs.Ytfnkobcmhbdcoaa.LawIsSolution
open Go.RowKit Go.Proofs.YtfnkobcmhbdcoaaW.PrintWords Go.Proofs.YtfnkobcmhbdcoaaW.PrintLast Go.Proofs.Ytfnkobcmhbdcoaa.Base Go.Proofs.Ytfnkobcmhbdcoaa.XTypes Go.Proofs.Ytfnkobcmhbdcoaa.XInts Go.Proofs.Ytfnkobcmhbdcoaa.XProb Go.Proofs.Ytfnkobcmhbdcoaa.XSum Go.Proofs.Ytfnkobcmhbdcoaa.XSol Go.Proofs.Ytfnkobcmhbdcoaa.Problem Go.Proofs.Ytfnkobcmhbdcoaa.PureInts Go.Proofs.Ytfnkobcmhbdcoaa.PureSum Go.Proofs.Ytfnkobcmhbdcoaa.Solution

theorem small_x {a x : List Int} (ha : facB a = true) (hx : boundB x = true) (hl : a.length ≤ 5) (hlen : a.length ≤ x.length) : Small a x := small_of ha hl (fun _ hi => boundB_at hx (by omega))
theorem small_drop {b x : List Int} (n : Nat) (hb : facB b = true) (hx : boundB x = true) (hl : b.length ≤ 5) (hlen : n + b.length ≤ x.length) : Small b (x.drop n) := small_of hb hl (fun i hi => by
  have h := boundB_at hx (i := n + i) (by omega)
  rw [rd_nat (by simp; omega)]
  rw [rd_nat (by omega)] at h
  simpa using h)
theorem boundB_cons (z : Int) (l : List Int) : boundB (z :: l) = ((decide (0 ≤ z) && decide (z ≤ 1000)) && boundB l) := rfl

theorem implSol_loop (a b x : List Int) (hp : probB a b = true) (hlen : x.length = a.length + b.length) : ∀ (d i : Nat), x.length - i = d → i ≤ x.length → (∀ j, j < i → 0 ≤ rd x (j : Int) ∧ rd x (j : Int) ≤ 1000) →
    Ev (fun k => impl_IsSolution.l0 k a b x x (x.length : Int) (i : Int)) (boundB (x.drop i) && decide (dot a (x.take a.length) = dot b (x.drop a.length))) := by
  obtain ⟨hfa, hfb, h0, h1, h5⟩ := probB_len hp
  intro d
  induction d with
  | zero =>
    intro i hd hi hgood
    obtain rfl : i = x.length := by omega
    have hbx : boundB x = true := boundB_good (fun j hj => by have := hgood j hj; simp [this.1, this.2])
    refine Ev.step (fun k => by simp only [impl_IsSolution.l0]; rfl) (Ev.neg (by omega) ?_)
    refine Ev.bind (balance_ev a b x (by omega) (small_x hfa hbx (by omega) (by omega)) (small_drop a.length hfb hbx (by omega) (by omega)) (by omega)) (Ev.some_eq ?_)
    rw [List.drop_of_length_le (Nat.le_refl _), dot_take a.length (Nat.le_refl _)]
    have : boundB [] = true := rfl
    rw [this, Bool.true_and]
    by_cases e : dot a x = dot b (x.drop a.length)
    · rw [e]; simp
    · have : ¬ (dot a x - dot b (x.drop a.length) = 0) := by omega
      simp [e, this]
  | succ d ih =>
    intro i hd hi hgood
    have hlt : i < x.length := by omega
    refine Ev.step (fun k => by simp only [impl_IsSolution.l0]; rfl) (Ev.pos (by omega) (Ev.pos (by omega) (Ev.pos (by omega) ?_)))
    rw [List.drop_eq_getElem_cons hlt, boundB_cons, rd_nat hlt]
    by_cases c1 : x[i] < 0
    · exact Ev.pos c1 (Ev.some_eq (by rw [show decide (0 ≤ x[i]) = false by simp; omega]; rfl))
    · refine Ev.neg c1 ?_
      by_cases c2 : x[i] > 1000
      · exact Ev.pos c2 (Ev.some_eq (by rw [show decide (x[i] ≤ 1000) = false by simp; omega]; simp))
      · refine Ev.neg c2 ?_
        rw [wrap_succ (by omega), show decide (0 ≤ x[i]) = true by simp; omega, show decide (x[i] ≤ 1000) = true by simp; omega]
        refine ih (i + 1) (by omega) (by omega) (fun j hj => ?_)
        by_cases e : j = i
        · subst e; rw [rd_nat hlt]; omega
        · exact hgood j (by omega)

theorem implSol_ev (a b x : List Int) (ha : a.length ≤ 1048576) (hb : b.length ≤ 1048576) (hx : x.length ≤ 1048576) : Ev (fun k => impl_IsSolution.f k a b x) (solB a b x) := by
  unfold impl_IsSolution.f
  rw [implProblem_eq a b (by omega)]
  simp only [Option.bind_some]
  cases hp : probB a b with
  | false =>
    refine Ev.neg (by decide) (Ev.step (fun k => by simp only [impl_IsSolution.j0]; rfl) (Ev.pos (c := true = true) rfl (Ev.some_eq ?_)))
    unfold solB; rw [hp]; rfl
  | true =>
    refine Ev.pos rfl (Ev.step (fun k => by simp only [impl_IsSolution.j0]; rfl) ?_)
    rw [wrap_id (by omega) (by omega)]
    by_cases hlen : x.length = a.length + b.length
    · refine Ev.neg (by rw [hlen]; simp) ?_
      have := implSol_loop a b x hp hlen x.length 0 (by omega) (by omega) (fun j hj => absurd hj (Nat.not_lt_zero _))
      unfold solB
      rw [hp]
      simpa [hlen] using this
    · refine Ev.pos (by simp; omega) (Ev.some_eq ?_)
      unfold solB; simp [hlen]

theorem specSol_eq (a b x : List Int) (ha : a.length ≤ 1048576) (hb : b.length ≤ 1048576) (hx : x.length ≤ 1048576) : spec_IsSolution.f a b x = some (solB a b x) := if_pos ⟨by omega, by omega, by omega⟩

theorem pure_law (a b x : List Int) : Ev (fun k => laws_FnExactIsSolution.f k a b x) true := by
  unfold laws_FnExactIsSolution.f
  by_cases ha : (a.length : Int) > 1048576
  · exact Ev.pos ha (Ev.now _)
  · refine Ev.neg ha ?_
    by_cases hb : (b.length : Int) > 1048576
    · exact Ev.pos hb (Ev.now _)
    · refine Ev.neg hb ?_
      by_cases hx : (x.length : Int) > 1048576
      · exact Ev.pos hx (Ev.now _)
      · refine Ev.neg hx ?_
        have ta := toIntS_ev a (by omega)
        have tb := toIntS_ev b (by omega)
        have tx := toIntS_ev x (by omega)
        refine Ev.bind ta (Ev.bind tb (Ev.bind tx ?_))
        rw [specSol_eq a b x (by omega) (by omega) (by omega)]
        simp only [Option.bind_some]
        refine Ev.bind ta (Ev.bind tb (Ev.bind tx (Ev.bind (implSol_ev a b x (by omega) (by omega) (by omega)) (Ev.neg (by simp) ?_))))
        exact Ev.bind ta (Ev.bind (eqIntS_ev a (by omega)) (Ev.pos rfl (Ev.bind tb (Ev.bind (eqIntS_ev b (by omega)) (Ev.pos rfl (Ev.bind tx (Ev.bind (eqIntS_ev x (by omega)) (Ev.pos rfl (Ev.now _)))))))))

theorem walk (a0 : Option Addr) (len0 cap0 : Nat) (z0 : List Int) (a1 : Option Addr) (len1 cap1 : Nat) (z1 : List Int) (a2 : Option Addr) (len2 cap2 : Nat) (z2 : List Int) (w : World)
    (w0 : (a0 = none ∧ len0 = 0 ∧ cap0 = 0 ∧ z0 = []) ∨ ∃ x, a0 = some x ∧ len0 ≤ cap0 ∧ cap0 ≤ maxLen ∧ z0.length = cap0 ∧ (∀ i, i < z0.length → w.cell? (x.add i) = some (.int .i64 (z0.getD i 0))) ∧ ∀ n ∈ z0, (Lit.int .i64 n).wf = true) (_y0 : len0 * 8 ≤ 140737488351232)
    (w1 : (a1 = none ∧ len1 = 0 ∧ cap1 = 0 ∧ z1 = []) ∨ ∃ x, a1 = some x ∧ len1 ≤ cap1 ∧ cap1 ≤ maxLen ∧ z1.length = cap1 ∧ (∀ i, i < z1.length → w.cell? (x.add i) = some (.int .i64 (z1.getD i 0))) ∧ ∀ n ∈ z1, (Lit.int .i64 n).wf = true) (_y1 : len1 * 8 ≤ 140737488351232)
    (w2 : (a2 = none ∧ len2 = 0 ∧ cap2 = 0 ∧ z2 = []) ∨ ∃ x, a2 = some x ∧ len2 ≤ cap2 ∧ cap2 ≤ maxLen ∧ z2.length = cap2 ∧ (∀ i, i < z2.length → w.cell? (x.add i) = some (.int .i64 (z2.getD i 0))) ∧ ∀ n ∈ z2, (Lit.int .i64 n).wf = true) (_y2 : len2 * 8 ≤ 140737488351232) :
    Calls Try.prog 7 #[.slice a0 len0 cap0, .slice a1 len1 cap1, .slice a2 len2 cap2] w fun e w' => e = .returned (.bool true) ∧ Below w.heap.size w w' := by
  obtain ⟨l0, rfl, hr0, hm0, hw0, hc0⟩ := ReadsInt.ofRowC w0
  obtain ⟨l1, rfl, hr1, hm1, hw1, hc1⟩ := ReadsInt.ofRowC w1
  obtain ⟨l2, rfl, hr2, hm2, hw2, hc2⟩ := ReadsInt.ofRowC w2
  obtain ⟨k, h⟩ := (pure_law l0 l1 l2).rounds
  exact laws_FnExactIsSolution.calls k _ _ l0 _ _ l1 _ _ l2 true w (Kd.C_of_reads (d := (0 : Int)) (h1 := fun _ => rfl) hr0) hc0 (Kd.C_of_reads (d := (0 : Int)) (h1 := fun _ => rfl) hr1) hc1 (Kd.C_of_reads (d := (0 : Int)) (h1 := fun _ => rfl) hr2) hc2 h

end Go.Proofs.Ytfnkobcmhbdcoaa.LawIsSolution
