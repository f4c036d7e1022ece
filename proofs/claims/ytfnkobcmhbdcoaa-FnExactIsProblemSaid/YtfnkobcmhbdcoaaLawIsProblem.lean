/- The test of a problem: the program's answer is the reference's. -/
import Derived.Test.YtfnkobcmhbdcoaaPureInts
namespace Go.Proofs.Ytfnkobcmhbdcoaa.LawIsProblem
open Go.RowKit Go.Proofs.YtfnkobcmhbdcoaaW.PrintWords Go.Proofs.YtfnkobcmhbdcoaaW.PrintLast Go.Proofs.Ytfnkobcmhbdcoaa.Base Go.Proofs.Ytfnkobcmhbdcoaa.XTypes Go.Proofs.Ytfnkobcmhbdcoaa.XInts Go.Proofs.Ytfnkobcmhbdcoaa.XProb Go.Proofs.Ytfnkobcmhbdcoaa.Problem Go.Proofs.Ytfnkobcmhbdcoaa.PureInts

theorem pure_law (a b : List Int) : Ev (fun k => laws_FnExactIsProblem.f k a b) true := by
  unfold laws_FnExactIsProblem.f
  by_cases ha : (a.length : Int) > 1048576
  · exact Ev.pos ha (Ev.now _)
  · refine Ev.neg ha ?_
    by_cases hb : (b.length : Int) > 1048576
    · exact Ev.pos hb (Ev.now _)
    · refine Ev.neg hb ?_
      have ta := toIntS_ev a (by omega)
      have tb := toIntS_ev b (by omega)
      refine Ev.bind ta (Ev.bind tb (Ev.bind (specProblem_ev a b (by omega) (by omega)) (Ev.bind ta (Ev.bind tb ?_))))
      rw [implProblem_eq a b (by omega)]
      simp only [Option.bind_some]
      refine Ev.neg (by simp) ?_
      refine Ev.bind ta (Ev.bind (eqIntS_ev a (by omega)) (Ev.pos rfl (Ev.bind tb (Ev.bind (eqIntS_ev b (by omega)) (Ev.pos rfl (Ev.now _))))))

theorem walk (a0 : Option Addr) (len0 cap0 : Nat) (z0 : List Int) (a1 : Option Addr) (len1 cap1 : Nat) (z1 : List Int) (w : World)
    (w0 : (a0 = none ∧ len0 = 0 ∧ cap0 = 0 ∧ z0 = []) ∨ ∃ x, a0 = some x ∧ len0 ≤ cap0 ∧ cap0 ≤ maxLen ∧ z0.length = cap0 ∧ (∀ i, i < z0.length → w.cell? (x.add i) = some (.int .i64 (z0.getD i 0))) ∧ ∀ n ∈ z0, (Lit.int .i64 n).wf = true) (_y0 : len0 * 8 ≤ 140737488351232)
    (w1 : (a1 = none ∧ len1 = 0 ∧ cap1 = 0 ∧ z1 = []) ∨ ∃ x, a1 = some x ∧ len1 ≤ cap1 ∧ cap1 ≤ maxLen ∧ z1.length = cap1 ∧ (∀ i, i < z1.length → w.cell? (x.add i) = some (.int .i64 (z1.getD i 0))) ∧ ∀ n ∈ z1, (Lit.int .i64 n).wf = true) (_y1 : len1 * 8 ≤ 140737488351232) :
    Calls Try.prog 4 #[.slice a0 len0 cap0, .slice a1 len1 cap1] w fun e w' => e = .returned (.bool true) ∧ Below w.heap.size w w' := by
  obtain ⟨l0, rfl, hr0, hm0, hw0, hc0⟩ := ReadsInt.ofRowC w0
  obtain ⟨l1, rfl, hr1, hm1, hw1, hc1⟩ := ReadsInt.ofRowC w1
  obtain ⟨k, h⟩ := (pure_law l0 l1).rounds
  exact laws_FnExactIsProblem.calls k _ _ l0 _ _ l1 true w (Kd.C_of_reads (d := (0 : Int)) (h1 := fun _ => rfl) hr0) hc0 (Kd.C_of_reads (d := (0 : Int)) (h1 := fun _ => rfl) hr1) hc1 h

end Go.Proofs.Ytfnkobcmhbdcoaa.LawIsProblem
