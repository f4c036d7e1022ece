/- FnExactNumeralTerm, joined. -/
import Derived.Test.YtfnkobcmhbdcoaaLawNum
namespace Go.Proofs.Ytfnkobcmhbdcoaa.LawNumT
open Go.RowKit Go.Proofs.YtfnkobcmhbdcoaaW.PrintWords Go.Proofs.YtfnkobcmhbdcoaaW.PrintLast Go.Proofs.Ytfnkobcmhbdcoaa.Base Go.Proofs.Ytfnkobcmhbdcoaa.XTypes Go.Proofs.Ytfnkobcmhbdcoaa.XInts Go.Proofs.Ytfnkobcmhbdcoaa.PureInts Go.Proofs.Ytfnkobcmhbdcoaa.Typed Go.Proofs.Ytfnkobcmhbdcoaa.Trees Go.Proofs.Ytfnkobcmhbdcoaa.XTm Go.Proofs.Ytfnkobcmhbdcoaa.EqT Go.Proofs.Ytfnkobcmhbdcoaa.MarkT Go.Proofs.Ytfnkobcmhbdcoaa.HeldT Go.Proofs.Ytfnkobcmhbdcoaa.NumT Go.Proofs.Ytfnkobcmhbdcoaa.LawNum
set_option linter.unusedVariables false
set_option linter.unusedSimpArgs false
set_option linter.unnecessarySimpa false

set_option maxHeartbeats 1000000 in
set_option maxRecDepth 100000 in
theorem impl_out (x : Int) (hx : x < 0 ∨ 19 < x) (w : World) : Calls Try.prog 28 #[.int .i64 x] w (Gives 0 [] false w) := by
  have ht : (decide (x < 0) || decide (19 < x)) = true := by simpa using hx
  go_enter Try.func28, Try.ntmps28
  by_cases h0 : x < 0
  · go_wp2_with fail
    refine name_post ?_
    intro W1 hW
    obtain ⟨g0, b1⟩ := boxed hW
    clear hW
    refine bodyPost_ret (results_ct rfl _ _ w.heap.size 35 #[.int .i64 0, .string ⟨#[]⟩, .int .i64 0, .slice none 0 0] (0, 0) _ rfl g0 Try.underlying35 rfl (by kernel_rfl)) rfl ?_
    exact ⟨_, [], rfl, OwL.nil _, (fun k hk => by cases hk), b1⟩
  · have h1 : 19 < x := by omega
    go_wp2_with fail
    refine name_post ?_
    intro W1 hW
    obtain ⟨g0, b1⟩ := boxed hW
    clear hW
    refine bodyPost_ret (results_ct rfl _ _ w.heap.size 35 #[.int .i64 0, .string ⟨#[]⟩, .int .i64 0, .slice none 0 0] (0, 0) _ rfl g0 Try.underlying35 rfl (by kernel_rfl)) rfl ?_
    exact ⟨_, [], rfl, OwL.nil _, (fun k hk => by cases hk), b1⟩
theorem impl_in (n : Nat) (hn : n ≤ 19) (w : World) : Calls Try.prog 28 #[.int .i64 n] w (Gives (numO n) (numA n) true w) := impl_num n hn w

/-! ### the reference -/
theorem num_loop (n : Nat) (hn : n ≤ 19) : ∀ (d j : Nat), n - j = d → j ≤ n → Ev (fun k => spec_NumeralTerm.l0 k (n : Int) (j : Int) (numO j) ⟨#[]⟩ 0 (numA j)) (numO n, ⟨#[]⟩, 0, numA n, true) := by
  intro d
  induction d with
  | zero =>
    intro j hd hj
    obtain rfl : j = n := by omega
    exact Ev.step (fun k => by simp only [spec_NumeralTerm.l0]; rfl) (Ev.neg (by omega) (Ev.now _))
  | succ d ih =>
    intro j hd hj
    refine Ev.step (fun k => by simp only [spec_NumeralTerm.l0]; rfl) (Ev.pos (by omega) ?_)
    rw [wrap_succ (by omega)]
    exact ih (j + 1) (by omega) (by omega)
theorem spec_in (n : Nat) (hn : n ≤ 19) (w : World) : Calls Try.prog 27 #[.int .i64 n] w (Shows (numO n) (numA n) true w) := by
  have h : Ev (fun k => spec_NumeralTerm.f k (n : Int)) (numO n, ⟨#[]⟩, 0, numA n, true) := by
    unfold spec_NumeralTerm.f
    rw [l1In_eq]
    simp only [Option.bind_some]
    exact Ev.pos (by simp; omega) (num_loop n hn n 0 (by omega) (by omega))
  obtain ⟨k, hk⟩ := h.rounds
  refine (spec_NumeralTerm.calls k (n : Int) _ _ _ _ _ w hk).mono ?_
  rintro e w' ⟨va, rfl, hN, hb⟩
  obtain ⟨A, c, rfl, hc, hC⟩ := Kd.N_reads hN
  exact ⟨_, rfl, ⟨A, c, rfl, hc, hC⟩, hb⟩
theorem spec_out (x : Int) (hx : x < 0 ∨ 19 < x) (w : World) : Calls Try.prog 27 #[.int .i64 x] w (Shows 0 [] false w) := by
  have h : Ev (fun k => spec_NumeralTerm.f k x) (0, ⟨#[]⟩, 0, [], false) := by
    unfold spec_NumeralTerm.f
    rw [l1In_eq]
    simp only [Option.bind_some]
    exact Ev.neg (by simp; omega) (Ev.now _)
  obtain ⟨k, hk⟩ := h.rounds
  refine (spec_NumeralTerm.calls k x _ _ _ _ _ w hk).mono ?_
  rintro e w' ⟨va, rfl, hN, hb⟩
  obtain ⟨A, c, rfl, hc, hC⟩ := Kd.N_reads hN
  exact ⟨_, rfl, ⟨A, c, rfl, hc, hC⟩, hb⟩
theorem nod_num (n : Nat) : nodL (numA n) = n := by
  induction n with
  | zero => simp [numA, nodL]
  | succ n ih => simp [numA, nodL, nod, ih]; omega

theorem walk (a0 : Int) (w : World) (w0 : (Lit.int .i64 a0).wf = true) : Calls Try.prog 6 #[.int .i64 a0] w fun e w' => e = .returned (.bool true) ∧ Below w.heap.size w w' := by
  by_cases hx : a0 < 0 ∨ 19 < a0
  · exact walk_of a0 0 [] false (by simp [nodL]) (impl_out a0 hx) (spec_out a0 hx) w
  · obtain ⟨n, rfl⟩ : ∃ n : Nat, a0 = n := ⟨a0.toNat, by omega⟩
    have hn : n ≤ 19 := by omega
    exact walk_of n (numO n) (numA n) true (by rw [nod_num]; omega) (impl_in n hn) (spec_in n hn) w
end Go.Proofs.Ytfnkobcmhbdcoaa.LawNumT
