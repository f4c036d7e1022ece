/- Plain laws of the printed functions over integers' slices: copying, comparing, the problem's test. -/
import Derived.Test.YtfnkobcmhbdcoaaXProb1
namespace Go.Proofs.Ytfnkobcmhbdcoaa.PureInts
open Go.RowKit Go.Proofs.YtfnkobcmhbdcoaaW.PrintWords Go.Proofs.YtfnkobcmhbdcoaaW.PrintLast Go.Proofs.Ytfnkobcmhbdcoaa.Base Go.Proofs.Ytfnkobcmhbdcoaa.XTypes Go.Proofs.Ytfnkobcmhbdcoaa.XInts Go.Proofs.Ytfnkobcmhbdcoaa.XProb Go.Proofs.Ytfnkobcmhbdcoaa.Problem
set_option linter.unusedVariables false
set_option linter.unusedSimpArgs false
set_option linter.unnecessarySimpa false

theorem wrap_succ {n : Nat} (h : n < 9223372036854775807) : wrap64 ((n : Int) + 1) = ((n + 1 : Nat) : Int) := by unfold wrap64; omega
theorem rd_nat {l : List Int} {i : Nat} (h : i < l.length) : rd l (i : Int) = l[i] := by simp [rd, h]
/-- A step of a chain of tests. -/
theorem Ev.pos {α : Type} {c : Prop} [Decidable c] {g f : Nat → Option α} {r : α} (hc : c) (h : Ev g r) : Ev (fun k => if c then g k else f k) r := Ev.congr (fun _ => if_pos hc) h
theorem Ev.neg {α : Type} {c : Prop} [Decidable c] {g f : Nat → Option α} {r : α} (hc : ¬ c) (h : Ev f r) : Ev (fun k => if c then g k else f k) r := Ev.congr (fun _ => if_neg hc) h
theorem Ev.some_eq {α : Type} {r s : α} (h : r = s) : Ev (fun _ => some r) s := h ▸ Ev.now _

/-! ### a copy -/
theorem toIntS_loop (l : List Int) (hl : l.length ≤ 35184372088832) : ∀ (d i : Nat) (x : List Int), l.length - i = d → i ≤ l.length → x.length = l.length → x.take i = l.take i →
    Ev (fun k => laws_toIntS.l0 k l x (i : Int)) l := by
  intro d
  induction d with
  | zero =>
    intro i x hd hi hx ht
    obtain rfl : i = l.length := by omega
    refine Ev.step (fun k => by simp only [laws_toIntS.l0]; rfl) (Ev.neg (by omega) (Ev.some_eq ?_))
    rw [List.take_length, List.take_of_length_le (by omega)] at ht
    exact ht
  | succ d ih =>
    intro i x hd hi hx ht
    have hlt : i < l.length := by omega
    refine Ev.step (fun k => by simp only [laws_toIntS.l0]; rfl) (Ev.pos (by omega) (Ev.pos (by omega) (Ev.pos (by omega) ?_)))
    rw [wrap_succ (by omega), rd_nat hlt]
    refine ih (i + 1) _ (by omega) (by omega) (by simpa using hx) ?_
    rw [Int.toNat_natCast, List.take_succ_eq_append_getElem (by simpa [hx] using hlt), List.take_succ_eq_append_getElem hlt]
    rw [List.take_set_of_le (Nat.le_refl _), ht]
    simp
theorem toIntS_ev (l : List Int) (hl : l.length ≤ 35184372088832) : Ev (fun k => laws_toIntS.f k l) l := by
  unfold laws_toIntS.f
  refine Ev.pos (by omega) (Ev.pos (by omega) ?_)
  exact toIntS_loop l hl l.length 0 _ (by omega) (by omega) (by simp) (by simp)

/-! ### alike -/
theorem eqIntS_loop (l : List Int) (hl : l.length ≤ 35184372088832) : ∀ (d i : Nat), l.length - i = d → i ≤ l.length → Ev (fun k => laws_eqIntS.l0 k l l (i : Int)) true := by
  intro d
  induction d with
  | zero =>
    intro i hd hi
    exact Ev.step (fun k => by simp only [laws_eqIntS.l0]; rfl) (Ev.neg (by omega) (Ev.now _))
  | succ d ih =>
    intro i hd hi
    refine Ev.step (fun k => by simp only [laws_eqIntS.l0]; rfl) (Ev.pos (by omega) (Ev.pos (by omega) (Ev.pos (by omega) (Ev.pos (c := rd l (i : Int) = rd l (i : Int)) rfl ?_))))
    rw [wrap_succ (by omega)]
    exact ih (i + 1) (by omega) (by omega)
theorem eqIntS_ev (l : List Int) (hl : l.length ≤ 35184372088832) : Ev (fun k => laws_eqIntS.f k l l) true := by
  unfold laws_eqIntS.f
  exact Ev.pos rfl (eqIntS_loop l hl l.length 0 (by omega) (by omega))

/-! ### the factors -/
theorem l1In_eq (a b c : Int) : spec_l1In.f a b c = some (decide (b ≤ a) && decide (a ≤ c)) := by
  unfold spec_l1In.f
  by_cases h : a ≥ b
  · rw [if_pos h]; simp [h]
  · rw [if_neg h]; simp; omega
theorem factors_loop (l : List Int) (hl : l.length ≤ 35184372088832) : ∀ (d i : Nat), l.length - i = d → i ≤ l.length → Ev (fun k => spec_l34Factors.l0 k l (i : Int)) (facB (l.drop i)) := by
  intro d
  induction d with
  | zero =>
    intro i hd hi
    refine Ev.step (fun k => by simp only [spec_l34Factors.l0]; rfl) (Ev.neg (by omega) (Ev.some_eq ?_))
    rw [List.drop_of_length_le (by omega)]
    rfl
  | succ d ih =>
    intro i hd hi
    have hlt : i < l.length := by omega
    refine Ev.step (fun k => by simp only [spec_l34Factors.l0]; rfl) (Ev.pos (by omega) (Ev.pos (by omega) ?_))
    rw [rd_nat hlt, l1In_eq, List.drop_eq_getElem_cons hlt]
    simp only [Option.bind_some]
    have hf : facB (l[i] :: l.drop (i + 1)) = ((decide (1 ≤ l[i]) && decide (l[i] ≤ 5)) && facB (l.drop (i + 1))) := rfl
    rw [hf]
    cases hb : (decide (1 ≤ l[i]) && decide (l[i] ≤ 5)) with
    | true =>
      refine Ev.pos rfl ?_
      rw [wrap_succ (by omega)]
      exact ih (i + 1) (by omega) (by omega)
    | false => exact Ev.neg (by decide) (Ev.now _)
theorem factors_ev (l : List Int) (hl : l.length ≤ 35184372088832) : Ev (fun k => spec_l34Factors.f k l) (facB l) := by
  exact factors_loop l hl l.length 0 (by omega) (by omega)
theorem facB_append (a b : List Int) : facB (a ++ b) = (facB a && facB b) := by unfold facB; rw [List.all_append]

/-! ### the problem's test -/
theorem specProblem_ev (a b : List Int) (ha : a.length ≤ 1099511627776) (hb : b.length ≤ 1099511627776) : Ev (fun k => spec_IsProblem.f k a b) (probB a b) := by
  unfold spec_IsProblem.f probB
  rw [facB_append]
  have hw : wrap64 ((a.length : Int) + b.length) = (a.length : Int) + b.length := wrap_id (by omega) (by omega)
  rw [hw]
  by_cases h0 : 0 < a.length
  · refine Ev.pos (by omega) ?_
    by_cases h1 : 0 < b.length
    · refine Ev.pos (by omega) ?_
      by_cases h2 : a.length + b.length ≤ 5
      · refine Ev.pos (by omega) ?_
        refine Ev.bind (factors_ev a (by omega)) ?_
        cases hfa : facB a with
        | true => exact Ev.pos rfl (Ev.bind (factors_ev b (by omega)) (Ev.some_eq (by simp [h0, h1, h2])))
        | false => exact Ev.neg (by decide) (Ev.some_eq (by simp))
      · exact Ev.neg (by omega) (Ev.some_eq (by simp [h2]))
    · exact Ev.neg (by omega) (Ev.some_eq (by simp [h1]))
  · exact Ev.neg (by omega) (Ev.some_eq (by simp [h0]))
theorem implProblem_eq (a b : List Int) (h : a.length + b.length ≤ 1099511627776) : impl_IsProblem.f a b = some (probB a b) := if_pos h


end Go.Proofs.Ytfnkobcmhbdcoaa.PureInts
