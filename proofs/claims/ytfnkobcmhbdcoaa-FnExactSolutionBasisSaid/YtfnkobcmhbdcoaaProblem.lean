/- impl.IsProblem, slices.Clone at []int: what they come to. -/
import Derived.Test.YtfnkobcmhbdcoaaConcat
namespace Go.Proofs.Ytfnkobcmhbdcoaa.Problem
open Go.RowKit Go.Proofs.YtfnkobcmhbdcoaaW.PrintWords Go.Proofs.YtfnkobcmhbdcoaaW.PrintLast Go.Proofs.YtfnkobcmhbdcoaaW.PrintMore Go.Proofs.Ytfnkobcmhbdcoaa.Base
set_option linter.unusedVariables false
set_option linter.unusedSimpArgs false
set_option linter.unnecessarySimpa false

def facB (l : List Int) : Bool := l.all fun k => decide (1 ≤ k) && decide (k ≤ 5)
def probB (a b : List Int) : Bool := facB (a ++ b) && (decide (0 < a.length) && (decide (0 < b.length) && decide (a.length + b.length ≤ 5)))
theorem facB_bad {l : List Int} {k : Nat} (hk : k < l.length) (h : rd l (k : Int) < 1 ∨ 5 < rd l (k : Int)) : facB l = false := by
  unfold facB
  rw [List.all_eq_false]
  refine ⟨l[k], List.getElem_mem _, ?_⟩
  have e : rd l (k : Int) = l[k] := by simp [rd, hk]
  rw [e] at h
  simp
  omega
theorem facB_good {l : List Int} (h : ∀ k : Nat, k < l.length → 1 ≤ rd l (k : Int) ∧ rd l (k : Int) ≤ 5) : facB l = true := by
  unfold facB
  rw [List.all_eq_true]
  intro x hx
  obtain ⟨k, hk, rfl⟩ := List.mem_iff_getElem.1 hx
  have := h k hk
  have e : rd l (k : Int) = l[k] := by simp [rd, hk]
  rw [e] at this
  simp
  omega

theorem pair_reads {w : World} {A0 A1 : Option Addr} {c0 c1 : Nat} {a b : List Int} (t : Nat) (hr0 : Kd.C (Kd.int .i64) w A0 a.length a) (hc0 : a.length ≤ c0) (hr1 : Kd.C (Kd.int .i64) w A1 b.length b) (hc1 : b.length ≤ c1) :
    Kd.C (Kd.slice 3 (Kd.int .i64)) (w.alloc (.cells #[.slice A0 a.length c0, .slice A1 b.length c1] t)) (some ⟨w.heap.size, 0, none⟩) [a, b].length [a, b] := by
  have hB : Below w.heap.size w (w.alloc (.cells #[.slice A0 a.length c0, .slice A1 b.length c1] t)) := (Below.refl _ _).alloc (Nat.le_refl _) _
  have hcell : ∀ j, (w.alloc (.cells #[.slice A0 a.length c0, .slice A1 b.length c1] t)).cell? ⟨w.heap.size, j, none⟩ = #[Value.slice A0 a.length c0, .slice A1 b.length c1][j]? := fun j => World.cell?_alloc_mark w _ t (0, 0) j
  refine ⟨rfl, by simp, fun _ => ⟨_, rfl, ?_⟩⟩
  intro j p hj
  match j, hj with
  | 0, hj =>
    obtain rfl : a = p := by simpa using hj
    refine ⟨[.slice A0 a.length c0], rfl, ⟨A0, c0, rfl, hc0, Kd.C_below hr0 hB⟩, ?_⟩
    intro i u hi
    match i, hi with
    | 0, hi =>
      have := hcell 0
      simp only [List.getElem?_cons_zero] at hi
      rw [← hi]
      first | exact this | simpa [Addr.add] using this
    | i + 1, hi => simp at hi
  | 1, hj =>
    obtain rfl : b = p := by simpa using hj
    refine ⟨[.slice A1 b.length c1], rfl, ⟨A1, c1, rfl, hc1, Kd.C_below hr1 hB⟩, ?_⟩
    intro i u hi
    match i, hi with
    | 0, hi =>
      have := hcell 1
      simp only [List.getElem?_cons_zero] at hi
      rw [← hi]
      have e : (Kd.slice 3 (Kd.int .i64)).sz = 1 := rfl
      rw [e]
      first | exact this | simpa [Addr.add] using this
    | i + 1, hi => simp at hi
  | j + 2, hj => simp at hj

set_option maxHeartbeats 1000000 in
set_option maxRecDepth 100000 in
theorem problem_any (A0 : Option Addr) (c0 : Nat) (a : List Int) (A1 : Option Addr) (c1 : Nat) (b : List Int) (w : World) (hr0 : Kd.C (Kd.int .i64) w A0 a.length a) (hc0 : a.length ≤ c0) (hr1 : Kd.C (Kd.int .i64) w A1 b.length b) (hc1 : b.length ≤ c1) (hl : a.length + b.length ≤ 1099511627776) :
    Calls Try.prog 19 #[.slice A0 a.length c0, .slice A1 b.length c1] w fun e w' => e = .returned (.bool (probB a b)) ∧ Below w.heap.size w w' := by
  have HR0 := Lib.hid hr0
  have HR1 := Lib.hid hr1
  have HC0 := Lib.hid hc0
  have HC1 := Lib.hid hc1
  clear hr0 hr1 hc0 hc1
  go_enter Try.func19, Try.ntmps19
  go_wp2_with fail
  refine (Concat.concat_any _ _ [a, b] _ (pair_reads 24 HR0.out HC0.out HR1.out HC1.out) (by simp; omega) (by simp)).mono ?_
  rintro e w1 ⟨v1, rfl, ho1, hb1⟩
  have hbw := Lib.hid (((Below.refl w.heap.size w).alloc (Nat.le_refl _) (.cells #[.slice A0 a.length c0, .slice A1 b.length c1] 24)).trans (hb1.mono (by simp)))
  obtain ⟨l, hle⟩ : ∃ l, l = a ++ b := ⟨_, rfl⟩
  have hfl : [a, b].flatten = l := by simp [hle]
  rw [hfl] at ho1
  have HL := Lib.hid hle
  have hll : l.length ≤ 1099511627776 := by rw [hle]; simp; omega
  obtain ⟨A2, c2, rfl, hc2, hC2⟩ := Kd.R_reads ho1
  have HC := Lib.hid hC2
  clear ho1 hb1 hC2 hfl hle
  go_wp2_with fail
  go_loop [6, 12, 13, 14, 15, 16, 17, 18, 19, 20, 21] (fun _ i _ _ _ _ _ _ _ _ _ => ∃ k : Nat, k ≤ l.length ∧ i = .int .i64 k ∧ Aside0 (∀ j : Nat, j < k → 1 ≤ rd l (j : Int) ∧ rd l (j : Int) ≤ 5)) (fun _ i _ _ _ _ _ _ _ _ _ => l.length - (intOf i).toNat)
  case atStart => exact ⟨0, Nat.zero_le _, rfl, ⟨fun j hj => absurd hj (Nat.not_lt_zero _)⟩⟩
  case round =>
    obtain ⟨k, hk, rfl, hgood⟩ := hrel
    by_cases hlt : k < l.length
    · obtain ⟨ad, rfl, hcell⟩ := Kd.at_int HC.out (k : Int) (by omega) (by omega)
      simp only [Int.toNat_natCast] at hcell
      generalize hx : rd l (k : Int) = x at *
      have HX := Lib.hid hx
      clear hx
      by_cases hbad : x < 1 ∨ 5 < x
      · have hfin : probB a b = false := by
          unfold probB
          rw [← HL.out, facB_bad hlt (by rw [HX.out]; exact hbad)]
          rfl
        have HF := Lib.hid hfin
        clear hfin
        rcases hbad with hbad | hbad
        · go_wp2_with fail
          go_ret
          exact ⟨by rw [HF.out]; rfl, hbw.out⟩
        · have h1 : ¬ x < 1 := by omega
          go_wp2_with fail
          go_ret
          exact ⟨by rw [HF.out]; rfl, hbw.out⟩
      · have h1 : 1 ≤ x := by omega
        have h5 : x ≤ 5 := by omega
        clear hbad
        go_wp2_with fail
        go_round
        case rel => exact ⟨k + 1, by omega, by go_num, ⟨fun j hj => by
          by_cases e : j = k
          · subst e; rw [HX.out]; exact ⟨h1, h5⟩
          · exact hgood.out j (by omega)⟩⟩
        case measure => simp [intOf]; omega
    · obtain rfl : k = l.length := by omega
      have hg := facB_good hgood.out
      have hfin : probB a b = (decide (0 < a.length) && (decide (0 < b.length) && decide (a.length + b.length ≤ 5))) := by
        unfold probB
        rw [← HL.out, hg]
        rfl
      have HF := Lib.hid hfin
      clear hfin hg hgood
      by_cases ha : 0 < a.length
      · by_cases hb : 0 < b.length
        · go_wp2_with fail
          go_ret
          refine ⟨?_, hbw.out⟩
          rw [HF.out]
          simp [ha, hb]
          omega
        · go_wp2_with fail
          go_ret
          exact ⟨by rw [HF.out]; simp [ha, hb], hbw.out⟩
      · go_wp2_with fail
        go_ret
        exact ⟨by rw [HF.out]; simp [ha], hbw.out⟩

/-- As the printed texts call it. -/
def impl_IsProblem.f (l0 l1 : List Int) : Option Bool := if l0.length + l1.length ≤ 1099511627776 then some (probB l0 l1) else none
theorem impl_IsProblem.calls (A0 : Option Addr) (c0 : Nat) (l0 : List Int) (A1 : Option Addr) (c1 : Nat) (l1 : List Int) (r : Bool) (w : World) (hr0 : Kd.C (Kd.int .i64) w A0 l0.length l0) (hc0 : l0.length ≤ c0) (hr1 : Kd.C (Kd.int .i64) w A1 l1.length l1) (hc1 : l1.length ≤ c1) (h : impl_IsProblem.f l0 l1 = some r) :
    Calls Try.prog 19 #[.slice A0 l0.length c0, .slice A1 l1.length c1] w fun e w' => e = .returned (.bool r) ∧ Below w.heap.size w w' := by
  unfold impl_IsProblem.f at h
  split at h
  · obtain rfl := Option.some.inj h
    exact problem_any A0 c0 l0 A1 c1 l1 w hr0 hc0 hr1 hc1 (by assumption)
  · cases h
end Go.Proofs.Ytfnkobcmhbdcoaa.Problem
