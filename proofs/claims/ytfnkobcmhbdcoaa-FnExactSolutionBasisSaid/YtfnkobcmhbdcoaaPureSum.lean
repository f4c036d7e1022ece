/- Plain laws of the printed sums. -/
import Derived.Test.YtfnkobcmhbdcoaaPureInts
import Derived.Test.YtfnkobcmhbdcoaaXSum1
import Derived.Test.YtfnkobcmhbdcoaaXSum2
namespace Go.Proofs.Ytfnkobcmhbdcoaa.PureSum
open Go.RowKit Go.Proofs.YtfnkobcmhbdcoaaW.PrintWords Go.Proofs.YtfnkobcmhbdcoaaW.PrintLast Go.Proofs.Ytfnkobcmhbdcoaa.Base Go.Proofs.Ytfnkobcmhbdcoaa.XTypes Go.Proofs.Ytfnkobcmhbdcoaa.XInts Go.Proofs.Ytfnkobcmhbdcoaa.XProb Go.Proofs.Ytfnkobcmhbdcoaa.XSum Go.Proofs.Ytfnkobcmhbdcoaa.Problem Go.Proofs.Ytfnkobcmhbdcoaa.PureInts
set_option linter.unusedVariables false
set_option linter.unusedSimpArgs false
set_option linter.unnecessarySimpa false

def sumTo (f : Nat → Int) : Nat → Int
  | 0 => 0
  | n + 1 => sumTo f n + f n
theorem sumTo_bound {f : Nat → Int} {c : Int} {n : Nat} (h : ∀ i, i < n → -c ≤ f i ∧ f i ≤ c) : -(c * n) ≤ sumTo f n ∧ sumTo f n ≤ c * n := by
  induction n with
  | zero => simp [sumTo]
  | succ n ih =>
    have h1 := ih (fun i hi => h i (by omega))
    have h2 := h n (by omega)
    have e : c * ((n + 1 : Nat) : Int) = c * n + c := by rw [Int.natCast_add, Int.mul_add]; simp
    simp only [sumTo]
    rw [e]
    omega
theorem sumTo_congr {f g : Nat → Int} {n : Nat} (h : ∀ i, i < n → f i = g i) : sumTo f n = sumTo g n := by
  induction n with
  | zero => rfl
  | succ n ih => simp only [sumTo]; rw [ih (fun i hi => h i (by omega)), h n (by omega)]
/-- The sum of one side. -/
def dot (a y : List Int) : Int := sumTo (fun i => rd a (i : Int) * rd y (i : Int)) a.length
/-- Both lists are small: no product leaves 2^20. -/
def Small (a y : List Int) : Prop := a.length ≤ 1024 ∧ ∀ i, i < a.length → -1048576 ≤ rd a (i : Int) * rd y (i : Int) ∧ rd a (i : Int) * rd y (i : Int) ≤ 1048576

theorem l34Sum_loop (a y : List Int) (hl : a.length ≤ y.length) (hs : Small a y) : ∀ (d i : Nat), a.length - i = d → i ≤ a.length →
    Ev (fun k => spec_l34Sum.l0 k a y (sumTo (fun i => rd a (i : Int) * rd y (i : Int)) i) (i : Int)) (dot a y) := by
  intro d
  induction d with
  | zero =>
    intro i hd hi
    obtain rfl : i = a.length := by omega
    exact Ev.step (fun k => by simp only [spec_l34Sum.l0]; rfl) (Ev.neg (by omega) (Ev.now _))
  | succ d ih =>
    intro i hd hi
    have hlt : i < a.length := by omega
    have hb := sumTo_bound (f := fun i => rd a (i : Int) * rd y (i : Int)) (c := 1048576) (n := i) (fun j hj => hs.2 j (by omega))
    have hp := hs.2 i hlt
    have hn := hs.1
    refine Ev.step (fun k => by simp only [spec_l34Sum.l0]; rfl) (Ev.pos (by omega) (Ev.pos (by omega) (Ev.pos (by omega) ?_)))
    have e1 : wrap64 (rd a (i : Int) * rd y (i : Int)) = rd a (i : Int) * rd y (i : Int) := wrap_id (by omega) (by omega)
    rw [e1, wrap_id (by omega) (by omega), wrap_succ (by omega)]
    exact ih (i + 1) (by omega) (by omega)
theorem l34Sum_ev (a y : List Int) (hl : a.length ≤ y.length) (hs : Small a y) : Ev (fun k => spec_l34Sum.f k a y) (dot a y) := l34Sum_loop a y hl hs a.length 0 (by omega) (by omega)

theorem balance_loop1 (a b x : List Int) (hl : a.length + b.length ≤ x.length) (hs : Small b (x.drop a.length)) (s : Int) (hs0 : -1073741824 ≤ s ∧ s ≤ 1073741824) (hxl : x.length ≤ 1099511627776) : ∀ (d i : Nat), b.length - i = d → i ≤ b.length →
    Ev (fun k => impl_balance.l1 k a x (s - sumTo (fun i => rd b (i : Int) * rd (x.drop a.length) (i : Int)) i) b (b.length : Int) (i : Int)) (s - dot b (x.drop a.length)) := by
  intro d
  induction d with
  | zero =>
    intro i hd hi
    obtain rfl : i = b.length := by omega
    exact Ev.step (fun k => by simp only [impl_balance.l1]; rfl) (Ev.neg (by omega) (Ev.now _))
  | succ d ih =>
    intro i hd hi
    have hlt : i < b.length := by omega
    have hb := sumTo_bound (f := fun i => rd b (i : Int) * rd (x.drop a.length) (i : Int)) (c := 1048576) (n := i) (fun j hj => hs.2 j (by omega))
    have hp := hs.2 i hlt
    have hn := hs.1
    have e0 : wrap64 ((a.length : Int) + i) = ((a.length + i : Nat) : Int) := by rw [wrap_id (by omega) (by omega)]; omega
    refine Ev.step (fun k => by simp only [impl_balance.l1]; rfl) (Ev.pos (by omega) (Ev.pos (by omega) (Ev.pos (by omega) ?_)))
    rw [e0]
    refine Ev.pos (by omega) (Ev.pos (by omega) ?_)
    have er : rd x ((a.length + i : Nat) : Int) = rd (x.drop a.length) (i : Int) := by
      rw [rd_nat (by omega), rd_nat (by simp; omega)]
      simp
    rw [er]
    have e1 : wrap64 (rd b (i : Int) * rd (x.drop a.length) (i : Int)) = rd b (i : Int) * rd (x.drop a.length) (i : Int) := wrap_id (by omega) (by omega)
    rw [e1, wrap_id (by omega) (by omega), wrap_succ (by omega)]
    have := ih (i + 1) (by omega) (by omega)
    simp only [sumTo] at this
    rw [Int.sub_sub]
    exact this
theorem balance_loop0 (a b x : List Int) (hl : a.length + b.length ≤ x.length) (hsa : Small a x) (hs : Small b (x.drop a.length)) (hxl : x.length ≤ 1099511627776) : ∀ (d i : Nat), a.length - i = d → i ≤ a.length →
    Ev (fun k => impl_balance.l0 k a b x (sumTo (fun i => rd a (i : Int) * rd x (i : Int)) i) a (a.length : Int) (i : Int)) (dot a x - dot b (x.drop a.length)) := by
  intro d
  induction d with
  | zero =>
    intro i hd hi
    obtain rfl : i = a.length := by omega
    have hb := sumTo_bound (f := fun i => rd a (i : Int) * rd x (i : Int)) (c := 1048576) (n := a.length) (fun j hj => hsa.2 j (by omega))
    have hn := hsa.1
    refine Ev.step (fun k => by simp only [impl_balance.l0]; rfl) (Ev.neg (by omega) ?_)
    have := balance_loop1 a b x hl hs (dot a x) (by unfold dot; omega) hxl b.length 0 (by omega) (by omega)
    simp only [sumTo, Int.sub_zero] at this
    exact this
  | succ d ih =>
    intro i hd hi
    have hlt : i < a.length := by omega
    have hb := sumTo_bound (f := fun i => rd a (i : Int) * rd x (i : Int)) (c := 1048576) (n := i) (fun j hj => hsa.2 j (by omega))
    have hp := hsa.2 i hlt
    have hn := hsa.1
    refine Ev.step (fun k => by simp only [impl_balance.l0]; rfl) (Ev.pos (by omega) (Ev.pos (by omega) (Ev.pos (by omega) (Ev.pos (by omega) ?_))))
    have e1 : wrap64 (rd a (i : Int) * rd x (i : Int)) = rd a (i : Int) * rd x (i : Int) := wrap_id (by omega) (by omega)
    rw [e1, wrap_id (by omega) (by omega), wrap_succ (by omega)]
    exact ih (i + 1) (by omega) (by omega)
theorem balance_ev (a b x : List Int) (hl : a.length + b.length ≤ x.length) (hsa : Small a x) (hs : Small b (x.drop a.length)) (hxl : x.length ≤ 1099511627776) :
    Ev (fun k => impl_balance.f k a b x) (dot a x - dot b (x.drop a.length)) := balance_loop0 a b x hl hsa hs hxl a.length 0 (by omega) (by omega)

/-- What a good problem and a bounded list give. -/
def boundB (x : List Int) : Bool := x.all fun k => decide (0 ≤ k) && decide (k ≤ 1000)
theorem facB_at {l : List Int} (h : facB l = true) {i : Nat} (hi : i < l.length) : 1 ≤ rd l (i : Int) ∧ rd l (i : Int) ≤ 5 := by
  unfold facB at h
  rw [List.all_eq_true] at h
  have := h l[i] (List.getElem_mem _)
  rw [rd_nat hi]
  simpa using this
theorem boundB_at {l : List Int} (h : boundB l = true) {i : Nat} (hi : i < l.length) : 0 ≤ rd l (i : Int) ∧ rd l (i : Int) ≤ 1000 := by
  unfold boundB at h
  rw [List.all_eq_true] at h
  have := h l[i] (List.getElem_mem _)
  rw [rd_nat hi]
  simpa using this
theorem probB_len {a b : List Int} (h : probB a b = true) : facB a = true ∧ facB b = true ∧ 0 < a.length ∧ 0 < b.length ∧ a.length + b.length ≤ 5 := by
  unfold probB at h
  rw [facB_append] at h
  simp only [Bool.and_eq_true, decide_eq_true_eq] at h
  exact ⟨h.1.1, h.1.2, h.2.1, h.2.2.1, h.2.2.2⟩
theorem small_of {a y : List Int} (ha : facB a = true) (hl : a.length ≤ 5) (hy : ∀ i, i < a.length → 0 ≤ rd y (i : Int) ∧ rd y (i : Int) ≤ 1000) : Small a y := by
  refine ⟨by omega, fun i hi => ?_⟩
  have h1 := facB_at ha hi
  have h2 := hy i hi
  have h3 : 0 ≤ rd a (i : Int) * rd y (i : Int) := Int.mul_nonneg (by omega) (by omega)
  have h4 : rd a (i : Int) * rd y (i : Int) ≤ 5 * 1000 := Int.mul_le_mul h1.2 h2.2 h2.1 (by omega)
  omega
/-- Is x a solution? -/
def solB (a b x : List Int) : Bool := probB a b && (decide (x.length = a.length + b.length) && (boundB x && decide (dot a (x.take a.length) = dot b (x.drop a.length))))
theorem dot_take {a x : List Int} (n : Nat) (h : a.length ≤ n) : dot a (x.take n) = dot a x := by
  unfold dot
  apply sumTo_congr
  intro i hi
  congr 1
  simp only [rd, List.getD_eq_getElem?_getD, Int.toNat_natCast]
  rw [List.getElem?_take_of_lt (by omega)]
end Go.Proofs.Ytfnkobcmhbdcoaa.PureSum
