/- Plain laws of the printed helpers of the bases; slices.Clone of integers. -/
import Derived.Test.YtfnkobcmhbdcoaaPureSum
import Derived.Test.YtfnkobcmhbdcoaaDioL
import Derived.Test.YtfnkobcmhbdcoaaTyped
import Derived.WalkSpells
namespace Go.Proofs.Ytfnkobcmhbdcoaa.PureDio
open Go.RowKit Go.Proofs.YtfnkobcmhbdcoaaW.PrintWords Go.Proofs.YtfnkobcmhbdcoaaW.PrintLast Go.Proofs.Ytfnkobcmhbdcoaa.Base Go.Proofs.Ytfnkobcmhbdcoaa.XTypes Go.Proofs.Ytfnkobcmhbdcoaa.XInts Go.Proofs.Ytfnkobcmhbdcoaa.XProb Go.Proofs.Ytfnkobcmhbdcoaa.XSum Go.Proofs.Ytfnkobcmhbdcoaa.Problem Go.Proofs.Ytfnkobcmhbdcoaa.PureInts Go.Proofs.Ytfnkobcmhbdcoaa.PureSum Go.Proofs.Ytfnkobcmhbdcoaa.Typed Go.Proofs.Ytfnkobcmhbdcoaa.Dio Go.Proofs.Ytfnkobcmhbdcoaa.DioL
set_option linter.unusedVariables false
set_option linter.unusedSimpArgs false
set_option linter.unnecessarySimpa false

theorem rd_gt (l : List Int) (i : Nat) : rd l (i : Int) = gt l i := by simp [rd, gt]
theorem sum_sm (f : Nat → Int) (n : Nat) : sumTo f n = sm f n := by
  induction n with
  | zero => rfl
  | succ n ih => simp only [sumTo, sm, ih]
theorem sm_split (f : Nat → Int) (n m : Nat) : sm f (n + m) = sm f n + sm (fun i => f (n + i)) m := by
  induction m with
  | zero => simp [sm]
  | succ m ih => rw [← Nat.add_assoc]; simp only [sm, ih]; omega
theorem bal_eq (a b x : List Int) : dot a x - dot b (x.drop a.length) = bal a b x := by
  unfold bal val
  rw [sm_split]
  unfold dot
  rw [sum_sm, sum_sm, sm_congr (f := fun i => cf a b i * gt x i) (g := fun i => rd a (i : Int) * rd x (i : Int)) (fun i hi => by simp only [cf, rd_gt]; rw [if_pos hi]),
    sm_congr (f := fun i => cf a b (a.length + i) * gt x (a.length + i)) (g := fun i => - (rd b (i : Int) * rd (x.drop a.length) (i : Int))) (fun i hi => by
      simp only [cf, rd_gt]
      rw [if_neg (by omega), Nat.add_sub_cancel_left, Int.neg_mul]
      congr 2
      simp [gt]), sm_neg_fn]
  omega
theorem fac_of {l : List Int} (h : facB l = true) : Fac l := fun i hi => by
  have := facB_at h hi
  rwa [rd_gt] at this

/-! ### the next choice -/
theorem nextL_snoc (x : Int) : ∀ p : List Int, nextL (p ++ [x]) = if x < 5 then some (p ++ [x + 1]) else (nextL p).map (fun q => q ++ [0]) := by
  intro p
  induction p with
  | nil => simp [nextL]
  | cons a p ih =>
    simp only [List.cons_append, nextL, ih]
    by_cases hx : x < 5
    · simp [hx]
    · simp only [if_neg hx]
      cases h : nextL p with
      | some q => simp
      | none =>
        simp only [Option.map_none]
        by_cases ha : a < 5
        · simp [ha, List.replicate_succ']
        · simp [ha]
def nextR (p : List Int) (m : Nat) : Bool × List Int := match nextL p with
  | some q => (true, q ++ List.replicate m 0)
  | none => (false, List.replicate (p.length + m) 0)
theorem next_loop : ∀ (n : Nat) (p : List Int) (m : Nat), p.length = n → n + m ≤ 1048576 → (∀ x ∈ p, 0 ≤ x ∧ x ≤ 5) → Ev (fun k => impl_nextChoice.l0 k (p ++ List.replicate m 0) 6 ((n : Int) - 1)) (nextR p m) := by
  intro n
  induction n with
  | zero =>
    intro p m hp hm h5
    obtain rfl : p = [] := List.length_eq_zero_iff.1 hp
    exact Ev.step (fun k => by simp only [impl_nextChoice.l0]; rfl) (Ev.neg (by omega) (Ev.some_eq (by simp [nextR, nextL])))
  | succ n ih =>
    intro p m hp hm h5
    obtain ⟨q, x, rfl⟩ : ∃ q x, p = q ++ [x] := by
      have hne : p ≠ [] := by intro e; rw [e] at hp; simp at hp
      exact ⟨p.dropLast, p.getLast hne, (List.dropLast_concat_getLast hne).symm⟩
    have hq : q.length = n := by simpa using hp
    have hx := h5 x (by simp)
    have e1 : (((n + 1 : Nat) : Int) - 1) = (n : Int) := by omega
    have hrd : rd ((q ++ [x]) ++ List.replicate m 0) (n : Int) = x := by simp [rd, hq]
    have hset : ((q ++ [x]) ++ List.replicate m 0).set n (x + 1) = (q ++ [x + 1]) ++ List.replicate m 0 := by
      rw [List.append_assoc, List.append_assoc, List.set_append_right _ _ (by omega), hq, Nat.sub_self]
      rfl
    have hset2 : ((q ++ [x + 1]) ++ List.replicate m 0).set n 0 = q ++ List.replicate (m + 1) 0 := by
      rw [List.append_assoc, List.set_append_right _ _ (by omega), hq, Nat.sub_self]
      rfl
    have hrd2 : rd ((q ++ [x + 1]) ++ List.replicate m 0) (n : Int) = x + 1 := by simp [rd, hq]
    rw [e1]
    refine Ev.step (fun k => by simp only [impl_nextChoice.l0]; rfl) (Ev.pos (by omega) (Ev.pos (by omega) (Ev.pos (by simp; omega) ?_)))
    simp only [Option.bind_some, Int.toNat_natCast, hrd]
    rw [wrap_id (by omega) (by omega), hset]
    simp only [hrd2]
    by_cases h : x < 5
    · refine Ev.pos (by omega) (Ev.some_eq ?_)
      simp [nextR, nextL_snoc, h]
    · refine Ev.neg (by omega) ?_
      rw [hset2, wrap_id (by omega) (by omega)]
      have := ih q (m + 1) hq (by omega) (fun y hy => h5 y (by simp [hy]))
      have e : nextR q (m + 1) = nextR (q ++ [x]) m := by
        simp only [nextR, nextL_snoc, if_neg h]
        cases hn : nextL q with
        | some d => simp [List.replicate_succ]
        | none => simp; omega
      rw [← e]
      exact this
theorem next_ev (c : List Int) (hl : c.length ≤ 1048576) (h5 : ∀ x ∈ c, 0 ≤ x ∧ x ≤ 5) : Ev (fun k => impl_nextChoice.f k c 6) (nextR c 0) := by
  unfold impl_nextChoice.f
  rw [wrap_id (by omega) (by omega)]
  have := next_loop c.length c 0 rfl (by omega) h5
  simpa using this

/-! ### under -/
theorem below_true {x y : List Int} (h : ∀ i, i < x.length → gt x i ≤ gt y i) : below x y = true := below_iff.2 h
theorem below_false {x y : List Int} {i : Nat} (hi : i < x.length) (h : gt y i < gt x i) : below x y = false := by
  cases hb : below x y with
  | false => rfl
  | true => have := below_iff.1 hb i hi; omega
theorem nowhere_loop (x y : List Int) (hxy : x.length ≤ y.length) (hl : x.length ≤ 1048576) : ∀ (d i : Nat), x.length - i = d → i ≤ x.length → (∀ j, j < i → gt x j ≤ gt y j) → Ev (fun k => impl_nowhereGreater.l0 k y x (x.length : Int) (i : Int)) (below x y) := by
  intro d
  induction d with
  | zero =>
    intro i hd hi h
    exact Ev.step (fun k => by simp only [impl_nowhereGreater.l0]; rfl) (Ev.neg (by omega) (Ev.some_eq (below_true (fun j hj => h j (by omega))).symm))
  | succ d ih =>
    intro i hd hi h
    refine Ev.step (fun k => by simp only [impl_nowhereGreater.l0]; rfl) (Ev.pos (by omega) (Ev.pos (by omega) (Ev.pos (by omega) (Ev.pos (by omega) ?_))))
    rw [rd_gt, rd_gt]
    by_cases hc : gt x i > gt y i
    · exact Ev.pos hc (Ev.some_eq (below_false (by omega) hc).symm)
    · refine Ev.neg hc ?_
      rw [wrap_succ (by omega)]
      refine ih (i + 1) (by omega) (by omega) (fun j hj => ?_)
      by_cases e : j = i
      · subst e; omega
      · exact h j (by omega)
theorem nowhere_ev (x y : List Int) (hxy : x.length ≤ y.length) (hl : x.length ≤ 1048576) : Ev (fun k => impl_nowhereGreater.f k x y) (below x y) := nowhere_loop x y hxy hl x.length 0 (by omega) (by omega) (fun j hj => absurd hj (Nat.not_lt_zero _))
theorem sbelow_loop (x y : List Int) (hxy : x.length ≤ y.length) (hl : x.length ≤ 1048576) : ∀ (d i : Nat), x.length - i = d → i ≤ x.length → (∀ j, j < i → gt x j ≤ gt y j) → Ev (fun k => spec_l34Below.l0 k x y (i : Int)) (below x y) := by
  intro d
  induction d with
  | zero =>
    intro i hd hi h
    exact Ev.step (fun k => by simp only [spec_l34Below.l0]; rfl) (Ev.neg (by omega) (Ev.some_eq (below_true (fun j hj => h j (by omega))).symm))
  | succ d ih =>
    intro i hd hi h
    refine Ev.step (fun k => by simp only [spec_l34Below.l0]; rfl) (Ev.pos (by omega) (Ev.pos (by omega) (Ev.pos (by omega) ?_)))
    rw [rd_gt, rd_gt]
    by_cases hc : gt x i > gt y i
    · exact Ev.pos hc (Ev.some_eq (below_false (by omega) hc).symm)
    · refine Ev.neg hc ?_
      rw [wrap_succ (by omega)]
      refine ih (i + 1) (by omega) (by omega) (fun j hj => ?_)
      by_cases e : j = i
      · subst e; omega
      · exact h j (by omega)
theorem sbelow_ev (x y : List Int) (hxy : x.length ≤ y.length) (hl : x.length ≤ 1048576) : Ev (fun k => spec_l34Below.f k x y) (below x y) := sbelow_loop x y hxy hl x.length 0 (by omega) (by omega) (fun j hj => absurd hj (Nat.not_lt_zero _))
theorem zero_loop (x : List Int) (hl : x.length ≤ 1048576) : ∀ (d i : Nat), x.length - i = d → i ≤ x.length → (∀ j, j < i → gt x j = 0) → Ev (fun k => spec_l34Zero.l0 k x (i : Int)) (zeroB x) := by
  intro d
  induction d with
  | zero =>
    intro i hd hi h
    exact Ev.step (fun k => by simp only [spec_l34Zero.l0]; rfl) (Ev.neg (by omega) (Ev.some_eq (zeroB_iff.2 (fun j hj => h j (by omega))).symm))
  | succ d ih =>
    intro i hd hi h
    refine Ev.step (fun k => by simp only [spec_l34Zero.l0]; rfl) (Ev.pos (by omega) (Ev.pos (by omega) ?_))
    rw [rd_gt]
    by_cases hc : gt x i = 0
    · refine Ev.pos hc ?_
      rw [wrap_succ (by omega)]
      refine ih (i + 1) (by omega) (by omega) (fun j hj => ?_)
      by_cases e : j = i
      · subst e; exact hc
      · exact h j (by omega)
    · refine Ev.neg hc (Ev.some_eq ?_)
      cases hz : zeroB x with
      | false => rfl
      | true => exact absurd (zeroB_iff.1 hz i (by omega)) hc
theorem zero_ev (x : List Int) (hl : x.length ≤ 1048576) : Ev (fun k => spec_l34Zero.f k x) (zeroB x) := zero_loop x hl x.length 0 (by omega) (by omega) (fun j hj => absurd hj (Nat.not_lt_zero _))
theorem mostN_snoc (l : List Int) (x : Int) : mostN (l ++ [x]) = max (mostN l) x.toNat := by
  induction l with
  | nil => simp [mostN]
  | cons a l ih => simp only [List.cons_append, mostN, ih]; omega
theorem l1Max_eq (a b : Int) : spec_l1Max.f a b = some (max a b) := by
  unfold spec_l1Max.f
  by_cases h : a > b
  · rw [if_pos h]; congr 1; omega
  · rw [if_neg h]; congr 1; omega
theorem most_loop (l : List Int) (hl : l.length ≤ 1048576) : ∀ (d i : Nat), l.length - i = d → i ≤ l.length → Ev (fun k => spec_l34Most.l0 k l ((mostN (l.take i) : Nat) : Int) (i : Int)) ((mostN l : Nat) : Int) := by
  intro d
  induction d with
  | zero =>
    intro i hd hi
    refine Ev.step (fun k => by simp only [spec_l34Most.l0]; rfl) (Ev.neg (by omega) (Ev.some_eq ?_))
    rw [List.take_of_length_le (by omega)]
  | succ d ih =>
    intro i hd hi
    have hlt : i < l.length := by omega
    refine Ev.step (fun k => by simp only [spec_l34Most.l0]; rfl) (Ev.pos (by omega) (Ev.pos (by omega) ?_))
    rw [l1Max_eq, rd_nat hlt]
    simp only [Option.bind_some]
    rw [wrap_succ (by omega)]
    have e : max ((mostN (l.take i) : Nat) : Int) l[i] = ((mostN (l.take (i + 1)) : Nat) : Int) := by
      rw [List.take_succ_eq_append_getElem hlt, mostN_snoc]
      omega
    rw [e]
    exact ih (i + 1) (by omega) (by omega)
theorem most_ev (l : List Int) (hl : l.length ≤ 1048576) : Ev (fun k => spec_l34Most.f k l) ((mostN l : Nat) : Int) := most_loop l hl l.length 0 (by omega) (by omega)

/-! ### slices.Clone -/
set_option maxHeartbeats 1000000 in
set_option maxRecDepth 100000 in
theorem clone_any (ad : Addr) (c : Nat) (l : List Int) (w : World) (hr : Kd.C (Kd.int .i64) w (some ad) l.length l) (hc : l.length ≤ c) (hlen : l.length ≤ 1048576) :
    Calls Try.prog 74 #[.slice (some ad) l.length c] w fun e w' => ∃ v, e = .returned v ∧ OwI w.heap.size w' v l ∧ Below w.heap.size w w' := by
  have HR := Lib.hid hr
  have HC := Lib.hid hc
  clear hr hc
  go_enter Try.func74, Try.ntmps74
  have q22 : ∀ (w : World) (a : Option Addr) (n c n' c' : Nat), (binOp .eql 24 (.slice a n c) (.slice none n' c')).run Try.prog w = .ok (.bool a.isNone) w := fun w a n c n' c' => Lib.run_eql_slice_nil w _ _ a n c n' c' Try.underlying24
  have hb : Below w.heap.size w (w.alloc (.cells #[] 3)) := below_alloc (Below.refl _ _) _
  have ho : Kd.R (Kd.int .i64) 3 (w.alloc (.cells #[] 3)) w.heap.size (fun _ => True) (.slice (some ⟨w.heap.size, 0, none⟩) 0 0) [] :=
    ⟨fun _ _ => trivial, [], ⟨rfl, .inr ⟨w.heap.size, 0, #[], rfl, Nat.le_refl _, blk_new _ _, Nat.le_refl _, by decide, rfl, rfl⟩⟩, Reps.none _ _⟩
  have HB := Lib.hid hb
  have HO := Lib.hid ho
  clear hb ho
  go_wp2_with (first | ((with_reducible refine gate_builtin (b := .append) (xs := #[.tmp 5, .tmp 6]) rfl ?_); refine Kd.R_append_row (Value.int .i64) (0 : Int) (w0 := w) w.heap.size rfl (.tmp 5) (.tmp 6) 24 3 (.int .i64 0) 8 rfl Try.underlying24 info_int rfl (by decide) (.slice (some ⟨w.heap.size, 0, none⟩) 0 0) [] l (some ad) l.length c (fun _ => True) rfl rfl (fun _ _ => trivial) HO.out (Kd.C_below HR.out HB.out) HB.out HB.out.size (by simp; omega) ?_; intro v1 w1 ho1 hb1 _ _; have HO1 := Lib.hid ho1; have HB1 := Lib.hid hb1; clear ho1 hb1))
  go_ret
  exact ⟨_, rfl, OwI.of (ok := fun _ => True) HO1.out, HB1.out⟩

/-! ### the helpers, called on what reads -/
theorem nextL_in : ∀ (c d : List Int), (∀ x ∈ c, 0 ≤ x ∧ x ≤ 5) → nextL c = some d → ∀ x ∈ d, 0 ≤ x ∧ x ≤ 5 := by
  intro c
  induction c with
  | nil => intro d _ h; simp [nextL] at h
  | cons a c ih =>
    intro d hc h
    have ha := hc a List.mem_cons_self
    unfold nextL at h
    split at h
    · rename_i ys hy
      injection h with h
      subst h
      intro x hx
      rcases List.mem_cons.1 hx with rfl | hx
      · exact ha
      · exact ih ys (fun x hx => hc x (List.mem_cons_of_mem _ hx)) hy x hx
    · split at h
      · injection h with h
        subst h
        intro x hx
        rcases List.mem_cons.1 hx with rfl | hx
        · omega
        · have := List.eq_of_mem_replicate hx; omega
      · cases h
theorem small_five {a x : List Int} (ha : Fac a) (hl : a.length ≤ 5) (hx : ∀ i, i < a.length → 0 ≤ gt x i ∧ gt x i ≤ 1000) : Small a x := by
  refine ⟨by omega, fun i hi => ?_⟩
  rw [rd_gt, rd_gt]
  have h1 := ha i hi
  have h2 := hx i hi
  have h3 : 0 ≤ gt a i * gt x i := Int.mul_nonneg (by omega) (by omega)
  have h4 : gt a i * gt x i ≤ 5 * 1000 := Int.mul_le_mul h1.2 h2.2 h2.1 (by omega)
  omega
theorem gt_in {c : List Int} {P : Int → Prop} (h : ∀ x ∈ c, P x) {i : Nat} (hi : i < c.length) : P (gt c i) := by
  rw [gt_lt hi]
  exact h _ (List.getElem_mem _)
theorem balance_any (va vb vx : Value) (a b x : List Int) (w : World) (ha : RdI w va a) (hb : RdI w vb b) (hx : RdI w vx x) (fa : Fac a) (fb : Fac b) (h5 : a.length + b.length ≤ 5) (hl : x.length = a.length + b.length) (hx5 : ∀ i, i < x.length → 0 ≤ gt x i ∧ gt x i ≤ 1000) :
    Calls Try.prog 64 #[va, vb, vx] w fun e w' => e = .returned (.int .i64 (bal a b x)) ∧ Below w.heap.size w w' := by
  obtain ⟨A0, c0, rfl, hc0, hr0⟩ := ha
  obtain ⟨A1, c1, rfl, hc1, hr1⟩ := hb
  obtain ⟨A2, c2, rfl, hc2, hr2⟩ := hx
  have hev := balance_ev a b x (by omega) (small_five fa (by omega) (fun i hi => hx5 i (by omega))) (small_five fb (by omega) (fun i hi => by
    have := hx5 (a.length + i) (by omega)
    have e : gt (x.drop a.length) i = gt x (a.length + i) := by simp [gt]
    rw [e]; exact this)) (by omega)
  rw [bal_eq] at hev
  obtain ⟨k, hk⟩ := hev.rounds
  refine (impl_balance.calls k A0 c0 a A1 c1 b A2 c2 x _ w hr0 hc0 hr1 hc1 hr2 hc2 hk).mono ?_
  rintro e w' ⟨rfl, ⟨n, rfl⟩⟩
  exact ⟨rfl, pw_below_drewN (Below.refl _ _) _⟩
theorem nowhere_any (vx vy : Value) (x y : List Int) (w : World) (hx : RdI w vx x) (hy : RdI w vy y) (hxy : x.length ≤ y.length) (hl : x.length ≤ 1048576) :
    Calls Try.prog 75 #[vx, vy] w fun e w' => e = .returned (.bool (below x y)) ∧ Below w.heap.size w w' := by
  obtain ⟨A0, c0, rfl, hc0, hr0⟩ := hx
  obtain ⟨A1, c1, rfl, hc1, hr1⟩ := hy
  obtain ⟨k, hk⟩ := (nowhere_ev x y hxy hl).rounds
  refine (impl_nowhereGreater.calls k A0 c0 x A1 c1 y _ w hr0 hc0 hr1 hc1 hk).mono ?_
  rintro e w' ⟨rfl, ⟨n, rfl⟩⟩
  exact ⟨rfl, pw_below_drewN (Below.refl _ _) _⟩
theorem next_any (v : Value) (c : List Int) (w0 w : World) (hB : Below w0.heap.size w0 w) (ho : OwI w0.heap.size w v c) (hl : c.length ≤ 1048576) (h5 : ∀ x ∈ c, 0 ≤ x ∧ x ≤ 5) (r1 : Bool) (r2 : List Int) (hr : nextR c 0 = (r1, r2)) :
    Calls Try.prog 73 #[v, .int .i64 6] w fun e w' => e = .returned (.bool r1) ∧ OwI w0.heap.size w' v r2 ∧ Below w0.heap.size w0 w' ∧ Kept w w' (Fp v) := by
  obtain ⟨k, hk⟩ := (next_ev c hl h5).rounds
  rw [hr] at hk
  refine (impl_nextChoice.calls k (Fp v) v c 6 r1 r2 w0 w hB ho hk).mono ?_
  rintro e w' ⟨rfl, ho, hb, hk⟩
  exact ⟨rfl, OwI.of ho, hb, hk⟩
theorem clone_rd (v : Value) (l : List Int) (w : World) (hr : RdI w v l) (hlen : l.length ≤ 1048576) (hne : ∃ k, v.ownBlock = some k) :
    Calls Try.prog 74 #[v] w fun e w' => ∃ v', e = .returned v' ∧ OwI w.heap.size w' v' l ∧ Below w.heap.size w w' := by
  obtain ⟨A, c, rfl, hc, hC⟩ := hr
  obtain ⟨k, hk⟩ := hne
  cases A with
  | none => simp [Value.ownBlock] at hk
  | some ad => exact clone_any ad c l w hC hc hlen
theorem most_any (v : Value) (l : List Int) (w : World) (h : RdI w v l) (hl : l.length ≤ 1048576) :
    Calls Try.prog 82 #[v] w fun e w' => e = .returned (.int .i64 (mostN l : Nat)) ∧ Below w.heap.size w w' := by
  obtain ⟨A0, c0, rfl, hc0, hr0⟩ := h
  obtain ⟨k, hk⟩ := (most_ev l hl).rounds
  refine (spec_l34Most.calls k A0 c0 l _ w hr0 hc0 hk).mono ?_
  rintro e w' ⟨rfl, ⟨n, rfl⟩⟩
  exact ⟨rfl, pw_below_drewN (Below.refl _ _) _⟩
theorem sums_of {a b x : List Int} (fa : Fac a) (fb : Fac b) (h5 : a.length + b.length ≤ 5) (hl : x.length = a.length + b.length) (hx : ∀ i, i < x.length → 0 ≤ gt x i ∧ gt x i ≤ 5) :
    (∃ k, spec_l34Sum.f k a (x.take a.length) = some (dot a (x.take a.length))) ∧ (∃ k, spec_l34Sum.f k b (x.drop a.length) = some (dot b (x.drop a.length))) ∧ (solve a b x = (decide (dot a (x.take a.length) = dot b (x.drop a.length)) && !zeroB x)) := by
  refine ⟨(l34Sum_ev a (x.take a.length) (by simp; omega) ?_).rounds, (l34Sum_ev b (x.drop a.length) (by simp; omega) ?_).rounds, ?_⟩
  · refine small_five fa (by omega) (fun i hi => ?_)
    have := hx i (by omega)
    have e : gt (x.take a.length) i = gt x i := by simp [gt, List.getElem?_take, hi]
    rw [e]
    omega
  · refine small_five fb (by omega) (fun i hi => ?_)
    have := hx (a.length + i) (by omega)
    have e : gt (x.drop a.length) i = gt x (a.length + i) := by simp [gt]
    rw [e]
    omega
  · unfold solve
    rw [← bal_eq, dot_take a.length (Nat.le_refl _)]
    congr 1
    by_cases e : dot a x = dot b (x.drop a.length)
    · rw [e]; simp
    · have : ¬ (dot a x - dot b (x.drop a.length) = 0) := by omega
      simp [e, this]
end Go.Proofs.Ytfnkobcmhbdcoaa.PureDio
