/- impl.CompareTerms, impl.sameTerm: alike exactly where nothing differs. strings.Compare's two contracts are the shelf's, laid under this claim's names. -/
import Derived.Test.YtfnkobcmhbdcoaaEqT
import Derived.Test.YtfnkobcmhbdcoaaMarkT
import Derived.Test.YtfnkobcmhbdcoaaXTm4
import Derived.Lib.Strings
import Derived.Lib.Slices
import Derived.Lib.Walk
import Derived.Lib.Bytealg
namespace Go.Proofs.Ytfnkobcmhbdcoaa.CmpT
open Go.RowKit Go.Proofs.YtfnkobcmhbdcoaaW.PrintWords Go.Proofs.YtfnkobcmhbdcoaaW.PrintLast Go.Proofs.Ytfnkobcmhbdcoaa.Base Go.Proofs.Ytfnkobcmhbdcoaa.XTypes Go.Proofs.Ytfnkobcmhbdcoaa.PureInts Go.Proofs.Ytfnkobcmhbdcoaa.Typed Go.Proofs.Ytfnkobcmhbdcoaa.Trees Go.Proofs.Ytfnkobcmhbdcoaa.XTm Go.Proofs.Ytfnkobcmhbdcoaa.EqT Go.Proofs.Ytfnkobcmhbdcoaa.MarkT
set_option linter.unusedVariables false
set_option linter.unusedSimpArgs false
set_option linter.unnecessarySimpa false

set_option maxHeartbeats 1000000 in
set_option maxRecDepth 100000 in
theorem compareString (a b : ByteArray) (w : World) :
    Calls Try.prog 108 #[.string a, .string b] w fun e w' => e = .returned (.int .i64 (Lib.compareBytes a.data.toList b.data.toList)) ∧ w' = w := by
  go_enter Try.func108, Try.ntmps108
  go_wp2
  rw [run_callFunc_extern Try.func115 (by kernel_rfl) (by kernel_rfl) (by kernel_rfl) (e := Extern.BytealgCompare.compare) (by kernel_rfl), Lib.run_compareString]
  simp only [Result.andThen]
  rw [Oper.upon_value]
  go_wp2
  go_ret
  exact ⟨rfl, rfl⟩
set_option maxHeartbeats 1000000 in
theorem stringsCompare (a b : ByteArray) (w : World) :
    Calls Try.prog 92 #[.string a, .string b] w fun e w' => e = .returned (.int .i64 (Lib.compareBytes a.data.toList b.data.toList)) ∧ w' = w := by
  go_enter Try.func92, Try.ntmps92
  go_wp2_with (go_at_call 108; refine (compareString _ _ _).mono ?_; rintro e w' ⟨rfl, rfl⟩)
  go_ret
  exact ⟨rfl, rfl⟩

/-! ### plain -/
def cmpI (a b : Int) : Int := if a < b then -1 else if a > b then 1 else 0
theorem cmpI_zero (a b : Int) : cmpI a b = 0 ↔ a = b := by
  unfold cmpI
  split
  · constructor
    · intro h; omega
    · intro h; omega
  · split
    · constructor
      · intro h; omega
      · intro h; omega
    · constructor
      · intro _; omega
      · intro _; rfl
theorem bytes_zero : ∀ (a b : List UInt8), Lib.compareBytes a b = 0 ↔ a = b
  | [], [] => by simp [Lib.compareBytes]
  | [], _ :: _ => by simp [Lib.compareBytes]
  | _ :: _, [] => by simp [Lib.compareBytes]
  | a :: l, b :: m => by
    unfold Lib.compareBytes
    split
    · rename_i h
      constructor
      · intro h'; omega
      · intro h'; injection h' with h1 _; rw [h1] at h; exact absurd h (by simp [UInt8.lt_irrefl])
    · split
      · rename_i _ h
        constructor
        · intro h'; omega
        · intro h'; injection h' with h1 _; rw [h1] at h; exact absurd h (by simp [UInt8.lt_irrefl])
      · rename_i h1 h2
        have e : a = b := UInt8.le_antisymm (UInt8.not_lt.1 h2) (UInt8.not_lt.1 h1)
        rw [bytes_zero l m, e]
        simp
def or3 (x y z : Int) : Int := if x = 0 then (if y = 0 then z else y) else x
theorem or3_zero (x y z : Int) : or3 x y z = 0 ↔ x = 0 ∧ y = 0 ∧ z = 0 := by
  unfold or3
  split
  · split
    · simp [*]
    · simp [*]
  · simp [*]
def headT (a b : T) : Int := or3 (cmpI a.f0 b.f0) (Lib.compareBytes a.f1.data.toList b.f1.data.toList) (cmpI a.f2 b.f2)
theorem headT_zero (a b : T) : headT a b = 0 ↔ a.f0 = b.f0 ∧ a.f1 = b.f1 ∧ a.f2 = b.f2 := by
  unfold headT
  rw [or3_zero, cmpI_zero, bytes_zero, cmpI_zero]
  constructor
  · rintro ⟨h1, h2, h3⟩
    refine ⟨h1, ?_, h3⟩
    cases ha : a.f1 with
    | mk x =>
      cases hb : b.f1 with
      | mk y =>
        rw [ha, hb] at h2
        simp only at h2
        rw [Array.toList_inj.1 h2]
  · rintro ⟨h1, h2, h3⟩
    exact ⟨h1, by rw [h2], h3⟩

/-! ### the small ones -/
theorem cmpI_any (a b : Int) (w : World) : Calls Try.prog 91 #[.int .i64 a, .int .i64 b] w fun e w' => e = .returned (.int .i64 (cmpI a b)) ∧ Below w.heap.size w w' := by
  refine (cmp_Compare_int.calls a b (cmpI a b) w ?_).mono ?_
  · simp [cmp_Compare_int.f, cmp_isNaN_int.f, cmpI]
    split <;> simp_all <;> split <;> simp_all
  · rintro e w' ⟨rfl, ⟨n, rfl⟩⟩
    exact ⟨rfl, pw_below_drewN (Below.refl _ _) _⟩
theorem or_ev (x y z : Int) : Ev (fun k => cmp_Or_int.f k [x, y, z]) (or3 x y z) := by
  unfold cmp_Or_int.f or3
  refine Ev.step (fun k => by simp only [cmp_Or_int.l0]; rfl) (Ev.pos (by simp) (Ev.pos (by omega) (Ev.pos (by simp) ?_)))
  have e0 : rd [x, y, z] 0 = x := rfl
  have w1 : wrap64 (0 + 1) = 1 := wrap_id (by omega) (by omega)
  have w2 : wrap64 (1 + 1) = 2 := wrap_id (by omega) (by omega)
  have w3 : wrap64 (2 + 1) = 3 := wrap_id (by omega) (by omega)
  have e1 : rd [x, y, z] 1 = y := rfl
  have e2 : rd [x, y, z] 2 = z := rfl
  have hl : (([x, y, z] : List Int).length : Int) = 3 := rfl
  rw [e0, hl, w1]
  by_cases hx : x = 0
  · rw [if_pos hx]
    refine Ev.pos hx ?_
    refine Ev.step (fun k => by simp only [cmp_Or_int.l0]; rfl) ?_
    rw [e1, hl, w2]
    refine Ev.pos (by omega) (Ev.pos (by omega) (Ev.pos (by omega) ?_))
    by_cases hy : y = 0
    · rw [if_pos hy]
      refine Ev.pos hy ?_
      refine Ev.step (fun k => by simp only [cmp_Or_int.l0]; rfl) ?_
      rw [e2, hl, w3]
      refine Ev.pos (by omega) (Ev.pos (by omega) (Ev.pos (by omega) ?_))
      by_cases hz : z = 0
      · refine Ev.pos hz ?_
        exact Ev.step (fun k => by simp only [cmp_Or_int.l0]; rfl) (Ev.neg (by omega) (Ev.some_eq hz.symm))
      · exact Ev.neg hz (Ev.now _)
    · rw [if_neg hy]
      exact Ev.neg hy (Ev.now _)
  · rw [if_neg hx]
    exact Ev.neg hx (Ev.now _)
theorem lit3 (W : World) (x y z : Int) : Kd.C (Kd.int .i64) (W.alloc (.cells #[.int .i64 x, .int .i64 y, .int .i64 z] 3)) (some ⟨W.heap.size, 0, none⟩) 3 [x, y, z] := by
  refine ⟨rfl, by simp, fun _ => ⟨_, rfl, fun j p hj => ⟨[.int .i64 p], rfl, rfl, fun i u hi => ?_⟩⟩⟩
  obtain rfl : i = 0 := by
    have := (List.getElem?_eq_some_iff.1 hi).1
    simp at this
    exact this
  obtain rfl : Value.int .i64 p = u := by simpa using hi
  have hc : (W.alloc (.cells #[.int .i64 x, .int .i64 y, .int .i64 z] 3)).cell? ⟨W.heap.size, j, none⟩ = some (.int .i64 p) := by
    simp only [World.cell?, blk_new]
    match j, hj with
    | 0, hj => obtain rfl : x = p := by simpa using hj
               rfl
    | 1, hj => obtain rfl : y = p := by simpa using hj
               rfl
    | 2, hj => obtain rfl : z = p := by simpa using hj
               rfl
  have ha : (⟨W.heap.size, 0, none⟩ : Addr).add (j * (Kd.sz (Kd.int .i64)) + 0) = ⟨W.heap.size, j, none⟩ := by
    have e : j * (Kd.sz (Kd.int .i64)) + 0 = j := by show j * 1 + 0 = j; omega
    rw [e]
    unfold Addr.add
    split
    · rename_i e; rw [e]
    · simp
  rw [ha]
  exact hc
theorem or_any (v : Value) (x y z : Int) (w : World) (h : Kd.C (Kd.int .i64) w (some ⟨v.ownBlock.getD 0, 0, none⟩) 3 [x, y, z]) (hv : v = .slice (some ⟨v.ownBlock.getD 0, 0, none⟩) 3 3) :
    Calls Try.prog 90 #[v] w fun e w' => e = .returned (.int .i64 (or3 x y z)) ∧ Below w.heap.size w w' := by
  obtain ⟨k, hk⟩ := (or_ev x y z).rounds
  rw [hv]
  refine (cmp_Or_int.calls k _ 3 [x, y, z] _ w h (by simp) hk).mono ?_
  rintro e w' ⟨rfl, ⟨n, rfl⟩⟩
  exact ⟨rfl, pw_below_drewN (Below.refl _ _) _⟩

theorem strC_any (a b : ByteArray) (w : World) : Calls Try.prog 92 #[.string a, .string b] w fun e w' => e = .returned (.int .i64 (Lib.compareBytes a.data.toList b.data.toList)) ∧ Below w.heap.size w w' := by
  refine (stringsCompare a b w).mono ?_
  rintro e w' ⟨rfl, rfl⟩
  exact ⟨rfl, Below.refl _ _⟩
theorem or_lit (W : World) (x y z : Int) (w : World) (h : w = W.alloc (.cells #[.int .i64 x, .int .i64 y, .int .i64 z] 3)) :
    Calls Try.prog 90 #[.slice (some ⟨W.heap.size, 0, none⟩) 3 3] w fun e w' => e = .returned (.int .i64 (or3 x y z)) ∧ Below w.heap.size w w' := by
  subst h
  exact or_any (.slice (some ⟨W.heap.size, 0, none⟩) 3 3) x y z _ (lit3 W x y z) rfl
theorem boxed4 {W W2 : World} {e : Nat} {a b c d : Value} (h : W2 = W.alloc (.cells #[a, b, c, d] e)) : W2.heap[W.heap.size]? = some (.cells #[a, b, c, d] e (0, 0)) ∧ Below W.heap.size W W2 := by
  subst h
  exact ⟨blk_new _ _, below_alloc (Below.refl _ _) _⟩
/-! ### the walk -/
def CmT (a : T) : Prop := ∀ (b : T) (v v' : Value) (w : World), RdL w v a.f3 → RdL w v' b.f3 →
  Calls Try.prog 80 #[.agg #[.int .i64 a.f0, .string a.f1, .int .i64 a.f2, v], .agg #[.int .i64 b.f0, .string b.f1, .int .i64 b.f2, v']] w fun e w' => ∃ c, e = .returned (.int .i64 c) ∧ (c = 0 ↔ a = b) ∧ Below w.heap.size w w'
theorem CmT.use {a : T} (h : CmT a) (b : T) {v v' : Value} {w : World} (hr : RdL w v a.f3) (hr' : RdL w v' b.f3) :
    Calls Try.prog 80 #[.agg #[.int .i64 a.f0, .string a.f1, .int .i64 a.f2, v], .agg #[.int .i64 b.f0, .string b.f1, .int .i64 b.f2, v']] w fun e w' => ∃ c, e = .returned (.int .i64 c) ∧ (c = 0 ↔ a = b) ∧ Below w.heap.size w w' := h b v v' w hr hr'
def CmL (ts : List T) : Prop := ∀ (us : List T) (v v' : Value) (w : World), RdL w v ts → RdL w v' us →
  Calls Try.prog 93 #[v, v', .func (.func 80) #[] #[]] w fun e w' => ∃ c, e = .returned (.int .i64 c) ∧ (c = 0 ↔ ts = us) ∧ Below w.heap.size w w'
theorem T.ext_iff (a b : T) : a = b ↔ (a.f0 = b.f0 ∧ a.f1 = b.f1 ∧ a.f2 = b.f2) ∧ a.f3 = b.f3 := by
  cases a
  cases b
  simp [and_assoc]
set_option maxHeartbeats 1000000 in
set_option maxRecDepth 100000 in
theorem cmT_of (a : T) (hL : CmL a.f3) : CmT a := by
  intro b v v' w hr hr'
  have HR := Lib.hid hr
  have HR' := Lib.hid hr'
  clear hr hr'
  obtain ⟨n1, t1, m1, us⟩ := a
  obtain ⟨n2, t2, m2, us'⟩ := b
  simp only at HR HR'
  have hx : headT ⟨n1, t1, m1, us⟩ ⟨n2, t2, m2, us'⟩ = or3 (cmpI n1 n2) (Lib.compareBytes t1.data.toList t2.data.toList) (cmpI m1 m2) := rfl
  have hz := headT_zero ⟨n1, t1, m1, us⟩ ⟨n2, t2, m2, us'⟩
  generalize headT ⟨n1, t1, m1, us⟩ ⟨n2, t2, m2, us'⟩ = hd at *
  have HX := Lib.hid hx
  have HZ := Lib.hid hz
  clear hx hz
  go_enter Try.func80, Try.ntmps80
  go_upto_region 1 with (fail)
  refine name_wp ?_
  intro W1 hW
  have B1 : Below w.heap.size w W1 := by rw [hW]; repeat (first | exact Below.refl _ _ | apply below_alloc)
  have g0 : W1.heap[w.heap.size]? = some (.cells #[.int .i64 n1, .string t1, .int .i64 m1, v] 35 (0, 0)) := by rw [hW]; exact (Go.Deep.blk_alloc_lt _ _ _ (by simp)).trans (blk_new w _)
  have g1 : W1.heap[w.heap.size + 1]? = some (.cells #[.int .i64 n2, .string t2, .int .i64 m2, v'] 35 (0, 0)) := by
    have e : (w.alloc (.cells #[.int .i64 n1, .string t1, .int .i64 m1, v] 35)).heap.size = w.heap.size + 1 := by simp
    rw [hW, ← e]
    exact blk_new _ _
  have HB := Lib.hid B1
  clear hW B1
  obtain ⟨c0, _, c1, _, c2, _, c3, _⟩ := cells4 (i := 0) g0 (by simp) rfl rfl rfl rfl
  obtain ⟨d0, _, d1, _, d2, _, d3, _⟩ := cells4 (i := 0) g1 (by simp) rfl rfl rfl rfl
  have BW : Below W1.heap.size W1 W1 := Below.refl _ _
  go_cut [5] (fun t wx => t = .int .i64 hd ∧ Below W1.heap.size W1 wx)
  case first =>
    go_region_held3 (fun w' => w'.cell? ⟨w.heap.size, 0, none⟩ = some (.int .i64 n1) ∧ w'.cell? ⟨w.heap.size, 1, none⟩ = some (.string t1) ∧ w'.cell? ⟨w.heap.size, 2, none⟩ = some (.int .i64 m1) ∧ w'.cell? ⟨w.heap.size + 1, 0, none⟩ = some (.int .i64 n2) ∧ w'.cell? ⟨w.heap.size + 1, 1, none⟩ = some (.string t2) ∧ w'.cell? ⟨w.heap.size + 1, 2, none⟩ = some (.int .i64 m2))
      (exact ⟨cell_below c0 (by repeat (first | exact BW | exact Below.refl _ _ | apply below_alloc | apply below_drew1 | apply pw_below_drewN)), cell_below c1 (by repeat (first | exact BW | exact Below.refl _ _ | apply below_alloc | apply below_drew1 | apply pw_below_drewN)), cell_below c2 (by repeat (first | exact BW | exact Below.refl _ _ | apply below_alloc | apply below_drew1 | apply pw_below_drewN)), cell_below d0 (by repeat (first | exact BW | exact Below.refl _ _ | apply below_alloc | apply below_drew1 | apply pw_below_drewN)), cell_below d1 (by repeat (first | exact BW | exact Below.refl _ _ | apply below_alloc | apply below_drew1 | apply pw_below_drewN)), cell_below d2 (by repeat (first | exact BW | exact Below.refl _ _ | apply below_alloc | apply below_drew1 | apply pw_below_drewN))⟩)
      (first
        | (go_at_call 91; refine name_calls ?_; intro Wq hWq; have BQ : Below W1.heap.size W1 Wq := (by rw [hWq]; first | done | (repeat (first | exact BW | exact Below.refl _ _ | apply below_alloc | apply below_drew1 | apply pw_below_drewN))); clear hWq; (with_reducible refine (cmpI_any _ _ Wq).mono ?_); rintro e Wn ⟨rfl, hb⟩; replace BW := below_to BQ hb BQ.size; clear hb BQ)
        | (go_at_call 92; refine name_calls ?_; intro Wq hWq; have BQ : Below W1.heap.size W1 Wq := (by rw [hWq]; first | done | (repeat (first | exact BW | exact Below.refl _ _ | apply below_alloc | apply below_drew1 | apply pw_below_drewN))); clear hWq; (with_reducible refine (strC_any _ _ Wq).mono ?_); rintro e Wn ⟨rfl, hb⟩; replace BW := below_to BQ hb BQ.size; clear hb BQ)
        | (go_at_call 90; refine name_calls ?_; intro Wq hWq; have BQ : Below W1.heap.size W1 Wq := (by rw [hWq]; first | done | (repeat (first | exact BW | exact Below.refl _ _ | apply below_alloc | apply below_drew1 | apply pw_below_drewN))); (with_reducible refine (or_lit _ _ _ _ Wq hWq).mono ?_); clear hWq; rintro e Wn ⟨rfl, hb⟩; replace BW := below_to BQ hb BQ.size; clear hb BQ))
    all_goals go_wp2_with fail
    all_goals go_meet
    all_goals exact ⟨by rw [HX.out], BW⟩
  case rest =>
  obtain ⟨rfl, hb⟩ := hcut
  obtain ⟨W2, rfl⟩ : ∃ W', W' = wc := ⟨_, rfl⟩
  have g0' := blk_below g0 hb
  have g1' := blk_below g1 hb
  have HB2 := Lib.hid (below_to HB.out hb HB.out.size)
  clear hb g0 g1 c0 c1 c2 c3 d0 d1 d2 d3 BW
  by_cases h0 : hd = 0
  · subst h0
    have hz' := HZ.out.1 rfl
    obtain ⟨c0, _, c1, _, c2, _, c3, _⟩ := cells4 (i := 0) g0' (by simp) rfl rfl rfl rfl
    obtain ⟨d0, _, d1, _, d2, _, d3, _⟩ := cells4 (i := 0) g1' (by simp) rfl rfl rfl rfl
    go_wp2_with fail
    refine ((hL us' v v' W2 (HR.out.below HB2.out) (HR'.out.below HB2.out))).mono ?_
    rintro e W3 ⟨c, rfl, hc, hb3⟩
    have HC := Lib.hid hc
    have HB3 := Lib.hid (below_to HB2.out hb3 HB2.out.size)
    clear hc hb3 c0 c1 c2 c3 d0 d1 d2 d3 g0' g1'
    go_wp2_with fail
    go_ret
    refine ⟨c, rfl, ?_, HB3.out⟩
    rw [HC.out]
    first
      | exact ⟨fun h => ⟨hz'.1, hz'.2.1, hz'.2.2, h⟩, fun h => h.2.2.2⟩
      | (rw [T.ext_iff]; exact ⟨fun h => ⟨hz', h⟩, fun h => h.2⟩)
  · have hne : (hd != 0) = true := by simpa using h0
    go_wp2_with fail
    go_ret
    refine ⟨hd, rfl, ?_, HB2.out⟩
    constructor
    · intro h
      exact absurd h h0
    · intro h
      first
        | exact absurd (HZ.out.2 ⟨h.1, h.2.1, h.2.2.1⟩) h0
        | exact absurd (HZ.out.2 ((T.ext_iff _ _).1 h).1) h0

set_option maxHeartbeats 1000000 in
set_option maxRecDepth 100000 in
theorem cmL_of (ts : List T) (h : ∀ t ∈ ts, CmT t) : CmL ts := by
  intro us v v' w hr hr'
  have hl := hr.len
  have hl' := hr'.len
  obtain ⟨A, c, rfl, hc, hC⟩ := hr
  obtain ⟨A', c', rfl, hc', hC'⟩ := hr'
  have HC := Lib.hid hC
  have HC' := Lib.hid hC'
  have HH := Lib.hid h
  clear hC hC' h
  go_enter Try.func93, Try.ntmps93
  go_wp2_with fail
  go_loopw [13] (fun i wr => ∃ k : Nat, k ≤ ts.length ∧ k ≤ us.length ∧ i = .int .i64 k ∧ Aside0 (ts.take k = us.take k) ∧ Aside0 (Below w.heap.size w wr)) (fun i _ => ts.length - (intOf i).toNat)
  case atStart => exact ⟨0, Nat.zero_le _, Nat.zero_le _, rfl, ⟨by simp⟩, ⟨Below.refl _ _⟩⟩
  case round =>
    obtain ⟨k, hk, hk', rfl, hE, hB⟩ := hrel
    by_cases hlt : k < ts.length
    · obtain ⟨ad, v3, rfl, e0, e1, e2, e3, hv3⟩ := elem_at (Kd.C_below HC.out hB.out) k hlt
      rw [rd_T hlt] at e0 e1 e2 hv3
      have hmem : ts[k] ∈ ts := List.getElem_mem _
      by_cases hlt' : k < us.length
      · obtain ⟨ad', v3', rfl, e0', e1', e2', e3', hv3'⟩ := elem_at (Kd.C_below HC'.out hB.out) k hlt'
        rw [rd_T hlt'] at e0' e1' e2' hv3'
        have ht1 : ts.take (k + 1) = ts.take k ++ [ts[k]] := List.take_succ_eq_append_getElem hlt
        have hu1 : us.take (k + 1) = us.take k ++ [us[k]] := List.take_succ_eq_append_getElem hlt'
        have htu : ts = us → ts[k] = us[k] := fun e => by subst e; rfl
        generalize ts[k] = t at *
        generalize us[k] = u at *
        obtain ⟨A3, c3, rfl, lc3, _⟩ := id hv3
        obtain ⟨A3', c3', rfl, lc3', _⟩ := id hv3'
        generalize hl3 : t.f3.length = l3 at *
        generalize hl3' : u.f3.length = l3' at *
        have HV := Lib.hid hv3
        have HV' := Lib.hid hv3'
        have HT := Lib.hid (And.intro ht1 (And.intro hu1 htu))
        have HM := Lib.hid hmem
        clear hv3 hv3' ht1 hu1 htu hmem
        go_upto_region 6 with (fail)
        refine name_wp ?_
        intro W1 hW
        obtain ⟨x0, b1⟩ := boxed4 hW
        replace e0' := cell_below e0' b1
        replace e1' := cell_below e1' b1
        replace e2' := cell_below e2' b1
        replace e3' := cell_below e3' b1
        have HB1 := Lib.hid (below_to hB.out b1 hB.out.size)
        have HV1 := Lib.hid (HV.out.below b1)
        have HV1' := Lib.hid (HV'.out.below b1)
        have HX := Lib.hid x0
        have hlt0 : wr.heap.size < W1.heap.size := heap_lt x0
        generalize hb0 : wr.heap.size = bx at *
        clear hW b1 x0 HV HV' hB e0 e1 e2 e3
        go_upto_region 7 with (fail)
        refine name_wp ?_
        intro W2 hW
        obtain ⟨y0, b2⟩ := boxed4 hW
        have HB2 := Lib.hid (below_to HB1.out b2 HB1.out.size)
        have HV2 := Lib.hid (HV1.out.below b2)
        have HV2' := Lib.hid (HV1'.out.below b2)
        obtain ⟨c0, _, c1, _, c2, _, c3, _⟩ := cells4 (i := 0) (blk_below HX.out b2) (by simp) rfl rfl rfl rfl
        obtain ⟨d0, _, d1, _, d2, _, d3, _⟩ := cells4 (i := 0) y0 (by simp) rfl rfl rfl rfl
        generalize hb1 : W1.heap.size = bz at *
        clear hW b2 y0 HV1 HV1' HB1 HX e0' e1' e2' e3'
        go_wp2_with fail
        refine ((HH.out t HM.out).use u HV2.out HV2'.out).mono ?_
        rintro e W3 ⟨q, rfl, hq, b3⟩
        have HQ := Lib.hid hq
        have HB3 := Lib.hid (below_to HB2.out b3 HB2.out.size)
        clear hq b3 c0 c1 c2 c3 d0 d1 d2 d3 HV2 HV2' HB2
        by_cases h0 : q = 0
        · have htu : t = u := HQ.out.1 h0
          subst h0
          subst htu
          go_wp2_with fail
          go_roundw
          case rel => exact ⟨k + 1, by omega, by omega, by go_num, ⟨by rw [HT.out.1, HT.out.2.1, hE.out]⟩, ⟨HB3.out⟩⟩
          case measure => simp [intOf]; omega
        · have hne : (q != 0) = true := by simpa using h0
          go_wp2_with fail
          go_ret
          exact ⟨q, rfl, ⟨fun h => absurd h h0, fun e => absurd (HQ.out.2 (HT.out.2.2 e)) h0⟩, HB3.out⟩
      · have hge : us.length ≤ k := by omega
        obtain ⟨A3, c3, rfl, lc3, _⟩ := id hv3
        go_wp2_with fail
        go_ret
        refine ⟨1, rfl, ⟨fun h => absurd h (by decide), fun e => by subst e; omega⟩, ?_⟩
        exact below_alloc hB.out _
    · obtain rfl : k = ts.length := by omega
      have hE1 := hE.out
      rw [List.take_length] at hE1
      have hE' := Lib.hid hE1
      clear hE1
      by_cases hL : ts.length < us.length
      · go_wp2_with fail
        go_ret
        exact ⟨-1, rfl, ⟨fun h => absurd h (by decide), fun e => by subst e; omega⟩, hB.out⟩
      · have e : ts = us := hE'.out.trans (List.take_of_length_le (by omega))
        have HE := Lib.hid e
        clear e
        go_wp2_with fail
        go_ret
        exact ⟨0, rfl, ⟨fun _ => HE.out, fun _ => rfl⟩, hB.out⟩
theorem cm_all : ∀ t, CmT t := T.all (fun op nm st ts ih => cmT_of ⟨op, nm, st, ts⟩ (cmL_of ts ih))
set_option maxHeartbeats 1000000 in
set_option maxRecDepth 100000 in
/-- Two terms are found alike exactly where they are the same. -/
theorem same_any (a b : T) {v v' : Value} {w : World} (hr : RdL w v a.f3) (hr' : RdL w v' b.f3) :
    Calls Try.prog 70 #[.agg #[.int .i64 a.f0, .string a.f1, .int .i64 a.f2, v], .agg #[.int .i64 b.f0, .string b.f1, .int .i64 b.f2, v']] w fun e w' => ∃ r, e = .returned (.bool r) ∧ (r = true ↔ a = b) ∧ Below w.heap.size w w' := by
  have HR := Lib.hid hr
  have HR' := Lib.hid hr'
  clear hr hr'
  go_enter Try.func70, Try.ntmps70
  go_wp2_with fail
  refine name_calls ?_
  intro W0 hW
  have hb0 : Below w.heap.size w W0 := by rw [hW]; repeat (first | exact Below.refl _ _ | apply below_alloc)
  have HB0 := Lib.hid hb0
  clear hW hb0
  refine ((cm_all a).use b (HR.out.below HB0.out) (HR'.out.below HB0.out)).mono ?_
  rintro e W1 ⟨c, rfl, hc, hb⟩
  have HC := Lib.hid hc
  have HB := Lib.hid (below_to HB0.out hb HB0.out.size)
  clear hc hb
  go_wp2_with fail
  go_ret
  exact ⟨c == 0, rfl, by rw [beq_iff_eq, HC.out], HB.out⟩
end Go.Proofs.Ytfnkobcmhbdcoaa.CmpT
