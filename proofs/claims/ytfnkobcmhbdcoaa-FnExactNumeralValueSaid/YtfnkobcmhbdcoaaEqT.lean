/- laws.eqTerm, laws.eqTermS: the same tree, read twice, is found equal. -/
import Derived.Test.YtfnkobcmhbdcoaaTrees
namespace Go.Proofs.Ytfnkobcmhbdcoaa.EqT
open Go.RowKit Go.Proofs.YtfnkobcmhbdcoaaW.PrintWords Go.Proofs.YtfnkobcmhbdcoaaW.PrintLast Go.Proofs.Ytfnkobcmhbdcoaa.Base Go.Proofs.Ytfnkobcmhbdcoaa.XTypes Go.Proofs.Ytfnkobcmhbdcoaa.PureInts Go.Proofs.Ytfnkobcmhbdcoaa.Typed Go.Proofs.Ytfnkobcmhbdcoaa.Trees
set_option linter.unusedVariables false
set_option linter.unusedSimpArgs false
set_option linter.unnecessarySimpa false

theorem T.all {P : T → Prop} (h1 : ∀ op nm st ts, (∀ t ∈ ts, P t) → P ⟨op, nm, st, ts⟩) : ∀ t, P t :=
  (T.ind (P := P) (Q := fun ts => ∀ t ∈ ts, P t) h1 (fun t ht => by cases ht) (fun t ts iht ihs t' ht => by
    rcases List.mem_cons.1 ht with rfl | ht
    · exact iht
    · exact ihs t' ht)).1
def EqT (t : T) : Prop := ∀ (v v' : Value) (w : World), RdL w v t.f3 → RdL w v' t.f3 →
  Calls Try.prog 29 #[.agg #[.int .i64 t.f0, .string t.f1, .int .i64 t.f2, v], .agg #[.int .i64 t.f0, .string t.f1, .int .i64 t.f2, v']] w fun e w' => e = .returned (.bool true) ∧ Below w.heap.size w w'
def EqL (ts : List T) : Prop := ∀ (v v' : Value) (w : World), RdL w v ts → RdL w v' ts →
  Calls Try.prog 60 #[v, v'] w fun e w' => e = .returned (.bool true) ∧ Below w.heap.size w w'

theorem EqT.use {t : T} (h : EqT t) {v v' : Value} {w : World} (hr : RdL w v t.f3) (hr' : RdL w v' t.f3) :
    Calls Try.prog 29 #[.agg #[.int .i64 t.f0, .string t.f1, .int .i64 t.f2, v], .agg #[.int .i64 t.f0, .string t.f1, .int .i64 t.f2, v']] w fun e w' => e = .returned (.bool true) ∧ Below w.heap.size w w' := h v v' w hr hr'
/-- An element, and what its own row reads. -/
theorem elem_at {w : World} {A : Option Addr} {n : Nat} {ts : List T} (h : Kd.C kT w A n ts) (i : Nat) (h1 : i < n) : ∃ ad v, A = some ad ∧
    w.cell? (ad.add (i * 4)) = some (.int .i64 (rd_T35 ts (i : Int)).f0) ∧ w.cell? ⟨(ad.add (i * 4)).block, (ad.add (i * 4)).off + 1, none⟩ = some (.string (rd_T35 ts (i : Int)).f1) ∧
    w.cell? ⟨(ad.add (i * 4)).block, (ad.add (i * 4)).off + 2, none⟩ = some (.int .i64 (rd_T35 ts (i : Int)).f2) ∧ w.cell? ⟨(ad.add (i * 4)).block, (ad.add (i * 4)).off + 3, none⟩ = some v ∧ RdL w v (rd_T35 ts (i : Int)).f3 := by
  obtain ⟨ad, A3, c3, e, h0, h1, h2, h3, l3, g3⟩ := at_T35 h (i : Int) (by omega) (by omega)
  simp only [Int.toNat_natCast] at h0 h1 h2 h3
  exact ⟨ad, _, e, h0, h1, h2, h3, A3, c3, rfl, l3, g3⟩
theorem rd_T {ts : List T} {i : Nat} (h : i < ts.length) : rd_T35 ts (i : Int) = ts[i] := by simp [rd_T35, h]

set_option maxHeartbeats 1000000 in
set_option maxRecDepth 100000 in
theorem eqT_of (t : T) (h : EqL t.f3) : EqT t := by
  intro v v' w hr hr'
  obtain ⟨op, nm, st, ts⟩ := t
  have HR := Lib.hid hr
  have HR' := Lib.hid hr'
  have HH := Lib.hid h
  clear hr hr' h
  simp only at HH HR HR'
  have e1 : (op != op) = false := by simp
  have e2 : (nm.toList != nm.toList) = false := by simp
  have e3 : (st != st) = false := by simp
  go_enter Try.func29, Try.ntmps29
  go_wp2_with fail
  refine name_calls ?_
  intro W1 hW
  have hb : Below w.heap.size w W1 := by rw [hW]; repeat (first | exact Below.refl _ _ | apply below_alloc)
  have HB := Lib.hid hb
  clear hW hb
  refine (HH.out _ _ W1 (HR.out.below HB.out) (HR'.out.below HB.out)).mono ?_
  rintro e W2 ⟨rfl, hb⟩
  have HB2 := Lib.hid (below_to HB.out hb HB.out.size)
  clear hb
  go_wp2_with fail
  go_ret
  exact ⟨rfl, HB2.out⟩

set_option maxHeartbeats 1000000 in
set_option maxRecDepth 100000 in
theorem eqL_of (ts : List T) (h : ∀ t ∈ ts, EqT t) : EqL ts := by
  intro v v' w hr hr'
  have hl := hr.len
  obtain ⟨A, c, rfl, hc, hC⟩ := hr
  obtain ⟨A', c', rfl, hc', hC'⟩ := hr'
  have HC := Lib.hid hC
  have HC' := Lib.hid hC'
  have HH := Lib.hid h
  clear hC hC' h
  go_enter Try.func60, Try.ntmps60
  go_wp2_with fail
  go_loopw [5] (fun i wr => ∃ k : Nat, k ≤ ts.length ∧ i = .int .i64 k ∧ Aside0 (Below w.heap.size w wr)) (fun i _ => ts.length - (intOf i).toNat)
  case atStart => exact ⟨0, Nat.zero_le _, rfl, ⟨Below.refl _ _⟩⟩
  case round =>
    obtain ⟨k, hk, rfl, hB⟩ := hrel
    by_cases hlt2 : k < ts.length
    · obtain ⟨ad, v3, rfl, e0, e1, e2, e3, hv3⟩ := elem_at (Kd.C_below HC.out hB.out) k hlt2
      obtain ⟨ad', v3', rfl, e0', e1', e2', e3', hv3'⟩ := elem_at (Kd.C_below HC'.out hB.out) k hlt2
      rw [rd_T hlt2] at e0 e1 e2 hv3 e0' e1' e2' hv3'
      have HV := Lib.hid hv3
      have HV' := Lib.hid hv3'
      have hmem : ts[k] ∈ ts := List.getElem_mem _
      generalize ts[k] = t at *
      have HM := Lib.hid hmem
      clear hv3 hv3' hmem
      go_upto_region 6 with (fail)
      go_cut [26] (fun t wx => t = .bool false ∧ Below wr.heap.size wr wx)
      case first =>
        go_region_held3 (fun w' => w'.cell? (ad.add (k * 4)) = some (.int .i64 t.f0) ∧ w'.cell? ⟨(ad.add (k * 4)).block, (ad.add (k * 4)).off + 1, none⟩ = some (.string t.f1) ∧ w'.cell? ⟨(ad.add (k * 4)).block, (ad.add (k * 4)).off + 2, none⟩ = some (.int .i64 t.f2) ∧ w'.cell? ⟨(ad.add (k * 4)).block, (ad.add (k * 4)).off + 3, none⟩ = some v3 ∧ w'.cell? (ad'.add (k * 4)) = some (.int .i64 t.f0) ∧ w'.cell? ⟨(ad'.add (k * 4)).block, (ad'.add (k * 4)).off + 1, none⟩ = some (.string t.f1) ∧ w'.cell? ⟨(ad'.add (k * 4)).block, (ad'.add (k * 4)).off + 2, none⟩ = some (.int .i64 t.f2) ∧ w'.cell? ⟨(ad'.add (k * 4)).block, (ad'.add (k * 4)).off + 3, none⟩ = some v3')
          (exact ⟨cell_below e0 (by repeat (first | exact BW | exact Below.refl _ _ | apply below_drew1)), cell_below e1 (by repeat (first | exact BW | exact Below.refl _ _ | apply below_drew1)), cell_below e2 (by repeat (first | exact BW | exact Below.refl _ _ | apply below_drew1)), cell_below e3 (by repeat (first | exact BW | exact Below.refl _ _ | apply below_drew1)), cell_below e0' (by repeat (first | exact BW | exact Below.refl _ _ | apply below_drew1)), cell_below e1' (by repeat (first | exact BW | exact Below.refl _ _ | apply below_drew1)), cell_below e2' (by repeat (first | exact BW | exact Below.refl _ _ | apply below_drew1)), cell_below e3' (by repeat (first | exact BW | exact Below.refl _ _ | apply below_drew1))⟩)
          (first
            | (go_at_call 29; refine name_calls ?_; intro Wq hWq; have BW : Below wr.heap.size wr Wq := (by rw [hWq]; first | done | (repeat (first | exact Below.refl _ _ | apply below_alloc | apply below_drew1 | apply pw_below_drewN))); clear hWq; (with_reducible refine ((HH.out t HM.out).use (HV.out.below BW) (HV'.out.below BW)).mono ?_); rintro e W1 ⟨rfl, hb⟩; replace BW : Below wr.heap.size wr W1 := below_to BW hb BW.size; clear hb))
        all_goals go_wp2_with fail
        all_goals go_meet
        all_goals exact ⟨rfl, BW⟩
      case rest =>
      obtain ⟨rfl, hb⟩ := hcut
      have HB2 := Lib.hid (below_to hB.out hb hB.out.size)
      clear hb hB e0 e1 e2 e3 e0' e1' e2' e3'
      go_wp2_with fail
      go_roundw
      case rel => exact ⟨k + 1, by omega, by go_num, ⟨HB2.out⟩⟩
      case measure => simp [intOf]; omega
    · obtain rfl : k = ts.length := by omega
      go_wp2_with fail
      go_ret
      exact ⟨rfl, hB.out⟩
theorem eq_all : ∀ t, EqT t := T.all (fun op nm st ts ih => eqT_of ⟨op, nm, st, ts⟩ (eqL_of ts ih))
theorem eqL_all (ts : List T) : EqL ts := eqL_of ts (fun t _ => eq_all t)
end Go.Proofs.Ytfnkobcmhbdcoaa.EqT
