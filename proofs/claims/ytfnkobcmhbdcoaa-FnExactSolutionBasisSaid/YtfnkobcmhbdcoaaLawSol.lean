/- FnExactSolutionBasis: the walk. -/
import Derived.Test.YtfnkobcmhbdcoaaIntsL
import Derived.Test.YtfnkobcmhbdcoaaRowsL
import Derived.Test.YtfnkobcmhbdcoaaSolC
namespace Go.Proofs.Ytfnkobcmhbdcoaa.LawSol
open Go.RowKit Go.Proofs.YtfnkobcmhbdcoaaW.PrintWords Go.Proofs.YtfnkobcmhbdcoaaW.PrintLast Go.Proofs.Ytfnkobcmhbdcoaa.Base Go.Proofs.Ytfnkobcmhbdcoaa.XTypes Go.Proofs.Ytfnkobcmhbdcoaa.XInts Go.Proofs.Ytfnkobcmhbdcoaa.Problem Go.Proofs.Ytfnkobcmhbdcoaa.PureInts Go.Proofs.Ytfnkobcmhbdcoaa.PureSum Go.Proofs.Ytfnkobcmhbdcoaa.Typed Go.Proofs.Ytfnkobcmhbdcoaa.Trees Go.Proofs.Ytfnkobcmhbdcoaa.MarkT Go.Proofs.Ytfnkobcmhbdcoaa.IntsL Go.Proofs.Ytfnkobcmhbdcoaa.Rows2 Go.Proofs.Ytfnkobcmhbdcoaa.RowsL Go.Proofs.Ytfnkobcmhbdcoaa.Dio Go.Proofs.Ytfnkobcmhbdcoaa.DioL Go.Proofs.Ytfnkobcmhbdcoaa.PureDio Go.Proofs.Ytfnkobcmhbdcoaa.SolA Go.Proofs.Ytfnkobcmhbdcoaa.SolB Go.Proofs.Ytfnkobcmhbdcoaa.SolC
set_option linter.unusedVariables false
set_option linter.unusedSimpArgs false
set_option linter.unnecessarySimpa false

set_option maxHeartbeats 4000000 in
set_option maxRecDepth 100000 in
theorem walk_of (a b : List Int) (A0 : Option Addr) (c0 : Nat) (A1 : Option Addr) (c1 : Nat) (hla : a.length ≤ 1048576) (hlb : b.length ≤ 1048576) (ls : List (List Int)) (r : Bool) (hn : sumL ls ≤ 1000000) (hls : ls.length ≤ 1048576) (hrow : ∀ l ∈ ls, l.length ≤ 1048576) (w : World) (hr0 : RdI w (.slice A0 a.length c0) a) (hr1 : RdI w (.slice A1 b.length c1) b)
    (hI : ∀ A c A' c' w, Kd.C (Kd.int .i64) w A a.length a → a.length ≤ c → Kd.C (Kd.int .i64) w A' b.length b → b.length ≤ c' → Calls Try.prog 48 #[.slice A a.length c, .slice A' b.length c'] w fun e w' => ∃ v S, e = .returned (.tuple #[v, .bool r]) ∧ OwSS w' v ls S ∧ (∀ k ∈ S, w.heap.size ≤ k) ∧ Below w.heap.size w w')
    (hS : ∀ va vb w, RdI w va a → RdI w vb b → Calls Try.prog 47 #[va, vb] w fun e w' => ∃ v, e = .returned (.tuple #[v, .bool r]) ∧ RdSS w' v ls ∧ Below w.heap.size w w') :
    Calls Try.prog 11 #[.slice A0 a.length c0, .slice A1 b.length c1] w fun e w' => e = .returned (.bool true) ∧ Below w.heap.size w w' := by
  have eb : (r != r) = false := by cases r <;> rfl
  obtain ⟨m, hm⟩ : ∃ m, m = 1 + sumL ls := ⟨_, rfl⟩
  have hm0 : (0 : Int) ≤ m := by omega
  have HM := Lib.hid hm
  have HN := Lib.hid hn
  have HI := Lib.hid hI
  have HS := Lib.hid hS
  have HRA := Lib.hid hr0
  have HRB := Lib.hid hr1
  have HLS := Lib.hid hls
  have HROW := Lib.hid hrow
  clear hI hS hm hn hr0 hr1 hls hrow
  go_enter Try.func11, Try.ntmps11
  go_wp2_with fail
  refine (toI_any _ a _ HRA.out hla).mono ?_
  rintro e Wa ⟨vs, rfl, os, ba⟩
  have BA := Lib.hid ba
  have OS := Lib.hid os.rd
  clear ba os
  go_wp2_with fail
  refine (toI_any _ b _ (HRB.out.below BA.out) hlb).mono ?_
  rintro e Wb ⟨vt, rfl, ot, bb⟩
  have BB := Lib.hid (below_to BA.out bb BA.out.size)
  have OS2 := Lib.hid (OS.out.below bb)
  have OT := Lib.hid ot.rd
  clear bb ot OS BA
  go_wp2_with fail
  refine (HS.out _ _ _ OS2.out OT.out).mono ?_
  rintro e W2 ⟨va, rfl, r1, b1⟩
  have B2 := Lib.hid (below_to BB.out b1 BB.out.size)
  have R2 := Lib.hid r1
  clear b1 r1 OS2 OT BB
  go_wp2_with fail
  refine (toI_any _ a _ (HRA.out.below B2.out) hla).mono ?_
  rintro e W3 ⟨vx, rfl, ox, b3⟩
  obtain ⟨Ax, cx, rfl, lx, rx⟩ := ox.rd
  have OX := Lib.hid ox
  have B3 := Lib.hid b3
  clear ox b3 rx
  go_wp2_with fail
  refine (toI_any _ b _ (HRB.out.below (below_to B2.out B3.out B2.out.size)) hlb).mono ?_
  rintro e W3b ⟨vy, rfl, oy, b3b⟩
  obtain ⟨Ay, cy, rfl, ly, ry⟩ := oy.rd
  have OY := Lib.hid (oy.lower B3.out.size)
  have OX3 := Lib.hid (OX.out.below b3b)
  have LX := Lib.hid (fun k hk => (OX.out.lt hk) : ∀ k, Fp (.slice Ax a.length cx) k → W2.heap.size ≤ k ∧ k < W3.heap.size)
  have LY := Lib.hid (fun k hk => (oy.lt hk) : ∀ k, Fp (.slice Ay b.length cy) k → W3.heap.size ≤ k ∧ k < W3b.heap.size)
  have B3B := Lib.hid (below_to B3.out b3b B3.out.size)
  have BZ := Lib.hid (And.intro B3.out.size b3b.size)
  clear oy b3b ry OX B3
  go_wp2_with fail
  obtain ⟨_, _, ex, _, rx⟩ := OX3.out.rd
  injection ex with ex1 _ ex3
  subst ex1
  subst ex3
  obtain ⟨_, _, ey, _, ry⟩ := OY.out.rd
  injection ey with ey1 _ ey3
  subst ey1
  subst ey3
  refine (HI.out _ _ _ _ _ rx lx ry ly).mono ?_
  rintro e W4 ⟨vg, S, rfl, og, sg, b4⟩
  have FX := Lib.hid (fun k hk => ⟨(LX.out k hk).1, fun hs => by have := sg k hs; have := LX.out k hk; have := BZ.out; omega⟩ : ∀ k, Fp (.slice Ax a.length cx) k → W2.heap.size ≤ k ∧ k ∉ S)
  have FY := Lib.hid (fun k hk => ⟨by have := LY.out k hk; have := BZ.out; omega, fun hs => by have := sg k hs; have := LY.out k hk; omega⟩ : ∀ k, Fp (.slice Ay b.length cy) k → W2.heap.size ≤ k ∧ k ∉ S)
  have FXY := Lib.hid (fun k hk hx => by have := LX.out k hx; have := LY.out k hk; omega : ∀ k, Fp (.slice Ay b.length cy) k → ¬ Fp (.slice Ax a.length cx) k)
  have T4 := Lib.hid (StandR.start B2.out (below_to B3B.out b4 B3B.out.size) og (fun k hk => Nat.le_trans B3B.out.size (sg k hk)))
  have OX4 := Lib.hid (OX3.out.below b4)
  have OY4 := Lib.hid (OY.out.below b4)
  clear og sg b4 OX3 OY B3B LX LY rx ry BZ
  go_wp2_with fail
  refine (eqSS_any vg va ls _ T4.out.ow.rd (R2.out.below T4.out.bb) HROW.out HLS.out).mono ?_
  rintro e W5 ⟨rfl, b5⟩
  have T5 := Lib.hid (T4.out.below b5)
  have OX5 := Lib.hid (OX4.out.below b5)
  have OY5 := Lib.hid (OY4.out.below b5)
  clear b5 T4 OX4 OY4
  go_wp2_with fail
  refine (toI_any _ a _ (HRA.out.below T5.out.b) hla).mono ?_
  rintro e W7 ⟨vz, rfl, oz, b7⟩
  have T7 := Lib.hid (T5.out.below b7)
  have OX7 := Lib.hid (OX5.out.below b7)
  have OY7 := Lib.hid (OY5.out.below b7)
  have OZ := Lib.hid oz.rd
  clear b7 T5 OX5 OY5 oz
  go_wp2_with fail
  refine (eqI_any _ _ a _ OX7.out.rd OZ.out hla).mono ?_
  rintro e W8 ⟨rfl, b8⟩
  have T8 := Lib.hid (T7.out.below b8)
  have OX8 := Lib.hid (OX7.out.below b8)
  have OY8 := Lib.hid (OY7.out.below b8)
  clear b8 T7 OX7 OY7 OZ
  go_wp2_with fail
  refine (toI_any _ b _ (HRB.out.below T8.out.b) hlb).mono ?_
  rintro e W7 ⟨vz, rfl, oz, b7⟩
  have T7 := Lib.hid (T8.out.below b7)
  have OX7 := Lib.hid (OX8.out.below b7)
  have OY7 := Lib.hid (OY8.out.below b7)
  have OZ := Lib.hid oz.rd
  clear b7 T8 OX8 OY8 oz
  go_wp2_with fail
  refine (eqI_any _ _ b _ OY7.out.rd OZ.out hlb).mono ?_
  rintro e W8 ⟨rfl, b8⟩
  have T8 := Lib.hid (T7.out.below b8)
  have OX8 := Lib.hid (OX7.out.below b8)
  have OY8 := Lib.hid (OY7.out.below b8)
  clear b8 T7 OX7 OY7 OZ
  go_wp2_with fail
  refine (markI_at _ a W2 _ 1 1 rfl (by omega) T8.out.bb OX8.out hla).mono ?_
  rintro e W9 ⟨rfl, _, b9, k9⟩
  have T9 := Lib.hid (StandR.kept T8.out k9 b9 FX.out)
  have OY9 := Lib.hid (OY8.out.step (fun k hk hlt => k9.2 k hlt (fun hx => FXY.out k hk hx)))
  clear b9 k9 T8 OX8 OY8
  go_wp2_with fail
  refine (markI_at _ b W2 _ (1 + a.length) _ (by omega) (by omega) T9.out.bb OY9.out hlb).mono ?_
  rintro e W9b ⟨rfl, _, b9, k9⟩
  have T9b := Lib.hid (StandR.kept T9.out k9 b9 FY.out)
  clear b9 k9 T9 OY9
  have hk0 : ¬ (((1 + a.length + b.length : Nat) : Int) < 0) := by omega
  generalize hq : 1 + a.length + b.length = q at *
  clear hq
  go_wp2_with fail
  refine (eqSS_any vg va ls _ T9b.out.ow.rd (R2.out.below T9b.out.bb) HROW.out HLS.out).mono ?_
  rintro e W10 ⟨rfl, b10⟩
  have T10 := Lib.hid (T9b.out.below b10)
  clear b10 T9b
  go_wp2_with fail
  refine (markSS_one ls vg S _ m HM.out HN.out T10.out.ow).mono ?_
  rintro e W11 ⟨rfl, og, t11⟩
  have T11 := Lib.hid (T10.out.mark og t11)
  clear og t11 T10
  go_wp2_with fail
  refine (heldSS_one ls vg _ m HM.out HN.out HLS.out T11.out.ow.rd).mono ?_
  rintro e W12 ⟨rfl, b12⟩
  have T12 := Lib.hid (T11.out.below b12)
  clear b12 T11
  go_wp2_with fail
  refine (toI_any _ a _ (HRA.out.below T12.out.b) hla).mono ?_
  rintro e W13 ⟨vz, rfl, oz, b13⟩
  have OZ := Lib.hid oz
  have T13 := Lib.hid (T12.out.below b13)
  clear b13 T12 oz
  go_wp2_with fail
  refine (toI_any _ b _ (HRB.out.below T13.out.b) hlb).mono ?_
  rintro e W13b ⟨vz2, rfl, oz2, b13⟩
  obtain ⟨Az, cz, rfl, lz, rz⟩ := (OZ.out.below b13).rd
  obtain ⟨Az2, cz2, rfl, lz2, rz2⟩ := oz2.rd
  have RZ := Lib.hid (And.intro rz rz2)
  have T13b := Lib.hid (T13.out.below b13)
  clear b13 T13 oz2 rz rz2 OZ
  go_wp2_with fail
  refine (HI.out _ _ _ _ _ RZ.out.1 lz RZ.out.2 lz2).mono ?_
  rintro e W14 ⟨vh, Sh, rfl, oh, sh, b14⟩
  have OH := Lib.hid oh.rd
  have T14 := Lib.hid (T13b.out.below b14)
  clear oh sh b14 T13b RZ
  go_wp2_with fail
  refine (eqSS_any vh va ls _ OH.out (R2.out.below T14.out.bb) HROW.out HLS.out).mono ?_
  rintro e W16 ⟨rfl, b16⟩
  have T16 := Lib.hid (T14.out.below b16)
  clear b16 T14 OH
  go_wp2_with fail
  refine (heldSS_one ls vg _ m HM.out HN.out HLS.out T16.out.ow.rd).mono ?_
  rintro e W17 ⟨rfl, b17⟩
  have T17 := Lib.hid (T16.out.below b17)
  clear b17 T16
  go_wp2_with fail
  go_ret
  exact ⟨rfl, T17.out.b⟩

theorem basis_rows (a b : List Int) : (∀ x ∈ basisL a b, x.length ≤ 5) ∧ (basisL a b).length ≤ 40 := by
  unfold basisL
  cases h : basisB a b with
  | false => exact ⟨(fun x hx => by simp at hx), by simp⟩
  | true =>
    unfold basisB at h
    rw [Bool.and_eq_true, decide_eq_true_eq] at h
    obtain ⟨_, _, _, _, h5⟩ := probB_len h.1
    refine ⟨fun x hx => ?_, by rw [if_pos rfl]; exact h.2⟩
    rw [if_pos rfl] at hx
    have := (mem_allP.1 (List.mem_filter.1 hx).1).1.1
    omega
set_option maxHeartbeats 1000000 in
set_option maxRecDepth 100000 in
theorem walk_big (n0 n1 : Nat) (A0 : Option Addr) (c0 : Nat) (A1 : Option Addr) (c1 : Nat) (w : World) (h : 1048576 < n0 ∨ 1048576 < n1) :
    Calls Try.prog 11 #[.slice A0 n0 c0, .slice A1 n1 c1] w fun e w' => e = .returned (.bool true) ∧ Below w.heap.size w w' := by
  by_cases h0 : 1048576 < n0
  · go_enter Try.func11, Try.ntmps11
    go_wp2_with fail
    go_ret
    exact ⟨rfl, by repeat (first | exact Below.refl _ _ | apply below_alloc)⟩
  · have h1 : 1048576 < n1 := by omega
    go_enter Try.func11, Try.ntmps11
    go_wp2_with fail
    go_ret
    exact ⟨rfl, by repeat (first | exact Below.refl _ _ | apply below_alloc)⟩
theorem walk (a0 : Option Addr) (len0 cap0 : Nat) (z0 : List Int) (a1 : Option Addr) (len1 cap1 : Nat) (z1 : List Int) (w : World)
    (w0 : (a0 = none ∧ len0 = 0 ∧ cap0 = 0 ∧ z0 = []) ∨ ∃ x, a0 = some x ∧ len0 ≤ cap0 ∧ cap0 ≤ maxLen ∧ z0.length = cap0 ∧ (∀ i, i < z0.length → w.cell? (x.add i) = some (.int .i64 (z0.getD i 0))) ∧ ∀ n ∈ z0, (Lit.int .i64 n).wf = true) (_y0 : len0 * 8 ≤ 140737488351232)
    (w1 : (a1 = none ∧ len1 = 0 ∧ cap1 = 0 ∧ z1 = []) ∨ ∃ x, a1 = some x ∧ len1 ≤ cap1 ∧ cap1 ≤ maxLen ∧ z1.length = cap1 ∧ (∀ i, i < z1.length → w.cell? (x.add i) = some (.int .i64 (z1.getD i 0))) ∧ ∀ n ∈ z1, (Lit.int .i64 n).wf = true) (_y1 : len1 * 8 ≤ 140737488351232) :
    Calls Try.prog 11 #[.slice a0 len0 cap0, .slice a1 len1 cap1] w fun e w' => e = .returned (.bool true) ∧ Below w.heap.size w w' := by
  obtain ⟨l0, rfl, hr0, hm0, hw0, hc0⟩ := ReadsInt.ofRowC w0
  obtain ⟨l1, rfl, hr1, hm1, hw1, hc1⟩ := ReadsInt.ofRowC w1
  by_cases h : l0.length ≤ 1048576 ∧ l1.length ≤ 1048576
  · obtain ⟨hrows, hlen⟩ := basis_rows l0 l1
    have hs := sumL_le _ 5 hrows
    exact walk_of l0 l1 a0 cap0 a1 cap1 h.1 h.2 (basisL l0 l1) (basisB l0 l1) (by omega) (by omega) (fun x hx => by have := hrows x hx; omega) w ⟨a0, cap0, rfl, hc0, Kd.C_of_reads (d := (0 : Int)) (h1 := fun _ => rfl) hr0⟩ ⟨a1, cap1, rfl, hc1, Kd.C_of_reads (d := (0 : Int)) (h1 := fun _ => rfl) hr1⟩
      (fun A c A' c' w' ha hc hb hc' => impl_basis l0 l1 A c A' c' w' ha hc hb hc' h.1 h.2) (fun va vb w' ha hb => spec_basis l0 l1 va vb w' ha hb h.1 h.2)
  · exact walk_big l0.length l1.length a0 cap0 a1 cap1 w (by omega)
end Go.Proofs.Ytfnkobcmhbdcoaa.LawSol
