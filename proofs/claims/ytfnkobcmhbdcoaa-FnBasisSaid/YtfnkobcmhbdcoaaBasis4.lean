/- The row of the law FnBasis: every input that reads as data is answered true. -/
import Derived.Test.YtfnkobcmhbdcoaaBasis3
import Derived.Test.YtfnkobcmhbdcoaaBasis2
import Derived.Test.YtfnkobcmhbdcoaaRows
import Derived.WalkKit
import Derived.ProofKit
import Derived.OpenShut
import Derived.ShutString
import Derived.ChangeOld
import Derived.Below
import Derived.SizedLaws
import Derived.Test.YtfnkobcmhbdcoaaWSized
section
-- Written by this session's program xprint.py out of the translation; not trusted: Lean checks it.


namespace Go.Proofs.Ytfnkobcmhbdcoaa.XBas
open Go.RowKit Go.Proofs.YtfnkobcmhbdcoaaW.PrintWords Go.Proofs.YtfnkobcmhbdcoaaW.PrintLast Go.Proofs.YtfnkobcmhbdcoaaW.PrintMore
attribute [local go_sem] max2_int min2_int max_two min_two max_three min_three max_four min_four   -- for this text's walks alone
set_option linter.unusedVariables false
set_option linter.unusedSimpArgs false
open Go.Proofs.Ytfnkobcmhbdcoaa.DecI Go.Proofs.Ytfnkobcmhbdcoaa.SolF Go.Proofs.Ytfnkobcmhbdcoaa.Solution Go.Proofs.Ytfnkobcmhbdcoaa.XDec Go.Proofs.Ytfnkobcmhbdcoaa.XSol Go.Proofs.Ytfnkobcmhbdcoaa.XTypes

/-! ### spec_DrawDecompose: function 53 -/
def spec_DrawDecompose.f (k : Nat) (l0 : List Int) : Option (List Int × List Int × List Int) := (spec_DrawIsSolution.f k l0).bind fun bt204 => (some (bt204.1, bt204.2.1, bt204.2.2))
theorem spec_DrawDecompose.mono : ∀ a0 k, LeO (spec_DrawDecompose.f k a0) (spec_DrawDecompose.f (k + 1) a0) := by
 intro a0 k
 unfold spec_DrawDecompose.f
 repeat' first
   | (with_reducible exact spec_DrawIsSolution.mono _ _)
   | (with_reducible exact LeO.refl _)
   | (with_reducible exact LeO.none _)
   | (with_reducible refine LeO.ite ?_ ?_)
   | (with_reducible refine LeO.bind ?_ (fun _ => ?_))
   | exact spec_DrawIsSolution.mono _ _
   | exact LeO.none _
   | refine LeO.ite ?_ ?_
   | refine LeO.bind ?_ (fun _ => ?_)
set_option maxHeartbeats 8000000 in
set_option maxRecDepth 100000 in
theorem spec_DrawDecompose.calls (k : Nat) (A0 : Option Addr) (c0 : Nat) (l0 : List Int) (r1 : List Int) (r2 : List Int) (r3 : List Int) (w : World) (hr0 : Kd.C (Kd.int .u8) w A0 l0.length l0) (hc0 : l0.length ≤ c0) (h : spec_DrawDecompose.f k l0 = some (r1, r2, r3)) :
  Calls Try.prog 53 #[.slice A0 l0.length c0] w fun e w' => ∃ v0_ v1_ v2_ : Value, e = .returned (.tuple #[v0_, v1_, v2_]) ∧ Kd.R (Kd.int .i64) 3 w' w.heap.size (fun k_ => some k_ ≠ (v1_ : Value).ownBlock ∧ some k_ ≠ (v2_ : Value).ownBlock) v0_ r1 ∧ Kd.R (Kd.int .i64) 3 w' w.heap.size (fun k_ => some k_ ≠ (v0_ : Value).ownBlock ∧ some k_ ≠ (v2_ : Value).ownBlock) v1_ r2 ∧ Kd.R (Kd.int .i64) 3 w' w.heap.size (fun k_ => some k_ ≠ (v0_ : Value).ownBlock ∧ some k_ ≠ (v1_ : Value).ownBlock) v2_ r3 ∧ Below w.heap.size w w' := by
 have HR0 := Aside0.mk hr0
 have HC0 := Aside0.mk hc0
 clear hr0 hc0
 have HB := Aside0.mk (Below.refl w.heap.size w)
 have H : ((spec_DrawIsSolution.f k l0).bind fun bt204 => (some (bt204.1, bt204.2.1, bt204.2.2))) = some (r1, r2, r3) := h
 clear h
 replace H := Option.bind_eq_some_iff.mp H
 obtain ⟨⟨t204, t205, t206⟩, A20, H⟩ := H
 replace H : (some (t204, t205, t206)) = some (r1, r2, r3) := H
 have A2 := Aside0.mk A20
 clear A20
 simp only [Option.some.injEq, Prod.mk.injEq] at H
 obtain ⟨rfl, rfl, rfl⟩ := H
 go_enter Try.func53, Try.ntmps53
 go_wp2_with (first | ((with_reducible refine gate_callee (f := 76) rfl ?_); refine goesL_ (some 6) rfl rfl Try.func76 (by kernel_rfl) rfl #[.slice A0 l0.length c0] rfl (by (try simp only [List.map_toArray, List.map_cons, List.map_nil]); first | done | rfl | (simp only [List.length_drop, List.length_take]; rfl)) ?_; (with_reducible refine (spec_DrawIsSolution.calls k _ _ l0 t204 t205 t206 _ ?side1 ?side2 A2.out).mono ?_); (case side1 => repeat (first | exact HR0.out | (with_reducible refine Kd.C_alloc ?_ _) | (with_reducible refine Kd.C_drewN ?_ _) | (with_reducible refine Kd.C_drew ?_))); (case side2 => exact HC0.out); rintro e w3 ⟨v207, v209, v211, rfl, ho0, ho1, ho2, hb⟩; refine ⟨_, rfl, ?_⟩; have n0_ := Aside0.mk (Kd.R_lower ho0 (below_size (by repeat (first | (with_reducible first | exact HB.out | apply below_alloc | apply pw_below_drewN | apply below_drew1) | exact HB.out)))); have n1_ := Aside0.mk (Kd.R_lower ho1 (below_size (by repeat (first | (with_reducible first | exact HB.out | apply below_alloc | apply pw_below_drewN | apply below_drew1) | exact HB.out)))); have n2_ := Aside0.mk (Kd.R_lower ho2 (below_size (by repeat (first | (with_reducible first | exact HB.out | apply below_alloc | apply pw_below_drewN | apply below_drew1) | exact HB.out)))); have n3_ := Aside0.mk (below_step (by repeat (first | (with_reducible first | exact HB.out | apply below_alloc | apply pw_below_drewN | apply below_drew1) | exact HB.out)) hb); clear HB; have HO208 := n0_; have HO210 := n1_; have HO212 := n2_; have HB := n3_; clear n0_ n1_ n2_ n3_; (try clear hb); (try clear hb2); (try clear hk); (try clear hi); (try clear ho0); (try clear ho1); (try clear ho2)))
 go_ret3
 exact ⟨_, _, _, by first | rfl | (simp [errW_none, errW_some] <;> rfl) | (simp [*, errW_none, errW_some] <;> rfl), by (with_reducible repeat (first | apply Kd.R_alloc | apply Kd.R_drewN | apply Kd.R_drew)); exact HO208.out, by (with_reducible repeat (first | apply Kd.R_alloc | apply Kd.R_drewN | apply Kd.R_drew)); exact HO210.out, by (with_reducible repeat (first | apply Kd.R_alloc | apply Kd.R_drewN | apply Kd.R_drew)); exact HO212.out, by repeat (first | (with_reducible first | exact HB.out | apply below_alloc | apply pw_below_drewN | apply below_drew1) | exact HB.out)⟩

end Go.Proofs.Ytfnkobcmhbdcoaa.XBas
end
section
-- Written by this session's program xprint.py out of the translation; not trusted: Lean checks it.



namespace Go.Proofs.Ytfnkobcmhbdcoaa.XBas
open Go.RowKit Go.Proofs.YtfnkobcmhbdcoaaW.PrintWords Go.Proofs.YtfnkobcmhbdcoaaW.PrintLast Go.Proofs.YtfnkobcmhbdcoaaW.PrintMore
attribute [local go_sem] max2_int min2_int max_two min_two max_three min_three max_four min_four   -- for this text's walks alone
set_option linter.unusedVariables false
set_option linter.unusedSimpArgs false
open Go.Proofs.Ytfnkobcmhbdcoaa.DecI Go.Proofs.Ytfnkobcmhbdcoaa.SolF Go.Proofs.Ytfnkobcmhbdcoaa.Solution Go.Proofs.Ytfnkobcmhbdcoaa.XDec Go.Proofs.Ytfnkobcmhbdcoaa.XSol Go.Proofs.Ytfnkobcmhbdcoaa.XTypes

/-! ### laws_FnBasis: function 13 -/
mutual
def laws_FnBasis.j0 : Nat → List Int → List Int → List Int → List (List Int) → List Int → Bool → Bool → Option (Bool)
 | 0, _, _, _, _, _, _, _ => none
 | k + 1, x3, x4, x5, x6, x8, x9, x73 => if x73 = true then (some false) else (laws_FnBasis.l0 k x3 x4 x5 x6 x8 x9 0)
def laws_FnBasis.l0 : Nat → List Int → List Int → List Int → List (List Int) → List Int → Bool → Int → Option (Bool)
 | 0, _, _, _, _, _, _, _ => none
 | k + 1, x3, x4, x5, x6, x8, x9, x14 => if x14 < (x6.length : Int) then (if 0 ≤ x14 then ((impl_IsSolution.f k x3 x4 (rd_L10 x6 x14)).bind fun t242 => (if t242 = true then (laws_FnBasis.l1 k x3 x4 x5 x6 x8 x9 x14 0) else (some false))) else (none)) else (if x9 = true then (laws_FnBasis.l3 k x5 x6 x8 0) else (some true))
def laws_FnBasis.l1 : Nat → List Int → List Int → List Int → List (List Int) → List Int → Bool → Int → Int → Option (Bool)
 | 0, _, _, _, _, _, _, _, _ => none
 | k + 1, x3, x4, x5, x6, x8, x9, x14, x15 => if x15 < (x6.length : Int) then (laws_FnBasis.l2 k x3 x4 x5 x6 x8 x9 x14 x15 (x15 != x14) 0) else (laws_FnBasis.l0 k x3 x4 x5 x6 x8 x9 (wrap64 (x14 + 1)))
def laws_FnBasis.l2 : Nat → List Int → List Int → List Int → List (List Int) → List Int → Bool → Int → Int → Bool → Int → Option (Bool)
 | 0, _, _, _, _, _, _, _, _, _, _ => none
 | k + 1, x3, x4, x5, x6, x8, x9, x14, x15, x16, x17 => if 0 ≤ x14 then (if x14 < (x6.length : Int) then (if x17 < ((rd_L10 x6 x14).length : Int) then (if 0 ≤ x15 then (if x15 < (x6.length : Int) then (if x17 < ((rd_L10 x6 x15).length : Int) then (if x16 = true then (if 0 ≤ x17 then (laws_FnBasis.l2 k x3 x4 x5 x6 x8 x9 x14 x15 (decide ((rd (rd_L10 x6 x15) x17) ≤ (rd (rd_L10 x6 x14) x17))) (wrap64 (x17 + 1))) else (none)) else (laws_FnBasis.l2 k x3 x4 x5 x6 x8 x9 x14 x15 false (wrap64 (x17 + 1)))) else (if x16 = true then (some false) else (laws_FnBasis.l1 k x3 x4 x5 x6 x8 x9 x14 (wrap64 (x15 + 1))))) else (none)) else (none)) else (if x16 = true then (some false) else (laws_FnBasis.l1 k x3 x4 x5 x6 x8 x9 x14 (wrap64 (x15 + 1))))) else (none)) else (none)
def laws_FnBasis.l3 : Nat → List Int → List (List Int) → List Int → Int → Option (Bool)
 | 0, _, _, _, _ => none
 | k + 1, x5, x6, x8, x18 => if x18 < (x5.length : Int) then (laws_FnBasis.l4 k x5 x6 x8 x18 0 0) else (some ((x8.length : Int) == (x6.length : Int)))
def laws_FnBasis.l4 : Nat → List Int → List (List Int) → List Int → Int → Int → Int → Option (Bool)
 | 0, _, _, _, _, _, _ => none
 | k + 1, x5, x6, x8, x18, x19, x20 => if x20 < (x8.length : Int) then (if x20 < (x6.length : Int) then (if 0 ≤ x20 then (if 0 ≤ x18 then (if x18 < ((rd_L10 x6 x20).length : Int) then (laws_FnBasis.l4 k x5 x6 x8 x18 (wrap64 (x19 + (wrap64 ((rd x8 x20) * (rd (rd_L10 x6 x20) x18))))) (wrap64 (x20 + 1))) else (none)) else (none)) else (none)) else (if 0 ≤ x18 then (if x18 < (x5.length : Int) then (if x19 = (rd x5 x18) then (laws_FnBasis.l3 k x5 x6 x8 (wrap64 (x18 + 1))) else (some false)) else (none)) else (none))) else (if 0 ≤ x18 then (if x18 < (x5.length : Int) then (if x19 = (rd x5 x18) then (laws_FnBasis.l3 k x5 x6 x8 (wrap64 (x18 + 1))) else (some false)) else (none)) else (none))
end
def laws_FnBasis.f (k : Nat) (l0 : List Int) : Option (Bool) := (laws_big.f l0).bind fun t213 => (if t213 = true then (some true) else ((spec_DrawDecompose.f k l0).bind fun bt214 => ((impl_SolutionBasis.f bt214.1 bt214.2.1).bind fun bt223 => ((impl_Decompose.f bt214.1 bt214.2.1 bt214.2.2).bind fun bt227 => ((spec_SolutionBasis.f bt214.1 bt214.2.1).bind fun bt231 => ((spec_Decompose.f k bt214.1 bt214.2.1 bt214.2.2).bind fun bt235 => (if (bt223.2 != bt231.2) = true then (laws_FnBasis.j0 k bt214.1 bt214.2.1 bt214.2.2 bt223.1 bt227.1 bt227.2 true) else (if (bt227.2 != bt235.2) = true then (laws_FnBasis.j0 k bt214.1 bt214.2.1 bt214.2.2 bt223.1 bt227.1 bt227.2 true) else ((impl_IsSolution.f k bt214.1 bt214.2.1 bt214.2.2).bind fun t239 => ((spec_IsSolution.f bt214.1 bt214.2.1 bt214.2.2).bind fun t240 => (laws_FnBasis.j0 k bt214.1 bt214.2.1 bt214.2.2 bt223.1 bt227.1 bt227.2 (t239 != t240))))))))))))
theorem laws_FnBasis.mono_l : ∀ k, (∀ y0 y1 y2 y3 y4 y5 y6, LeO (laws_FnBasis.j0 k y0 y1 y2 y3 y4 y5 y6) (laws_FnBasis.j0 (k + 1) y0 y1 y2 y3 y4 y5 y6)) ∧ (∀ y0 y1 y2 y3 y4 y5 y6, LeO (laws_FnBasis.l0 k y0 y1 y2 y3 y4 y5 y6) (laws_FnBasis.l0 (k + 1) y0 y1 y2 y3 y4 y5 y6)) ∧ (∀ y0 y1 y2 y3 y4 y5 y6 y7, LeO (laws_FnBasis.l1 k y0 y1 y2 y3 y4 y5 y6 y7) (laws_FnBasis.l1 (k + 1) y0 y1 y2 y3 y4 y5 y6 y7)) ∧ (∀ y0 y1 y2 y3 y4 y5 y6 y7 y8 y9, LeO (laws_FnBasis.l2 k y0 y1 y2 y3 y4 y5 y6 y7 y8 y9) (laws_FnBasis.l2 (k + 1) y0 y1 y2 y3 y4 y5 y6 y7 y8 y9)) ∧ (∀ y0 y1 y2 y3, LeO (laws_FnBasis.l3 k y0 y1 y2 y3) (laws_FnBasis.l3 (k + 1) y0 y1 y2 y3)) ∧ (∀ y0 y1 y2 y3 y4 y5, LeO (laws_FnBasis.l4 k y0 y1 y2 y3 y4 y5) (laws_FnBasis.l4 (k + 1) y0 y1 y2 y3 y4 y5))
 | 0 => ⟨fun _ _ _ _ _ _ _ r h => by simp [laws_FnBasis.j0] at h, fun _ _ _ _ _ _ _ r h => by simp [laws_FnBasis.l0] at h, fun _ _ _ _ _ _ _ _ r h => by simp [laws_FnBasis.l1] at h, fun _ _ _ _ _ _ _ _ _ _ r h => by simp [laws_FnBasis.l2] at h, fun _ _ _ _ r h => by simp [laws_FnBasis.l3] at h, fun _ _ _ _ _ _ r h => by simp [laws_FnBasis.l4] at h⟩
 | k + 1 => by
  obtain ⟨ih0, ih1, ih2, ih3, ih4, ih5⟩ := laws_FnBasis.mono_l k
  refine ⟨?_, ?_, ?_, ?_, ?_, ?_⟩
  ·
   intro y0 y1 y2 y3 y4 y5 y6
   unfold laws_FnBasis.j0
   repeat' first
   | (with_reducible exact ih0 _ _ _ _ _ _ _)
   | (with_reducible exact ih1 _ _ _ _ _ _ _)
   | (with_reducible exact ih2 _ _ _ _ _ _ _ _)
   | (with_reducible exact ih3 _ _ _ _ _ _ _ _ _ _)
   | (with_reducible exact ih4 _ _ _ _)
   | (with_reducible exact ih5 _ _ _ _ _ _)
   | (with_reducible exact impl_IsSolution.mono _ _ _ _)
   | (with_reducible exact spec_Decompose.mono _ _ _ _)
   | (with_reducible exact spec_DrawDecompose.mono _ _)
   | (with_reducible exact LeO.refl _)
   | (with_reducible exact LeO.none _)
   | (with_reducible refine LeO.ite ?_ ?_)
   | (with_reducible refine LeO.bind ?_ (fun _ => ?_))
   | exact ih0 _ _ _ _ _ _ _
   | exact ih1 _ _ _ _ _ _ _
   | exact ih2 _ _ _ _ _ _ _ _
   | exact ih3 _ _ _ _ _ _ _ _ _ _
   | exact ih4 _ _ _ _
   | exact ih5 _ _ _ _ _ _
   | exact impl_IsSolution.mono _ _ _ _
   | exact spec_Decompose.mono _ _ _ _
   | exact spec_DrawDecompose.mono _ _
   | exact LeO.none _
   | refine LeO.ite ?_ ?_
   | refine LeO.bind ?_ (fun _ => ?_)
  ·
   intro y0 y1 y2 y3 y4 y5 y6
   unfold laws_FnBasis.l0
   repeat' first
   | (with_reducible exact ih0 _ _ _ _ _ _ _)
   | (with_reducible exact ih1 _ _ _ _ _ _ _)
   | (with_reducible exact ih2 _ _ _ _ _ _ _ _)
   | (with_reducible exact ih3 _ _ _ _ _ _ _ _ _ _)
   | (with_reducible exact ih4 _ _ _ _)
   | (with_reducible exact ih5 _ _ _ _ _ _)
   | (with_reducible exact impl_IsSolution.mono _ _ _ _)
   | (with_reducible exact spec_Decompose.mono _ _ _ _)
   | (with_reducible exact spec_DrawDecompose.mono _ _)
   | (with_reducible exact LeO.refl _)
   | (with_reducible exact LeO.none _)
   | (with_reducible refine LeO.ite ?_ ?_)
   | (with_reducible refine LeO.bind ?_ (fun _ => ?_))
   | exact ih0 _ _ _ _ _ _ _
   | exact ih1 _ _ _ _ _ _ _
   | exact ih2 _ _ _ _ _ _ _ _
   | exact ih3 _ _ _ _ _ _ _ _ _ _
   | exact ih4 _ _ _ _
   | exact ih5 _ _ _ _ _ _
   | exact impl_IsSolution.mono _ _ _ _
   | exact spec_Decompose.mono _ _ _ _
   | exact spec_DrawDecompose.mono _ _
   | exact LeO.none _
   | refine LeO.ite ?_ ?_
   | refine LeO.bind ?_ (fun _ => ?_)
  ·
   intro y0 y1 y2 y3 y4 y5 y6 y7
   unfold laws_FnBasis.l1
   repeat' first
   | (with_reducible exact ih0 _ _ _ _ _ _ _)
   | (with_reducible exact ih1 _ _ _ _ _ _ _)
   | (with_reducible exact ih2 _ _ _ _ _ _ _ _)
   | (with_reducible exact ih3 _ _ _ _ _ _ _ _ _ _)
   | (with_reducible exact ih4 _ _ _ _)
   | (with_reducible exact ih5 _ _ _ _ _ _)
   | (with_reducible exact impl_IsSolution.mono _ _ _ _)
   | (with_reducible exact spec_Decompose.mono _ _ _ _)
   | (with_reducible exact spec_DrawDecompose.mono _ _)
   | (with_reducible exact LeO.refl _)
   | (with_reducible exact LeO.none _)
   | (with_reducible refine LeO.ite ?_ ?_)
   | (with_reducible refine LeO.bind ?_ (fun _ => ?_))
   | exact ih0 _ _ _ _ _ _ _
   | exact ih1 _ _ _ _ _ _ _
   | exact ih2 _ _ _ _ _ _ _ _
   | exact ih3 _ _ _ _ _ _ _ _ _ _
   | exact ih4 _ _ _ _
   | exact ih5 _ _ _ _ _ _
   | exact impl_IsSolution.mono _ _ _ _
   | exact spec_Decompose.mono _ _ _ _
   | exact spec_DrawDecompose.mono _ _
   | exact LeO.none _
   | refine LeO.ite ?_ ?_
   | refine LeO.bind ?_ (fun _ => ?_)
  ·
   intro y0 y1 y2 y3 y4 y5 y6 y7 y8 y9
   unfold laws_FnBasis.l2
   repeat' first
   | (with_reducible exact ih0 _ _ _ _ _ _ _)
   | (with_reducible exact ih1 _ _ _ _ _ _ _)
   | (with_reducible exact ih2 _ _ _ _ _ _ _ _)
   | (with_reducible exact ih3 _ _ _ _ _ _ _ _ _ _)
   | (with_reducible exact ih4 _ _ _ _)
   | (with_reducible exact ih5 _ _ _ _ _ _)
   | (with_reducible exact impl_IsSolution.mono _ _ _ _)
   | (with_reducible exact spec_Decompose.mono _ _ _ _)
   | (with_reducible exact spec_DrawDecompose.mono _ _)
   | (with_reducible exact LeO.refl _)
   | (with_reducible exact LeO.none _)
   | (with_reducible refine LeO.ite ?_ ?_)
   | (with_reducible refine LeO.bind ?_ (fun _ => ?_))
   | exact ih0 _ _ _ _ _ _ _
   | exact ih1 _ _ _ _ _ _ _
   | exact ih2 _ _ _ _ _ _ _ _
   | exact ih3 _ _ _ _ _ _ _ _ _ _
   | exact ih4 _ _ _ _
   | exact ih5 _ _ _ _ _ _
   | exact impl_IsSolution.mono _ _ _ _
   | exact spec_Decompose.mono _ _ _ _
   | exact spec_DrawDecompose.mono _ _
   | exact LeO.none _
   | refine LeO.ite ?_ ?_
   | refine LeO.bind ?_ (fun _ => ?_)
  ·
   intro y0 y1 y2 y3
   unfold laws_FnBasis.l3
   repeat' first
   | (with_reducible exact ih0 _ _ _ _ _ _ _)
   | (with_reducible exact ih1 _ _ _ _ _ _ _)
   | (with_reducible exact ih2 _ _ _ _ _ _ _ _)
   | (with_reducible exact ih3 _ _ _ _ _ _ _ _ _ _)
   | (with_reducible exact ih4 _ _ _ _)
   | (with_reducible exact ih5 _ _ _ _ _ _)
   | (with_reducible exact impl_IsSolution.mono _ _ _ _)
   | (with_reducible exact spec_Decompose.mono _ _ _ _)
   | (with_reducible exact spec_DrawDecompose.mono _ _)
   | (with_reducible exact LeO.refl _)
   | (with_reducible exact LeO.none _)
   | (with_reducible refine LeO.ite ?_ ?_)
   | (with_reducible refine LeO.bind ?_ (fun _ => ?_))
   | exact ih0 _ _ _ _ _ _ _
   | exact ih1 _ _ _ _ _ _ _
   | exact ih2 _ _ _ _ _ _ _ _
   | exact ih3 _ _ _ _ _ _ _ _ _ _
   | exact ih4 _ _ _ _
   | exact ih5 _ _ _ _ _ _
   | exact impl_IsSolution.mono _ _ _ _
   | exact spec_Decompose.mono _ _ _ _
   | exact spec_DrawDecompose.mono _ _
   | exact LeO.none _
   | refine LeO.ite ?_ ?_
   | refine LeO.bind ?_ (fun _ => ?_)
  ·
   intro y0 y1 y2 y3 y4 y5
   unfold laws_FnBasis.l4
   repeat' first
   | (with_reducible exact ih0 _ _ _ _ _ _ _)
   | (with_reducible exact ih1 _ _ _ _ _ _ _)
   | (with_reducible exact ih2 _ _ _ _ _ _ _ _)
   | (with_reducible exact ih3 _ _ _ _ _ _ _ _ _ _)
   | (with_reducible exact ih4 _ _ _ _)
   | (with_reducible exact ih5 _ _ _ _ _ _)
   | (with_reducible exact impl_IsSolution.mono _ _ _ _)
   | (with_reducible exact spec_Decompose.mono _ _ _ _)
   | (with_reducible exact spec_DrawDecompose.mono _ _)
   | (with_reducible exact LeO.refl _)
   | (with_reducible exact LeO.none _)
   | (with_reducible refine LeO.ite ?_ ?_)
   | (with_reducible refine LeO.bind ?_ (fun _ => ?_))
   | exact ih0 _ _ _ _ _ _ _
   | exact ih1 _ _ _ _ _ _ _
   | exact ih2 _ _ _ _ _ _ _ _
   | exact ih3 _ _ _ _ _ _ _ _ _ _
   | exact ih4 _ _ _ _
   | exact ih5 _ _ _ _ _ _
   | exact impl_IsSolution.mono _ _ _ _
   | exact spec_Decompose.mono _ _ _ _
   | exact spec_DrawDecompose.mono _ _
   | exact LeO.none _
   | refine LeO.ite ?_ ?_
   | refine LeO.bind ?_ (fun _ => ?_)
theorem laws_FnBasis.mono : ∀ a0 k, LeO (laws_FnBasis.f k a0) (laws_FnBasis.f (k + 1) a0) := by
 intro a0 k
 obtain ⟨ih0, ih1, ih2, ih3, ih4, ih5⟩ := laws_FnBasis.mono_l k
 unfold laws_FnBasis.f
 repeat' first
   | (with_reducible exact ih0 _ _ _ _ _ _ _)
   | (with_reducible exact ih1 _ _ _ _ _ _ _)
   | (with_reducible exact ih2 _ _ _ _ _ _ _ _)
   | (with_reducible exact ih3 _ _ _ _ _ _ _ _ _ _)
   | (with_reducible exact ih4 _ _ _ _)
   | (with_reducible exact ih5 _ _ _ _ _ _)
   | (with_reducible exact impl_IsSolution.mono _ _ _ _)
   | (with_reducible exact spec_Decompose.mono _ _ _ _)
   | (with_reducible exact spec_DrawDecompose.mono _ _)
   | (with_reducible exact LeO.refl _)
   | (with_reducible exact LeO.none _)
   | (with_reducible refine LeO.ite ?_ ?_)
   | (with_reducible refine LeO.bind ?_ (fun _ => ?_))
   | exact ih0 _ _ _ _ _ _ _
   | exact ih1 _ _ _ _ _ _ _
   | exact ih2 _ _ _ _ _ _ _ _
   | exact ih3 _ _ _ _ _ _ _ _ _ _
   | exact ih4 _ _ _ _
   | exact ih5 _ _ _ _ _ _
   | exact impl_IsSolution.mono _ _ _ _
   | exact spec_Decompose.mono _ _ _ _
   | exact spec_DrawDecompose.mono _ _
   | exact LeO.none _
   | refine LeO.ite ?_ ?_
   | refine LeO.bind ?_ (fun _ => ?_)
set_option maxHeartbeats 8000000 in
set_option maxRecDepth 100000 in
theorem laws_FnBasis.calls (k : Nat) (A0 : Option Addr) (c0 : Nat) (l0 : List Int) (r : Bool) (w : World) (hr0 : Kd.C (Kd.int .u8) w A0 l0.length l0) (hc0 : l0.length ≤ c0) (h : laws_FnBasis.f k l0 = some r) :
  Calls Try.prog 13 #[.slice A0 l0.length c0] w fun e w' => e = .returned (.bool r) ∧ Below w.heap.size w w' := by
 have HR0 := Aside0.mk hr0
 have HC0 := Aside0.mk hc0
 clear hr0 hc0
 have HB := Aside0.mk (Below.refl w.heap.size w)
 have H : ((laws_big.f l0).bind fun t213 => (if t213 = true then (some true) else ((spec_DrawDecompose.f k l0).bind fun bt214 => ((impl_SolutionBasis.f bt214.1 bt214.2.1).bind fun bt223 => ((impl_Decompose.f bt214.1 bt214.2.1 bt214.2.2).bind fun bt227 => ((spec_SolutionBasis.f bt214.1 bt214.2.1).bind fun bt231 => ((spec_Decompose.f k bt214.1 bt214.2.1 bt214.2.2).bind fun bt235 => (if (bt223.2 != bt231.2) = true then (laws_FnBasis.j0 k bt214.1 bt214.2.1 bt214.2.2 bt223.1 bt227.1 bt227.2 true) else (if (bt227.2 != bt235.2) = true then (laws_FnBasis.j0 k bt214.1 bt214.2.1 bt214.2.2 bt223.1 bt227.1 bt227.2 true) else ((impl_IsSolution.f k bt214.1 bt214.2.1 bt214.2.2).bind fun t239 => ((spec_IsSolution.f bt214.1 bt214.2.1 bt214.2.2).bind fun t240 => (laws_FnBasis.j0 k bt214.1 bt214.2.1 bt214.2.2 bt223.1 bt227.1 bt227.2 (t239 != t240))))))))))))) = some r := h
 clear h
 replace H := Option.bind_eq_some_iff.mp H
 obtain ⟨t213, A20, H⟩ := H
 replace H : (if t213 = true then (some true) else ((spec_DrawDecompose.f k l0).bind fun bt214 => ((impl_SolutionBasis.f bt214.1 bt214.2.1).bind fun bt223 => ((impl_Decompose.f bt214.1 bt214.2.1 bt214.2.2).bind fun bt227 => ((spec_SolutionBasis.f bt214.1 bt214.2.1).bind fun bt231 => ((spec_Decompose.f k bt214.1 bt214.2.1 bt214.2.2).bind fun bt235 => (if (bt223.2 != bt231.2) = true then (laws_FnBasis.j0 k bt214.1 bt214.2.1 bt214.2.2 bt223.1 bt227.1 bt227.2 true) else (if (bt227.2 != bt235.2) = true then (laws_FnBasis.j0 k bt214.1 bt214.2.1 bt214.2.2 bt223.1 bt227.1 bt227.2 true) else ((impl_IsSolution.f k bt214.1 bt214.2.1 bt214.2.2).bind fun t239 => ((spec_IsSolution.f bt214.1 bt214.2.1 bt214.2.2).bind fun t240 => (laws_FnBasis.j0 k bt214.1 bt214.2.1 bt214.2.2 bt223.1 bt227.1 bt227.2 (t239 != t240)))))))))))) = some r := H
 have A2 := Aside0.mk A20
 clear A20
 by_cases c3 : t213 = true
 ·
  subst c3
  have H1 : (some true) = some r := by rw [if_pos rfl] at H; exact H
  clear H
  have H := H1
  clear H1
  obtain rfl := Option.some.inj H
  go_enter Try.func13, Try.ntmps13
  go_wp2_with (first | (go_at_call 52; (with_reducible refine (laws_big.calls _ _ l0 true _ ?side1 ?side2 A2.out).mono ?_); (case side1 => repeat (first | exact HR0.out | (with_reducible refine Kd.C_alloc ?_ _) | (with_reducible refine Kd.C_drewN ?_ _) | (with_reducible refine Kd.C_drew ?_))); (case side2 => exact HC0.out); rintro e w' ⟨rfl, ⟨nd, rfl⟩⟩; (try first | exact ⟨rfl, _, World.drewN_drewN _ _ _⟩ | exact ⟨rfl, _, Eq.trans (World.drewN_drewN _ _ _) (congrArg (World.drewN _) (Nat.add_assoc _ _ _))⟩)))
  repeat (go_quiet (first | (go_at_call 52; (with_reducible refine (laws_big.calls _ _ l0 true _ ?side1 ?side2 A2.out).mono ?_); (case side1 => repeat (first | exact HR0.out | (with_reducible refine Kd.C_alloc ?_ _) | (with_reducible refine Kd.C_drewN ?_ _) | (with_reducible refine Kd.C_drew ?_))); (case side2 => exact HC0.out); rintro e w' ⟨rfl, ⟨nd, rfl⟩⟩; (try first | exact ⟨rfl, _, World.drewN_drewN _ _ _⟩ | exact ⟨rfl, _, Eq.trans (World.drewN_drewN _ _ _) (congrArg (World.drewN _) (Nat.add_assoc _ _ _))⟩))); try go_wp2_with (first | (go_at_call 52; (with_reducible refine (laws_big.calls _ _ l0 true _ ?side1 ?side2 A2.out).mono ?_); (case side1 => repeat (first | exact HR0.out | (with_reducible refine Kd.C_alloc ?_ _) | (with_reducible refine Kd.C_drewN ?_ _) | (with_reducible refine Kd.C_drew ?_))); (case side2 => exact HC0.out); rintro e w' ⟨rfl, ⟨nd, rfl⟩⟩; (try first | exact ⟨rfl, _, World.drewN_drewN _ _ _⟩ | exact ⟨rfl, _, Eq.trans (World.drewN_drewN _ _ _) (congrArg (World.drewN _) (Nat.add_assoc _ _ _))⟩))))
  go_ret
  exact ⟨by first | rfl | (simp [errW_none, errW_some] <;> rfl) | (simp [*, errW_none, errW_some] <;> rfl), by repeat (first | (with_reducible first | exact HB.out | apply below_alloc | apply pw_below_drewN | apply below_drew1) | exact HB.out)⟩
 ·
  replace c3 := Bool.eq_false_iff.mpr c3
  subst c3
  have H1 : ((spec_DrawDecompose.f k l0).bind fun bt214 => ((impl_SolutionBasis.f bt214.1 bt214.2.1).bind fun bt223 => ((impl_Decompose.f bt214.1 bt214.2.1 bt214.2.2).bind fun bt227 => ((spec_SolutionBasis.f bt214.1 bt214.2.1).bind fun bt231 => ((spec_Decompose.f k bt214.1 bt214.2.1 bt214.2.2).bind fun bt235 => (if (bt223.2 != bt231.2) = true then (laws_FnBasis.j0 k bt214.1 bt214.2.1 bt214.2.2 bt223.1 bt227.1 bt227.2 true) else (if (bt227.2 != bt235.2) = true then (laws_FnBasis.j0 k bt214.1 bt214.2.1 bt214.2.2 bt223.1 bt227.1 bt227.2 true) else ((impl_IsSolution.f k bt214.1 bt214.2.1 bt214.2.2).bind fun t239 => ((spec_IsSolution.f bt214.1 bt214.2.1 bt214.2.2).bind fun t240 => (laws_FnBasis.j0 k bt214.1 bt214.2.1 bt214.2.2 bt223.1 bt227.1 bt227.2 (t239 != t240))))))))))) = some r := by rw [if_neg (show ¬ (false = true) by decide)] at H; exact H
  clear H
  have H := H1
  clear H1
  replace H := Option.bind_eq_some_iff.mp H
  obtain ⟨⟨t214, t215, t216⟩, A40, H⟩ := H
  replace H : ((impl_SolutionBasis.f t214 t215).bind fun bt223 => ((impl_Decompose.f t214 t215 t216).bind fun bt227 => ((spec_SolutionBasis.f t214 t215).bind fun bt231 => ((spec_Decompose.f k t214 t215 t216).bind fun bt235 => (if (bt223.2 != bt231.2) = true then (laws_FnBasis.j0 k t214 t215 t216 bt223.1 bt227.1 bt227.2 true) else (if (bt227.2 != bt235.2) = true then (laws_FnBasis.j0 k t214 t215 t216 bt223.1 bt227.1 bt227.2 true) else ((impl_IsSolution.f k t214 t215 t216).bind fun t239 => ((spec_IsSolution.f t214 t215 t216).bind fun t240 => (laws_FnBasis.j0 k t214 t215 t216 bt223.1 bt227.1 bt227.2 (t239 != t240)))))))))) = some r := H
  have A4 := Aside0.mk A40
  clear A40
  replace H := Option.bind_eq_some_iff.mp H
  obtain ⟨⟨t223, t224⟩, A50, H⟩ := H
  replace H : ((impl_Decompose.f t214 t215 t216).bind fun bt227 => ((spec_SolutionBasis.f t214 t215).bind fun bt231 => ((spec_Decompose.f k t214 t215 t216).bind fun bt235 => (if (t224 != bt231.2) = true then (laws_FnBasis.j0 k t214 t215 t216 t223 bt227.1 bt227.2 true) else (if (bt227.2 != bt235.2) = true then (laws_FnBasis.j0 k t214 t215 t216 t223 bt227.1 bt227.2 true) else ((impl_IsSolution.f k t214 t215 t216).bind fun t239 => ((spec_IsSolution.f t214 t215 t216).bind fun t240 => (laws_FnBasis.j0 k t214 t215 t216 t223 bt227.1 bt227.2 (t239 != t240))))))))) = some r := H
  have A5 := Aside0.mk A50
  clear A50
  replace H := Option.bind_eq_some_iff.mp H
  obtain ⟨⟨t227, t228⟩, A60, H⟩ := H
  replace H : ((spec_SolutionBasis.f t214 t215).bind fun bt231 => ((spec_Decompose.f k t214 t215 t216).bind fun bt235 => (if (t224 != bt231.2) = true then (laws_FnBasis.j0 k t214 t215 t216 t223 t227 t228 true) else (if (t228 != bt235.2) = true then (laws_FnBasis.j0 k t214 t215 t216 t223 t227 t228 true) else ((impl_IsSolution.f k t214 t215 t216).bind fun t239 => ((spec_IsSolution.f t214 t215 t216).bind fun t240 => (laws_FnBasis.j0 k t214 t215 t216 t223 t227 t228 (t239 != t240)))))))) = some r := H
  have A6 := Aside0.mk A60
  clear A60
  replace H := Option.bind_eq_some_iff.mp H
  obtain ⟨⟨t231, t232⟩, A70, H⟩ := H
  replace H : ((spec_Decompose.f k t214 t215 t216).bind fun bt235 => (if (t224 != t232) = true then (laws_FnBasis.j0 k t214 t215 t216 t223 t227 t228 true) else (if (t228 != bt235.2) = true then (laws_FnBasis.j0 k t214 t215 t216 t223 t227 t228 true) else ((impl_IsSolution.f k t214 t215 t216).bind fun t239 => ((spec_IsSolution.f t214 t215 t216).bind fun t240 => (laws_FnBasis.j0 k t214 t215 t216 t223 t227 t228 (t239 != t240))))))) = some r := H
  have A7 := Aside0.mk A70
  clear A70
  replace H := Option.bind_eq_some_iff.mp H
  obtain ⟨⟨t235, t236⟩, A80, H⟩ := H
  replace H : (if (t224 != t232) = true then (laws_FnBasis.j0 k t214 t215 t216 t223 t227 t228 true) else (if (t228 != t236) = true then (laws_FnBasis.j0 k t214 t215 t216 t223 t227 t228 true) else ((impl_IsSolution.f k t214 t215 t216).bind fun t239 => ((spec_IsSolution.f t214 t215 t216).bind fun t240 => (laws_FnBasis.j0 k t214 t215 t216 t223 t227 t228 (t239 != t240)))))) = some r := H
  have A8 := Aside0.mk A80
  clear A80
  have HC9 := Aside0.mk H
  clear H
  go_enter Try.func13, Try.ntmps13
  go_upto_region 8 with (first | (go_at_call 52; (with_reducible refine (laws_big.calls _ _ l0 false _ ?side1 ?side2 A2.out).mono ?_); (case side1 => repeat (first | exact HR0.out | (with_reducible refine Kd.C_alloc ?_ _) | (with_reducible refine Kd.C_drewN ?_ _) | (with_reducible refine Kd.C_drew ?_))); (case side2 => exact HC0.out); rintro e w' ⟨rfl, ⟨nd, rfl⟩⟩; (try first | exact ⟨rfl, _, World.drewN_drewN _ _ _⟩ | exact ⟨rfl, _, Eq.trans (World.drewN_drewN _ _ _) (congrArg (World.drewN _) (Nat.add_assoc _ _ _))⟩)) | (go_at_call 53; (with_reducible refine (spec_DrawDecompose.calls k _ _ l0 t214 t215 t216 _ ?side1 ?side2 A4.out).mono ?_); (case side1 => repeat (first | exact HR0.out | (with_reducible refine Kd.C_alloc ?_ _) | (with_reducible refine Kd.C_drewN ?_ _) | (with_reducible refine Kd.C_drew ?_))); (case side2 => exact HC0.out); rintro e w10 ⟨v217, v219, v221, rfl, ho0, ho1, ho2, hb⟩; have n0_ := Aside0.mk (Kd.R_lower ho0 (below_size (by repeat (first | (with_reducible first | exact HB.out | apply below_alloc | apply pw_below_drewN | apply below_drew1) | exact HB.out)))); have n1_ := Aside0.mk (Kd.R_lower ho1 (below_size (by repeat (first | (with_reducible first | exact HB.out | apply below_alloc | apply pw_below_drewN | apply below_drew1) | exact HB.out)))); have n2_ := Aside0.mk (Kd.R_lower ho2 (below_size (by repeat (first | (with_reducible first | exact HB.out | apply below_alloc | apply pw_below_drewN | apply below_drew1) | exact HB.out)))); have n3_ := Aside0.mk (below_step (by repeat (first | (with_reducible first | exact HB.out | apply below_alloc | apply pw_below_drewN | apply below_drew1) | exact HB.out)) hb); clear HB; have HO218 := n0_; have HO220 := n1_; have HO222 := n2_; have HB := n3_; clear n0_ n1_ n2_ n3_; (try clear hb); (try clear hb2); (try clear hk); (try clear hi); (try clear ho0); (try clear ho1); (try clear ho2); obtain ⟨Ao11, co11, eo11⟩ := Kd.R_slice HO218.out; subst eo11; obtain ⟨Ao12, co12, eo12⟩ := Kd.R_slice HO220.out; subst eo12) | (go_at_call 48; (with_reducible refine (impl_SolutionBasis.calls _ _ t214 _ _ t215 t223 t224 _ ?side1 ?side2 ?side3 ?side4 A5.out).mono ?_); (case side1 => repeat (first | exact (Kd.R_reads' HO218.out).2.2 | (with_reducible refine Kd.C_alloc ?_ _) | (with_reducible refine Kd.C_drewN ?_ _) | (with_reducible refine Kd.C_drew ?_))); (case side2 => exact (Kd.R_reads' HO218.out).2.1); (case side3 => repeat (first | exact (Kd.R_reads' HO220.out).2.2 | (with_reducible refine Kd.C_alloc ?_ _) | (with_reducible refine Kd.C_drewN ?_ _) | (with_reducible refine Kd.C_drew ?_))); (case side4 => exact (Kd.R_reads' HO220.out).2.1); rintro e w13 ⟨v225, rfl, ho0, hb⟩; have n0_ := Aside0.mk (Kd.R_below (by (with_reducible repeat (first | apply Kd.R_alloc | apply Kd.R_drewN | apply Kd.R_drew)); exact HO218.out) hb); have n1_ := Aside0.mk (Kd.R_below (by (with_reducible repeat (first | apply Kd.R_alloc | apply Kd.R_drewN | apply Kd.R_drew)); exact HO220.out) hb); have n2_ := Aside0.mk (Kd.R_below (by (with_reducible repeat (first | apply Kd.R_alloc | apply Kd.R_drewN | apply Kd.R_drew)); exact HO222.out) hb); have n3_ := Aside0.mk (Kd.S_lower (Kd.S_new' (Kd.S_new' (Kd.S_new' ho0 (Kd.R_lt (by (with_reducible repeat (first | apply Kd.R_alloc | apply Kd.R_drewN | apply Kd.R_drew)); exact HO218.out))) (Kd.R_lt (by (with_reducible repeat (first | apply Kd.R_alloc | apply Kd.R_drewN | apply Kd.R_drew)); exact HO220.out))) (Kd.R_lt (by (with_reducible repeat (first | apply Kd.R_alloc | apply Kd.R_drewN | apply Kd.R_drew)); exact HO222.out))) (below_size (by repeat (first | (with_reducible first | exact HB.out | apply below_alloc | apply pw_below_drewN | apply below_drew1) | exact HB.out)))); have n4_ := Aside0.mk (below_step (by repeat (first | (with_reducible first | exact HB.out | apply below_alloc | apply pw_below_drewN | apply below_drew1) | exact HB.out)) hb); clear HO218; clear HO220; clear HO222; clear HB; have HO218 := n0_; have HO220 := n1_; have HO222 := n2_; have HO226 := n3_; have HB := n4_; clear n0_ n1_ n2_ n3_ n4_; (try clear hb); (try clear hb2); (try clear hk); (try clear hi); (try clear ho0); obtain ⟨Ao14, co14, eo14⟩ := Kd.R_slice HO222.out; subst eo14) | (go_at_call 50; (with_reducible refine (impl_Decompose.calls _ _ t214 _ _ t215 _ _ t216 t227 t228 _ ?side1 ?side2 ?side3 ?side4 ?side5 ?side6 A6.out).mono ?_); (case side1 => repeat (first | exact (Kd.R_reads' HO218.out).2.2 | (with_reducible refine Kd.C_alloc ?_ _) | (with_reducible refine Kd.C_drewN ?_ _) | (with_reducible refine Kd.C_drew ?_))); (case side2 => exact (Kd.R_reads' HO218.out).2.1); (case side3 => repeat (first | exact (Kd.R_reads' HO220.out).2.2 | (with_reducible refine Kd.C_alloc ?_ _) | (with_reducible refine Kd.C_drewN ?_ _) | (with_reducible refine Kd.C_drew ?_))); (case side4 => exact (Kd.R_reads' HO220.out).2.1); (case side5 => repeat (first | exact (Kd.R_reads' HO222.out).2.2 | (with_reducible refine Kd.C_alloc ?_ _) | (with_reducible refine Kd.C_drewN ?_ _) | (with_reducible refine Kd.C_drew ?_))); (case side6 => exact (Kd.R_reads' HO222.out).2.1); rintro e w15 ⟨v229, rfl, ho0, hb⟩; have n0_ := Aside0.mk (Kd.R_elder' (by (with_reducible repeat (first | apply Kd.R_alloc | apply Kd.R_drewN | apply Kd.R_drew)); exact HO218.out) (Kd.R_base ho0) hb); have n1_ := Aside0.mk (Kd.R_elder' (by (with_reducible repeat (first | apply Kd.R_alloc | apply Kd.R_drewN | apply Kd.R_drew)); exact HO220.out) (Kd.R_base ho0) hb); have n2_ := Aside0.mk (Kd.R_elder' (by (with_reducible repeat (first | apply Kd.R_alloc | apply Kd.R_drewN | apply Kd.R_drew)); exact HO222.out) (Kd.R_base ho0) hb); have n3_ := Aside0.mk (Kd.S_elder' (by (with_reducible repeat (first | apply Kd.S_alloc | apply Kd.S_drewN | apply Kd.S_drew)); exact HO226.out) (Kd.R_base ho0) hb); have n4_ := Aside0.mk (Kd.R_lower (Kd.R_new' (Kd.R_new' (Kd.R_new' ho0 (Kd.R_lt (by (with_reducible repeat (first | apply Kd.R_alloc | apply Kd.R_drewN | apply Kd.R_drew)); exact HO218.out))) (Kd.R_lt (by (with_reducible repeat (first | apply Kd.R_alloc | apply Kd.R_drewN | apply Kd.R_drew)); exact HO220.out))) (Kd.R_lt (by (with_reducible repeat (first | apply Kd.R_alloc | apply Kd.R_drewN | apply Kd.R_drew)); exact HO222.out))) (below_size (by repeat (first | (with_reducible first | exact HB.out | apply below_alloc | apply pw_below_drewN | apply below_drew1) | exact HB.out)))); have n5_ := Aside0.mk (below_step (by repeat (first | (with_reducible first | exact HB.out | apply below_alloc | apply pw_below_drewN | apply below_drew1) | exact HB.out)) hb); clear HO218; clear HO220; clear HO222; clear HO226; clear HB; have HO218 := n0_; have HO220 := n1_; have HO222 := n2_; have HO226 := n3_; have HO230 := n4_; have HB := n5_; clear n0_ n1_ n2_ n3_ n4_ n5_; (try clear hb); (try clear hb2); (try clear hk); (try clear hi); (try clear ho0)) | (go_at_call 47; (with_reducible refine (spec_SolutionBasis.calls _ _ t214 _ _ t215 t231 t232 _ ?side1 ?side2 ?side3 ?side4 A7.out).mono ?_); (case side1 => repeat (first | exact (Kd.R_reads' HO218.out).2.2 | (with_reducible refine Kd.C_alloc ?_ _) | (with_reducible refine Kd.C_drewN ?_ _) | (with_reducible refine Kd.C_drew ?_))); (case side2 => exact (Kd.R_reads' HO218.out).2.1); (case side3 => repeat (first | exact (Kd.R_reads' HO220.out).2.2 | (with_reducible refine Kd.C_alloc ?_ _) | (with_reducible refine Kd.C_drewN ?_ _) | (with_reducible refine Kd.C_drew ?_))); (case side4 => exact (Kd.R_reads' HO220.out).2.1); rintro e w16 ⟨v233, rfl, ho0, hb⟩; have n0_ := Aside0.mk (Kd.R_below (by (with_reducible repeat (first | apply Kd.R_alloc | apply Kd.R_drewN | apply Kd.R_drew)); exact HO218.out) hb); have n1_ := Aside0.mk (Kd.R_below (by (with_reducible repeat (first | apply Kd.R_alloc | apply Kd.R_drewN | apply Kd.R_drew)); exact HO220.out) hb); have n2_ := Aside0.mk (Kd.R_below (by (with_reducible repeat (first | apply Kd.R_alloc | apply Kd.R_drewN | apply Kd.R_drew)); exact HO222.out) hb); have n3_ := Aside0.mk (Kd.S_elder' (by (with_reducible repeat (first | apply Kd.S_alloc | apply Kd.S_drewN | apply Kd.S_drew)); exact HO226.out) (Kd.S_base ho0) hb); have n4_ := Aside0.mk (Kd.R_below (by (with_reducible repeat (first | apply Kd.R_alloc | apply Kd.R_drewN | apply Kd.R_drew)); exact HO230.out) hb); have n5_ := Aside0.mk (Kd.S_lower (Kd.S_new' (Kd.S_new' (Kd.S_new' (Kd.S_new' (Kd.S_new' ho0 (Kd.R_lt (by (with_reducible repeat (first | apply Kd.R_alloc | apply Kd.R_drewN | apply Kd.R_drew)); exact HO218.out))) (Kd.R_lt (by (with_reducible repeat (first | apply Kd.R_alloc | apply Kd.R_drewN | apply Kd.R_drew)); exact HO220.out))) (Kd.R_lt (by (with_reducible repeat (first | apply Kd.R_alloc | apply Kd.R_drewN | apply Kd.R_drew)); exact HO222.out))) (Kd.S_lt (by (with_reducible repeat (first | apply Kd.S_alloc | apply Kd.S_drewN | apply Kd.S_drew)); exact HO226.out))) (Kd.R_lt (by (with_reducible repeat (first | apply Kd.R_alloc | apply Kd.R_drewN | apply Kd.R_drew)); exact HO230.out))) (below_size (by repeat (first | (with_reducible first | exact HB.out | apply below_alloc | apply pw_below_drewN | apply below_drew1) | exact HB.out)))); have n6_ := Aside0.mk (below_step (by repeat (first | (with_reducible first | exact HB.out | apply below_alloc | apply pw_below_drewN | apply below_drew1) | exact HB.out)) hb); clear HO218; clear HO220; clear HO222; clear HO226; clear HO230; clear HB; have HO218 := n0_; have HO220 := n1_; have HO222 := n2_; have HO226 := n3_; have HO230 := n4_; have HO234 := n5_; have HB := n6_; clear n0_ n1_ n2_ n3_ n4_ n5_ n6_; (try clear hb); (try clear hb2); (try clear hk); (try clear hi); (try clear ho0)) | (go_at_call 49; (with_reducible refine (spec_Decompose.calls k _ _ t214 _ _ t215 _ _ t216 t235 t236 _ ?side1 ?side2 ?side3 ?side4 ?side5 ?side6 A8.out).mono ?_); (case side1 => repeat (first | exact (Kd.R_reads' HO218.out).2.2 | (with_reducible refine Kd.C_alloc ?_ _) | (with_reducible refine Kd.C_drewN ?_ _) | (with_reducible refine Kd.C_drew ?_))); (case side2 => exact (Kd.R_reads' HO218.out).2.1); (case side3 => repeat (first | exact (Kd.R_reads' HO220.out).2.2 | (with_reducible refine Kd.C_alloc ?_ _) | (with_reducible refine Kd.C_drewN ?_ _) | (with_reducible refine Kd.C_drew ?_))); (case side4 => exact (Kd.R_reads' HO220.out).2.1); (case side5 => repeat (first | exact (Kd.R_reads' HO222.out).2.2 | (with_reducible refine Kd.C_alloc ?_ _) | (with_reducible refine Kd.C_drewN ?_ _) | (with_reducible refine Kd.C_drew ?_))); (case side6 => exact (Kd.R_reads' HO222.out).2.1); rintro e w17 ⟨v237, rfl, ho0, hb⟩; have n0_ := Aside0.mk (Kd.R_elder' (by (with_reducible repeat (first | apply Kd.R_alloc | apply Kd.R_drewN | apply Kd.R_drew)); exact HO218.out) (Kd.R_base ho0) hb); have n1_ := Aside0.mk (Kd.R_elder' (by (with_reducible repeat (first | apply Kd.R_alloc | apply Kd.R_drewN | apply Kd.R_drew)); exact HO220.out) (Kd.R_base ho0) hb); have n2_ := Aside0.mk (Kd.R_elder' (by (with_reducible repeat (first | apply Kd.R_alloc | apply Kd.R_drewN | apply Kd.R_drew)); exact HO222.out) (Kd.R_base ho0) hb); have n3_ := Aside0.mk (Kd.S_elder' (by (with_reducible repeat (first | apply Kd.S_alloc | apply Kd.S_drewN | apply Kd.S_drew)); exact HO226.out) (Kd.R_base ho0) hb); have n4_ := Aside0.mk (Kd.R_elder' (by (with_reducible repeat (first | apply Kd.R_alloc | apply Kd.R_drewN | apply Kd.R_drew)); exact HO230.out) (Kd.R_base ho0) hb); have n5_ := Aside0.mk (Kd.S_elder' (by (with_reducible repeat (first | apply Kd.S_alloc | apply Kd.S_drewN | apply Kd.S_drew)); exact HO234.out) (Kd.R_base ho0) hb); have n6_ := Aside0.mk (Kd.R_lower (Kd.R_new' (Kd.R_new' (Kd.R_new' (Kd.R_new' ho0 (Kd.R_lt (by (with_reducible repeat (first | apply Kd.R_alloc | apply Kd.R_drewN | apply Kd.R_drew)); exact HO218.out))) (Kd.R_lt (by (with_reducible repeat (first | apply Kd.R_alloc | apply Kd.R_drewN | apply Kd.R_drew)); exact HO220.out))) (Kd.R_lt (by (with_reducible repeat (first | apply Kd.R_alloc | apply Kd.R_drewN | apply Kd.R_drew)); exact HO222.out))) (Kd.R_lt (by (with_reducible repeat (first | apply Kd.R_alloc | apply Kd.R_drewN | apply Kd.R_drew)); exact HO230.out))) (below_size (by repeat (first | (with_reducible first | exact HB.out | apply below_alloc | apply pw_below_drewN | apply below_drew1) | exact HB.out)))); have n7_ := Aside0.mk (below_step (by repeat (first | (with_reducible first | exact HB.out | apply below_alloc | apply pw_below_drewN | apply below_drew1) | exact HB.out)) hb); clear HO218; clear HO220; clear HO222; clear HO226; clear HO230; clear HO234; clear HB; have HO218 := n0_; have HO220 := n1_; have HO222 := n2_; have HO226 := n3_; have HO230 := n4_; have HO234 := n5_; have HO238 := n6_; have HB := n7_; clear n0_ n1_ n2_ n3_ n4_ n5_ n6_ n7_; (try clear hb); (try clear hb2); (try clear hk); (try clear hi); (try clear ho0)))
  repeat (go_quiet (first | (go_at_call 52; (with_reducible refine (laws_big.calls _ _ l0 false _ ?side1 ?side2 A2.out).mono ?_); (case side1 => repeat (first | exact HR0.out | (with_reducible refine Kd.C_alloc ?_ _) | (with_reducible refine Kd.C_drewN ?_ _) | (with_reducible refine Kd.C_drew ?_))); (case side2 => exact HC0.out); rintro e w' ⟨rfl, ⟨nd, rfl⟩⟩; (try first | exact ⟨rfl, _, World.drewN_drewN _ _ _⟩ | exact ⟨rfl, _, Eq.trans (World.drewN_drewN _ _ _) (congrArg (World.drewN _) (Nat.add_assoc _ _ _))⟩)) | (go_at_call 53; (with_reducible refine (spec_DrawDecompose.calls k _ _ l0 t214 t215 t216 _ ?side1 ?side2 A4.out).mono ?_); (case side1 => repeat (first | exact HR0.out | (with_reducible refine Kd.C_alloc ?_ _) | (with_reducible refine Kd.C_drewN ?_ _) | (with_reducible refine Kd.C_drew ?_))); (case side2 => exact HC0.out); rintro e w10 ⟨v217, v219, v221, rfl, ho0, ho1, ho2, hb⟩; have n0_ := Aside0.mk (Kd.R_lower ho0 (below_size (by repeat (first | (with_reducible first | exact HB.out | apply below_alloc | apply pw_below_drewN | apply below_drew1) | exact HB.out)))); have n1_ := Aside0.mk (Kd.R_lower ho1 (below_size (by repeat (first | (with_reducible first | exact HB.out | apply below_alloc | apply pw_below_drewN | apply below_drew1) | exact HB.out)))); have n2_ := Aside0.mk (Kd.R_lower ho2 (below_size (by repeat (first | (with_reducible first | exact HB.out | apply below_alloc | apply pw_below_drewN | apply below_drew1) | exact HB.out)))); have n3_ := Aside0.mk (below_step (by repeat (first | (with_reducible first | exact HB.out | apply below_alloc | apply pw_below_drewN | apply below_drew1) | exact HB.out)) hb); clear HB; have HO218 := n0_; have HO220 := n1_; have HO222 := n2_; have HB := n3_; clear n0_ n1_ n2_ n3_; (try clear hb); (try clear hb2); (try clear hk); (try clear hi); (try clear ho0); (try clear ho1); (try clear ho2); obtain ⟨Ao11, co11, eo11⟩ := Kd.R_slice HO218.out; subst eo11; obtain ⟨Ao12, co12, eo12⟩ := Kd.R_slice HO220.out; subst eo12) | (go_at_call 48; (with_reducible refine (impl_SolutionBasis.calls _ _ t214 _ _ t215 t223 t224 _ ?side1 ?side2 ?side3 ?side4 A5.out).mono ?_); (case side1 => repeat (first | exact (Kd.R_reads' HO218.out).2.2 | (with_reducible refine Kd.C_alloc ?_ _) | (with_reducible refine Kd.C_drewN ?_ _) | (with_reducible refine Kd.C_drew ?_))); (case side2 => exact (Kd.R_reads' HO218.out).2.1); (case side3 => repeat (first | exact (Kd.R_reads' HO220.out).2.2 | (with_reducible refine Kd.C_alloc ?_ _) | (with_reducible refine Kd.C_drewN ?_ _) | (with_reducible refine Kd.C_drew ?_))); (case side4 => exact (Kd.R_reads' HO220.out).2.1); rintro e w13 ⟨v225, rfl, ho0, hb⟩; have n0_ := Aside0.mk (Kd.R_below (by (with_reducible repeat (first | apply Kd.R_alloc | apply Kd.R_drewN | apply Kd.R_drew)); exact HO218.out) hb); have n1_ := Aside0.mk (Kd.R_below (by (with_reducible repeat (first | apply Kd.R_alloc | apply Kd.R_drewN | apply Kd.R_drew)); exact HO220.out) hb); have n2_ := Aside0.mk (Kd.R_below (by (with_reducible repeat (first | apply Kd.R_alloc | apply Kd.R_drewN | apply Kd.R_drew)); exact HO222.out) hb); have n3_ := Aside0.mk (Kd.S_lower (Kd.S_new' (Kd.S_new' (Kd.S_new' ho0 (Kd.R_lt (by (with_reducible repeat (first | apply Kd.R_alloc | apply Kd.R_drewN | apply Kd.R_drew)); exact HO218.out))) (Kd.R_lt (by (with_reducible repeat (first | apply Kd.R_alloc | apply Kd.R_drewN | apply Kd.R_drew)); exact HO220.out))) (Kd.R_lt (by (with_reducible repeat (first | apply Kd.R_alloc | apply Kd.R_drewN | apply Kd.R_drew)); exact HO222.out))) (below_size (by repeat (first | (with_reducible first | exact HB.out | apply below_alloc | apply pw_below_drewN | apply below_drew1) | exact HB.out)))); have n4_ := Aside0.mk (below_step (by repeat (first | (with_reducible first | exact HB.out | apply below_alloc | apply pw_below_drewN | apply below_drew1) | exact HB.out)) hb); clear HO218; clear HO220; clear HO222; clear HB; have HO218 := n0_; have HO220 := n1_; have HO222 := n2_; have HO226 := n3_; have HB := n4_; clear n0_ n1_ n2_ n3_ n4_; (try clear hb); (try clear hb2); (try clear hk); (try clear hi); (try clear ho0); obtain ⟨Ao14, co14, eo14⟩ := Kd.R_slice HO222.out; subst eo14) | (go_at_call 50; (with_reducible refine (impl_Decompose.calls _ _ t214 _ _ t215 _ _ t216 t227 t228 _ ?side1 ?side2 ?side3 ?side4 ?side5 ?side6 A6.out).mono ?_); (case side1 => repeat (first | exact (Kd.R_reads' HO218.out).2.2 | (with_reducible refine Kd.C_alloc ?_ _) | (with_reducible refine Kd.C_drewN ?_ _) | (with_reducible refine Kd.C_drew ?_))); (case side2 => exact (Kd.R_reads' HO218.out).2.1); (case side3 => repeat (first | exact (Kd.R_reads' HO220.out).2.2 | (with_reducible refine Kd.C_alloc ?_ _) | (with_reducible refine Kd.C_drewN ?_ _) | (with_reducible refine Kd.C_drew ?_))); (case side4 => exact (Kd.R_reads' HO220.out).2.1); (case side5 => repeat (first | exact (Kd.R_reads' HO222.out).2.2 | (with_reducible refine Kd.C_alloc ?_ _) | (with_reducible refine Kd.C_drewN ?_ _) | (with_reducible refine Kd.C_drew ?_))); (case side6 => exact (Kd.R_reads' HO222.out).2.1); rintro e w15 ⟨v229, rfl, ho0, hb⟩; have n0_ := Aside0.mk (Kd.R_elder' (by (with_reducible repeat (first | apply Kd.R_alloc | apply Kd.R_drewN | apply Kd.R_drew)); exact HO218.out) (Kd.R_base ho0) hb); have n1_ := Aside0.mk (Kd.R_elder' (by (with_reducible repeat (first | apply Kd.R_alloc | apply Kd.R_drewN | apply Kd.R_drew)); exact HO220.out) (Kd.R_base ho0) hb); have n2_ := Aside0.mk (Kd.R_elder' (by (with_reducible repeat (first | apply Kd.R_alloc | apply Kd.R_drewN | apply Kd.R_drew)); exact HO222.out) (Kd.R_base ho0) hb); have n3_ := Aside0.mk (Kd.S_elder' (by (with_reducible repeat (first | apply Kd.S_alloc | apply Kd.S_drewN | apply Kd.S_drew)); exact HO226.out) (Kd.R_base ho0) hb); have n4_ := Aside0.mk (Kd.R_lower (Kd.R_new' (Kd.R_new' (Kd.R_new' ho0 (Kd.R_lt (by (with_reducible repeat (first | apply Kd.R_alloc | apply Kd.R_drewN | apply Kd.R_drew)); exact HO218.out))) (Kd.R_lt (by (with_reducible repeat (first | apply Kd.R_alloc | apply Kd.R_drewN | apply Kd.R_drew)); exact HO220.out))) (Kd.R_lt (by (with_reducible repeat (first | apply Kd.R_alloc | apply Kd.R_drewN | apply Kd.R_drew)); exact HO222.out))) (below_size (by repeat (first | (with_reducible first | exact HB.out | apply below_alloc | apply pw_below_drewN | apply below_drew1) | exact HB.out)))); have n5_ := Aside0.mk (below_step (by repeat (first | (with_reducible first | exact HB.out | apply below_alloc | apply pw_below_drewN | apply below_drew1) | exact HB.out)) hb); clear HO218; clear HO220; clear HO222; clear HO226; clear HB; have HO218 := n0_; have HO220 := n1_; have HO222 := n2_; have HO226 := n3_; have HO230 := n4_; have HB := n5_; clear n0_ n1_ n2_ n3_ n4_ n5_; (try clear hb); (try clear hb2); (try clear hk); (try clear hi); (try clear ho0)) | (go_at_call 47; (with_reducible refine (spec_SolutionBasis.calls _ _ t214 _ _ t215 t231 t232 _ ?side1 ?side2 ?side3 ?side4 A7.out).mono ?_); (case side1 => repeat (first | exact (Kd.R_reads' HO218.out).2.2 | (with_reducible refine Kd.C_alloc ?_ _) | (with_reducible refine Kd.C_drewN ?_ _) | (with_reducible refine Kd.C_drew ?_))); (case side2 => exact (Kd.R_reads' HO218.out).2.1); (case side3 => repeat (first | exact (Kd.R_reads' HO220.out).2.2 | (with_reducible refine Kd.C_alloc ?_ _) | (with_reducible refine Kd.C_drewN ?_ _) | (with_reducible refine Kd.C_drew ?_))); (case side4 => exact (Kd.R_reads' HO220.out).2.1); rintro e w16 ⟨v233, rfl, ho0, hb⟩; have n0_ := Aside0.mk (Kd.R_below (by (with_reducible repeat (first | apply Kd.R_alloc | apply Kd.R_drewN | apply Kd.R_drew)); exact HO218.out) hb); have n1_ := Aside0.mk (Kd.R_below (by (with_reducible repeat (first | apply Kd.R_alloc | apply Kd.R_drewN | apply Kd.R_drew)); exact HO220.out) hb); have n2_ := Aside0.mk (Kd.R_below (by (with_reducible repeat (first | apply Kd.R_alloc | apply Kd.R_drewN | apply Kd.R_drew)); exact HO222.out) hb); have n3_ := Aside0.mk (Kd.S_elder' (by (with_reducible repeat (first | apply Kd.S_alloc | apply Kd.S_drewN | apply Kd.S_drew)); exact HO226.out) (Kd.S_base ho0) hb); have n4_ := Aside0.mk (Kd.R_below (by (with_reducible repeat (first | apply Kd.R_alloc | apply Kd.R_drewN | apply Kd.R_drew)); exact HO230.out) hb); have n5_ := Aside0.mk (Kd.S_lower (Kd.S_new' (Kd.S_new' (Kd.S_new' (Kd.S_new' (Kd.S_new' ho0 (Kd.R_lt (by (with_reducible repeat (first | apply Kd.R_alloc | apply Kd.R_drewN | apply Kd.R_drew)); exact HO218.out))) (Kd.R_lt (by (with_reducible repeat (first | apply Kd.R_alloc | apply Kd.R_drewN | apply Kd.R_drew)); exact HO220.out))) (Kd.R_lt (by (with_reducible repeat (first | apply Kd.R_alloc | apply Kd.R_drewN | apply Kd.R_drew)); exact HO222.out))) (Kd.S_lt (by (with_reducible repeat (first | apply Kd.S_alloc | apply Kd.S_drewN | apply Kd.S_drew)); exact HO226.out))) (Kd.R_lt (by (with_reducible repeat (first | apply Kd.R_alloc | apply Kd.R_drewN | apply Kd.R_drew)); exact HO230.out))) (below_size (by repeat (first | (with_reducible first | exact HB.out | apply below_alloc | apply pw_below_drewN | apply below_drew1) | exact HB.out)))); have n6_ := Aside0.mk (below_step (by repeat (first | (with_reducible first | exact HB.out | apply below_alloc | apply pw_below_drewN | apply below_drew1) | exact HB.out)) hb); clear HO218; clear HO220; clear HO222; clear HO226; clear HO230; clear HB; have HO218 := n0_; have HO220 := n1_; have HO222 := n2_; have HO226 := n3_; have HO230 := n4_; have HO234 := n5_; have HB := n6_; clear n0_ n1_ n2_ n3_ n4_ n5_ n6_; (try clear hb); (try clear hb2); (try clear hk); (try clear hi); (try clear ho0)) | (go_at_call 49; (with_reducible refine (spec_Decompose.calls k _ _ t214 _ _ t215 _ _ t216 t235 t236 _ ?side1 ?side2 ?side3 ?side4 ?side5 ?side6 A8.out).mono ?_); (case side1 => repeat (first | exact (Kd.R_reads' HO218.out).2.2 | (with_reducible refine Kd.C_alloc ?_ _) | (with_reducible refine Kd.C_drewN ?_ _) | (with_reducible refine Kd.C_drew ?_))); (case side2 => exact (Kd.R_reads' HO218.out).2.1); (case side3 => repeat (first | exact (Kd.R_reads' HO220.out).2.2 | (with_reducible refine Kd.C_alloc ?_ _) | (with_reducible refine Kd.C_drewN ?_ _) | (with_reducible refine Kd.C_drew ?_))); (case side4 => exact (Kd.R_reads' HO220.out).2.1); (case side5 => repeat (first | exact (Kd.R_reads' HO222.out).2.2 | (with_reducible refine Kd.C_alloc ?_ _) | (with_reducible refine Kd.C_drewN ?_ _) | (with_reducible refine Kd.C_drew ?_))); (case side6 => exact (Kd.R_reads' HO222.out).2.1); rintro e w17 ⟨v237, rfl, ho0, hb⟩; have n0_ := Aside0.mk (Kd.R_elder' (by (with_reducible repeat (first | apply Kd.R_alloc | apply Kd.R_drewN | apply Kd.R_drew)); exact HO218.out) (Kd.R_base ho0) hb); have n1_ := Aside0.mk (Kd.R_elder' (by (with_reducible repeat (first | apply Kd.R_alloc | apply Kd.R_drewN | apply Kd.R_drew)); exact HO220.out) (Kd.R_base ho0) hb); have n2_ := Aside0.mk (Kd.R_elder' (by (with_reducible repeat (first | apply Kd.R_alloc | apply Kd.R_drewN | apply Kd.R_drew)); exact HO222.out) (Kd.R_base ho0) hb); have n3_ := Aside0.mk (Kd.S_elder' (by (with_reducible repeat (first | apply Kd.S_alloc | apply Kd.S_drewN | apply Kd.S_drew)); exact HO226.out) (Kd.R_base ho0) hb); have n4_ := Aside0.mk (Kd.R_elder' (by (with_reducible repeat (first | apply Kd.R_alloc | apply Kd.R_drewN | apply Kd.R_drew)); exact HO230.out) (Kd.R_base ho0) hb); have n5_ := Aside0.mk (Kd.S_elder' (by (with_reducible repeat (first | apply Kd.S_alloc | apply Kd.S_drewN | apply Kd.S_drew)); exact HO234.out) (Kd.R_base ho0) hb); have n6_ := Aside0.mk (Kd.R_lower (Kd.R_new' (Kd.R_new' (Kd.R_new' (Kd.R_new' ho0 (Kd.R_lt (by (with_reducible repeat (first | apply Kd.R_alloc | apply Kd.R_drewN | apply Kd.R_drew)); exact HO218.out))) (Kd.R_lt (by (with_reducible repeat (first | apply Kd.R_alloc | apply Kd.R_drewN | apply Kd.R_drew)); exact HO220.out))) (Kd.R_lt (by (with_reducible repeat (first | apply Kd.R_alloc | apply Kd.R_drewN | apply Kd.R_drew)); exact HO222.out))) (Kd.R_lt (by (with_reducible repeat (first | apply Kd.R_alloc | apply Kd.R_drewN | apply Kd.R_drew)); exact HO230.out))) (below_size (by repeat (first | (with_reducible first | exact HB.out | apply below_alloc | apply pw_below_drewN | apply below_drew1) | exact HB.out)))); have n7_ := Aside0.mk (below_step (by repeat (first | (with_reducible first | exact HB.out | apply below_alloc | apply pw_below_drewN | apply below_drew1) | exact HB.out)) hb); clear HO218; clear HO220; clear HO222; clear HO226; clear HO230; clear HO234; clear HB; have HO218 := n0_; have HO220 := n1_; have HO222 := n2_; have HO226 := n3_; have HO230 := n4_; have HO234 := n5_; have HO238 := n6_; have HB := n7_; clear n0_ n1_ n2_ n3_ n4_ n5_ n6_ n7_; (try clear hb); (try clear hb2); (try clear hk); (try clear hi); (try clear ho0))); go_upto_region 8 with (first | (go_at_call 52; (with_reducible refine (laws_big.calls _ _ l0 false _ ?side1 ?side2 A2.out).mono ?_); (case side1 => repeat (first | exact HR0.out | (with_reducible refine Kd.C_alloc ?_ _) | (with_reducible refine Kd.C_drewN ?_ _) | (with_reducible refine Kd.C_drew ?_))); (case side2 => exact HC0.out); rintro e w' ⟨rfl, ⟨nd, rfl⟩⟩; (try first | exact ⟨rfl, _, World.drewN_drewN _ _ _⟩ | exact ⟨rfl, _, Eq.trans (World.drewN_drewN _ _ _) (congrArg (World.drewN _) (Nat.add_assoc _ _ _))⟩)) | (go_at_call 53; (with_reducible refine (spec_DrawDecompose.calls k _ _ l0 t214 t215 t216 _ ?side1 ?side2 A4.out).mono ?_); (case side1 => repeat (first | exact HR0.out | (with_reducible refine Kd.C_alloc ?_ _) | (with_reducible refine Kd.C_drewN ?_ _) | (with_reducible refine Kd.C_drew ?_))); (case side2 => exact HC0.out); rintro e w10 ⟨v217, v219, v221, rfl, ho0, ho1, ho2, hb⟩; have n0_ := Aside0.mk (Kd.R_lower ho0 (below_size (by repeat (first | (with_reducible first | exact HB.out | apply below_alloc | apply pw_below_drewN | apply below_drew1) | exact HB.out)))); have n1_ := Aside0.mk (Kd.R_lower ho1 (below_size (by repeat (first | (with_reducible first | exact HB.out | apply below_alloc | apply pw_below_drewN | apply below_drew1) | exact HB.out)))); have n2_ := Aside0.mk (Kd.R_lower ho2 (below_size (by repeat (first | (with_reducible first | exact HB.out | apply below_alloc | apply pw_below_drewN | apply below_drew1) | exact HB.out)))); have n3_ := Aside0.mk (below_step (by repeat (first | (with_reducible first | exact HB.out | apply below_alloc | apply pw_below_drewN | apply below_drew1) | exact HB.out)) hb); clear HB; have HO218 := n0_; have HO220 := n1_; have HO222 := n2_; have HB := n3_; clear n0_ n1_ n2_ n3_; (try clear hb); (try clear hb2); (try clear hk); (try clear hi); (try clear ho0); (try clear ho1); (try clear ho2); obtain ⟨Ao11, co11, eo11⟩ := Kd.R_slice HO218.out; subst eo11; obtain ⟨Ao12, co12, eo12⟩ := Kd.R_slice HO220.out; subst eo12) | (go_at_call 48; (with_reducible refine (impl_SolutionBasis.calls _ _ t214 _ _ t215 t223 t224 _ ?side1 ?side2 ?side3 ?side4 A5.out).mono ?_); (case side1 => repeat (first | exact (Kd.R_reads' HO218.out).2.2 | (with_reducible refine Kd.C_alloc ?_ _) | (with_reducible refine Kd.C_drewN ?_ _) | (with_reducible refine Kd.C_drew ?_))); (case side2 => exact (Kd.R_reads' HO218.out).2.1); (case side3 => repeat (first | exact (Kd.R_reads' HO220.out).2.2 | (with_reducible refine Kd.C_alloc ?_ _) | (with_reducible refine Kd.C_drewN ?_ _) | (with_reducible refine Kd.C_drew ?_))); (case side4 => exact (Kd.R_reads' HO220.out).2.1); rintro e w13 ⟨v225, rfl, ho0, hb⟩; have n0_ := Aside0.mk (Kd.R_below (by (with_reducible repeat (first | apply Kd.R_alloc | apply Kd.R_drewN | apply Kd.R_drew)); exact HO218.out) hb); have n1_ := Aside0.mk (Kd.R_below (by (with_reducible repeat (first | apply Kd.R_alloc | apply Kd.R_drewN | apply Kd.R_drew)); exact HO220.out) hb); have n2_ := Aside0.mk (Kd.R_below (by (with_reducible repeat (first | apply Kd.R_alloc | apply Kd.R_drewN | apply Kd.R_drew)); exact HO222.out) hb); have n3_ := Aside0.mk (Kd.S_lower (Kd.S_new' (Kd.S_new' (Kd.S_new' ho0 (Kd.R_lt (by (with_reducible repeat (first | apply Kd.R_alloc | apply Kd.R_drewN | apply Kd.R_drew)); exact HO218.out))) (Kd.R_lt (by (with_reducible repeat (first | apply Kd.R_alloc | apply Kd.R_drewN | apply Kd.R_drew)); exact HO220.out))) (Kd.R_lt (by (with_reducible repeat (first | apply Kd.R_alloc | apply Kd.R_drewN | apply Kd.R_drew)); exact HO222.out))) (below_size (by repeat (first | (with_reducible first | exact HB.out | apply below_alloc | apply pw_below_drewN | apply below_drew1) | exact HB.out)))); have n4_ := Aside0.mk (below_step (by repeat (first | (with_reducible first | exact HB.out | apply below_alloc | apply pw_below_drewN | apply below_drew1) | exact HB.out)) hb); clear HO218; clear HO220; clear HO222; clear HB; have HO218 := n0_; have HO220 := n1_; have HO222 := n2_; have HO226 := n3_; have HB := n4_; clear n0_ n1_ n2_ n3_ n4_; (try clear hb); (try clear hb2); (try clear hk); (try clear hi); (try clear ho0); obtain ⟨Ao14, co14, eo14⟩ := Kd.R_slice HO222.out; subst eo14) | (go_at_call 50; (with_reducible refine (impl_Decompose.calls _ _ t214 _ _ t215 _ _ t216 t227 t228 _ ?side1 ?side2 ?side3 ?side4 ?side5 ?side6 A6.out).mono ?_); (case side1 => repeat (first | exact (Kd.R_reads' HO218.out).2.2 | (with_reducible refine Kd.C_alloc ?_ _) | (with_reducible refine Kd.C_drewN ?_ _) | (with_reducible refine Kd.C_drew ?_))); (case side2 => exact (Kd.R_reads' HO218.out).2.1); (case side3 => repeat (first | exact (Kd.R_reads' HO220.out).2.2 | (with_reducible refine Kd.C_alloc ?_ _) | (with_reducible refine Kd.C_drewN ?_ _) | (with_reducible refine Kd.C_drew ?_))); (case side4 => exact (Kd.R_reads' HO220.out).2.1); (case side5 => repeat (first | exact (Kd.R_reads' HO222.out).2.2 | (with_reducible refine Kd.C_alloc ?_ _) | (with_reducible refine Kd.C_drewN ?_ _) | (with_reducible refine Kd.C_drew ?_))); (case side6 => exact (Kd.R_reads' HO222.out).2.1); rintro e w15 ⟨v229, rfl, ho0, hb⟩; have n0_ := Aside0.mk (Kd.R_elder' (by (with_reducible repeat (first | apply Kd.R_alloc | apply Kd.R_drewN | apply Kd.R_drew)); exact HO218.out) (Kd.R_base ho0) hb); have n1_ := Aside0.mk (Kd.R_elder' (by (with_reducible repeat (first | apply Kd.R_alloc | apply Kd.R_drewN | apply Kd.R_drew)); exact HO220.out) (Kd.R_base ho0) hb); have n2_ := Aside0.mk (Kd.R_elder' (by (with_reducible repeat (first | apply Kd.R_alloc | apply Kd.R_drewN | apply Kd.R_drew)); exact HO222.out) (Kd.R_base ho0) hb); have n3_ := Aside0.mk (Kd.S_elder' (by (with_reducible repeat (first | apply Kd.S_alloc | apply Kd.S_drewN | apply Kd.S_drew)); exact HO226.out) (Kd.R_base ho0) hb); have n4_ := Aside0.mk (Kd.R_lower (Kd.R_new' (Kd.R_new' (Kd.R_new' ho0 (Kd.R_lt (by (with_reducible repeat (first | apply Kd.R_alloc | apply Kd.R_drewN | apply Kd.R_drew)); exact HO218.out))) (Kd.R_lt (by (with_reducible repeat (first | apply Kd.R_alloc | apply Kd.R_drewN | apply Kd.R_drew)); exact HO220.out))) (Kd.R_lt (by (with_reducible repeat (first | apply Kd.R_alloc | apply Kd.R_drewN | apply Kd.R_drew)); exact HO222.out))) (below_size (by repeat (first | (with_reducible first | exact HB.out | apply below_alloc | apply pw_below_drewN | apply below_drew1) | exact HB.out)))); have n5_ := Aside0.mk (below_step (by repeat (first | (with_reducible first | exact HB.out | apply below_alloc | apply pw_below_drewN | apply below_drew1) | exact HB.out)) hb); clear HO218; clear HO220; clear HO222; clear HO226; clear HB; have HO218 := n0_; have HO220 := n1_; have HO222 := n2_; have HO226 := n3_; have HO230 := n4_; have HB := n5_; clear n0_ n1_ n2_ n3_ n4_ n5_; (try clear hb); (try clear hb2); (try clear hk); (try clear hi); (try clear ho0)) | (go_at_call 47; (with_reducible refine (spec_SolutionBasis.calls _ _ t214 _ _ t215 t231 t232 _ ?side1 ?side2 ?side3 ?side4 A7.out).mono ?_); (case side1 => repeat (first | exact (Kd.R_reads' HO218.out).2.2 | (with_reducible refine Kd.C_alloc ?_ _) | (with_reducible refine Kd.C_drewN ?_ _) | (with_reducible refine Kd.C_drew ?_))); (case side2 => exact (Kd.R_reads' HO218.out).2.1); (case side3 => repeat (first | exact (Kd.R_reads' HO220.out).2.2 | (with_reducible refine Kd.C_alloc ?_ _) | (with_reducible refine Kd.C_drewN ?_ _) | (with_reducible refine Kd.C_drew ?_))); (case side4 => exact (Kd.R_reads' HO220.out).2.1); rintro e w16 ⟨v233, rfl, ho0, hb⟩; have n0_ := Aside0.mk (Kd.R_below (by (with_reducible repeat (first | apply Kd.R_alloc | apply Kd.R_drewN | apply Kd.R_drew)); exact HO218.out) hb); have n1_ := Aside0.mk (Kd.R_below (by (with_reducible repeat (first | apply Kd.R_alloc | apply Kd.R_drewN | apply Kd.R_drew)); exact HO220.out) hb); have n2_ := Aside0.mk (Kd.R_below (by (with_reducible repeat (first | apply Kd.R_alloc | apply Kd.R_drewN | apply Kd.R_drew)); exact HO222.out) hb); have n3_ := Aside0.mk (Kd.S_elder' (by (with_reducible repeat (first | apply Kd.S_alloc | apply Kd.S_drewN | apply Kd.S_drew)); exact HO226.out) (Kd.S_base ho0) hb); have n4_ := Aside0.mk (Kd.R_below (by (with_reducible repeat (first | apply Kd.R_alloc | apply Kd.R_drewN | apply Kd.R_drew)); exact HO230.out) hb); have n5_ := Aside0.mk (Kd.S_lower (Kd.S_new' (Kd.S_new' (Kd.S_new' (Kd.S_new' (Kd.S_new' ho0 (Kd.R_lt (by (with_reducible repeat (first | apply Kd.R_alloc | apply Kd.R_drewN | apply Kd.R_drew)); exact HO218.out))) (Kd.R_lt (by (with_reducible repeat (first | apply Kd.R_alloc | apply Kd.R_drewN | apply Kd.R_drew)); exact HO220.out))) (Kd.R_lt (by (with_reducible repeat (first | apply Kd.R_alloc | apply Kd.R_drewN | apply Kd.R_drew)); exact HO222.out))) (Kd.S_lt (by (with_reducible repeat (first | apply Kd.S_alloc | apply Kd.S_drewN | apply Kd.S_drew)); exact HO226.out))) (Kd.R_lt (by (with_reducible repeat (first | apply Kd.R_alloc | apply Kd.R_drewN | apply Kd.R_drew)); exact HO230.out))) (below_size (by repeat (first | (with_reducible first | exact HB.out | apply below_alloc | apply pw_below_drewN | apply below_drew1) | exact HB.out)))); have n6_ := Aside0.mk (below_step (by repeat (first | (with_reducible first | exact HB.out | apply below_alloc | apply pw_below_drewN | apply below_drew1) | exact HB.out)) hb); clear HO218; clear HO220; clear HO222; clear HO226; clear HO230; clear HB; have HO218 := n0_; have HO220 := n1_; have HO222 := n2_; have HO226 := n3_; have HO230 := n4_; have HO234 := n5_; have HB := n6_; clear n0_ n1_ n2_ n3_ n4_ n5_ n6_; (try clear hb); (try clear hb2); (try clear hk); (try clear hi); (try clear ho0)) | (go_at_call 49; (with_reducible refine (spec_Decompose.calls k _ _ t214 _ _ t215 _ _ t216 t235 t236 _ ?side1 ?side2 ?side3 ?side4 ?side5 ?side6 A8.out).mono ?_); (case side1 => repeat (first | exact (Kd.R_reads' HO218.out).2.2 | (with_reducible refine Kd.C_alloc ?_ _) | (with_reducible refine Kd.C_drewN ?_ _) | (with_reducible refine Kd.C_drew ?_))); (case side2 => exact (Kd.R_reads' HO218.out).2.1); (case side3 => repeat (first | exact (Kd.R_reads' HO220.out).2.2 | (with_reducible refine Kd.C_alloc ?_ _) | (with_reducible refine Kd.C_drewN ?_ _) | (with_reducible refine Kd.C_drew ?_))); (case side4 => exact (Kd.R_reads' HO220.out).2.1); (case side5 => repeat (first | exact (Kd.R_reads' HO222.out).2.2 | (with_reducible refine Kd.C_alloc ?_ _) | (with_reducible refine Kd.C_drewN ?_ _) | (with_reducible refine Kd.C_drew ?_))); (case side6 => exact (Kd.R_reads' HO222.out).2.1); rintro e w17 ⟨v237, rfl, ho0, hb⟩; have n0_ := Aside0.mk (Kd.R_elder' (by (with_reducible repeat (first | apply Kd.R_alloc | apply Kd.R_drewN | apply Kd.R_drew)); exact HO218.out) (Kd.R_base ho0) hb); have n1_ := Aside0.mk (Kd.R_elder' (by (with_reducible repeat (first | apply Kd.R_alloc | apply Kd.R_drewN | apply Kd.R_drew)); exact HO220.out) (Kd.R_base ho0) hb); have n2_ := Aside0.mk (Kd.R_elder' (by (with_reducible repeat (first | apply Kd.R_alloc | apply Kd.R_drewN | apply Kd.R_drew)); exact HO222.out) (Kd.R_base ho0) hb); have n3_ := Aside0.mk (Kd.S_elder' (by (with_reducible repeat (first | apply Kd.S_alloc | apply Kd.S_drewN | apply Kd.S_drew)); exact HO226.out) (Kd.R_base ho0) hb); have n4_ := Aside0.mk (Kd.R_elder' (by (with_reducible repeat (first | apply Kd.R_alloc | apply Kd.R_drewN | apply Kd.R_drew)); exact HO230.out) (Kd.R_base ho0) hb); have n5_ := Aside0.mk (Kd.S_elder' (by (with_reducible repeat (first | apply Kd.S_alloc | apply Kd.S_drewN | apply Kd.S_drew)); exact HO234.out) (Kd.R_base ho0) hb); have n6_ := Aside0.mk (Kd.R_lower (Kd.R_new' (Kd.R_new' (Kd.R_new' (Kd.R_new' ho0 (Kd.R_lt (by (with_reducible repeat (first | apply Kd.R_alloc | apply Kd.R_drewN | apply Kd.R_drew)); exact HO218.out))) (Kd.R_lt (by (with_reducible repeat (first | apply Kd.R_alloc | apply Kd.R_drewN | apply Kd.R_drew)); exact HO220.out))) (Kd.R_lt (by (with_reducible repeat (first | apply Kd.R_alloc | apply Kd.R_drewN | apply Kd.R_drew)); exact HO222.out))) (Kd.R_lt (by (with_reducible repeat (first | apply Kd.R_alloc | apply Kd.R_drewN | apply Kd.R_drew)); exact HO230.out))) (below_size (by repeat (first | (with_reducible first | exact HB.out | apply below_alloc | apply pw_below_drewN | apply below_drew1) | exact HB.out)))); have n7_ := Aside0.mk (below_step (by repeat (first | (with_reducible first | exact HB.out | apply below_alloc | apply pw_below_drewN | apply below_drew1) | exact HB.out)) hb); clear HO218; clear HO220; clear HO222; clear HO226; clear HO230; clear HO234; clear HB; have HO218 := n0_; have HO220 := n1_; have HO222 := n2_; have HO226 := n3_; have HO230 := n4_; have HO234 := n5_; have HO238 := n6_; have HB := n7_; clear n0_ n1_ n2_ n3_ n4_ n5_ n6_ n7_; (try clear hb); (try clear hb2); (try clear hk); (try clear hi); (try clear ho0))))
  (try simp only [Act.put, List.setIfInBounds_toArray, List.set_cons_zero, List.set_cons_succ])
  go_cut [73] (fun v73 wc => ∃ (kq : Nat) (x73_8 : Bool), v73 = .bool x73_8 ∧ Aside0 (laws_FnBasis.j0 kq t214 t215 t216 t223 t227 t228 x73_8 = some r) ∧ Aside0 (kq ≤ k) ∧ Aside0 (Kd.R (Kd.int .i64) 3 wc w.heap.size (fun k_ => some k_ ≠ ((.slice Ao12 t215.length co12) : Value).ownBlock ∧ some k_ ≠ ((.slice Ao14 t216.length co14) : Value).ownBlock ∧ some k_ ≠ (v229 : Value).ownBlock) (.slice Ao11 t214.length co11) t214) ∧ Aside0 (Kd.R (Kd.int .i64) 3 wc w.heap.size (fun k_ => some k_ ≠ ((.slice Ao11 t214.length co11) : Value).ownBlock ∧ some k_ ≠ ((.slice Ao14 t216.length co14) : Value).ownBlock ∧ some k_ ≠ (v229 : Value).ownBlock) (.slice Ao12 t215.length co12) t215) ∧ Aside0 (Kd.R (Kd.int .i64) 3 wc w.heap.size (fun k_ => some k_ ≠ ((.slice Ao11 t214.length co11) : Value).ownBlock ∧ some k_ ≠ ((.slice Ao12 t215.length co12) : Value).ownBlock ∧ some k_ ≠ (v229 : Value).ownBlock) (.slice Ao14 t216.length co14) t216) ∧ Aside0 (Kd.S (Kd.slice 3 (Kd.int .i64)) 24 wc w.heap.size (fun k_ => some k_ ≠ ((.slice Ao11 t214.length co11) : Value).ownBlock ∧ some k_ ≠ ((.slice Ao12 t215.length co12) : Value).ownBlock ∧ some k_ ≠ ((.slice Ao14 t216.length co14) : Value).ownBlock ∧ some k_ ≠ (v229 : Value).ownBlock) v225 t223) ∧ Aside0 (Kd.R (Kd.int .i64) 3 wc w.heap.size (fun k_ => some k_ ≠ ((.slice Ao11 t214.length co11) : Value).ownBlock ∧ some k_ ≠ ((.slice Ao12 t215.length co12) : Value).ownBlock ∧ some k_ ≠ ((.slice Ao14 t216.length co14) : Value).ownBlock) v229 t227) ∧ Aside0 (Below w.heap.size w wc))
  case first =>
   have H := HC9.out
   clear HC9
   by_cases c18 : (t224 != t232) = true
   ·
    rw [if_pos c18] at H
    have c18b0 : (t224 != t232) = true := c18
    (try (have c18b1 : decide (t224 = t232) = false := by simpa using c18))
    (try (have c18b2 : (t224 == t232) = false := by simpa using c18))
    (try (have c18b3 : ¬ (t224 = t232) := by simpa using c18))
    clear c18
    (first | rw [c18b0] | (simp only [i64_w, i32_w]; rw [c18b0]) | skip)
    have H' := Aside0.mk H
    clear H
    go_wp2
    repeat (go_quiet (fail); try go_wp2)
    go_meet
    case rel => exact ⟨_, (true), (by first | rfl | (simp; done) | (simp [*]; done)), H', ⟨by first | omega | exact Nat.le_refl _⟩, ⟨by (with_reducible repeat (first | apply Kd.R_alloc | apply Kd.R_drewN | apply Kd.R_drew)); exact Kd.R_mono HO218.out (fun _ hk => ⟨hk.1.1.1, ⟨hk.1.1.2, hk.1.2⟩⟩)⟩, ⟨by (with_reducible repeat (first | apply Kd.R_alloc | apply Kd.R_drewN | apply Kd.R_drew)); exact Kd.R_mono HO220.out (fun _ hk => ⟨hk.1.1.1, ⟨hk.1.1.2, hk.1.2⟩⟩)⟩, ⟨by (with_reducible repeat (first | apply Kd.R_alloc | apply Kd.R_drewN | apply Kd.R_drew)); exact Kd.R_mono HO222.out (fun _ hk => ⟨hk.1.1.1, ⟨hk.1.1.2, hk.1.2⟩⟩)⟩, ⟨by (with_reducible repeat (first | apply Kd.S_alloc | apply Kd.S_drewN | apply Kd.S_drew)); exact Kd.S_mono HO226.out (fun _ hk => ⟨hk.1.1.1.1.1.2, ⟨hk.1.1.1.1.2, ⟨hk.1.1.1.2, hk.1.1.2⟩⟩⟩)⟩, ⟨by (with_reducible repeat (first | apply Kd.R_alloc | apply Kd.R_drewN | apply Kd.R_drew)); exact Kd.R_mono HO230.out (fun _ hk => ⟨hk.1.1.1.2, ⟨hk.1.1.2, hk.1.2⟩⟩)⟩, ⟨by repeat (first | (with_reducible first | exact HB.out | apply below_alloc | apply pw_below_drewN | apply below_drew1) | exact HB.out)⟩⟩
   ·
    rw [if_neg c18] at H
    have c18b0 : (t224 != t232) = false := by simpa using c18
    (try (have c18b1 : decide (t224 = t232) = true := by simpa using c18))
    (try (have c18b2 : (t224 == t232) = true := by simpa using c18))
    clear c18
    (first | rw [c18b0] | (simp only [i64_w, i32_w]; rw [c18b0]) | skip)
    by_cases c19 : (t228 != t236) = true
    ·
     rw [if_pos c19] at H
     have c19b0 : (t228 != t236) = true := c19
     (try (have c19b1 : decide (t228 = t236) = false := by simpa using c19))
     (try (have c19b2 : (t228 == t236) = false := by simpa using c19))
     (try (have c19b3 : ¬ (t228 = t236) := by simpa using c19))
     clear c19
     have H' := Aside0.mk H
     clear H
     go_wp2
     repeat (go_quiet (fail); try go_wp2)
     go_meet
     case rel => exact ⟨_, (true), (by first | rfl | (simp; done) | (simp [*]; done)), H', ⟨by first | omega | exact Nat.le_refl _⟩, ⟨by (with_reducible repeat (first | apply Kd.R_alloc | apply Kd.R_drewN | apply Kd.R_drew)); exact Kd.R_mono HO218.out (fun _ hk => ⟨hk.1.1.1, ⟨hk.1.1.2, hk.1.2⟩⟩)⟩, ⟨by (with_reducible repeat (first | apply Kd.R_alloc | apply Kd.R_drewN | apply Kd.R_drew)); exact Kd.R_mono HO220.out (fun _ hk => ⟨hk.1.1.1, ⟨hk.1.1.2, hk.1.2⟩⟩)⟩, ⟨by (with_reducible repeat (first | apply Kd.R_alloc | apply Kd.R_drewN | apply Kd.R_drew)); exact Kd.R_mono HO222.out (fun _ hk => ⟨hk.1.1.1, ⟨hk.1.1.2, hk.1.2⟩⟩)⟩, ⟨by (with_reducible repeat (first | apply Kd.S_alloc | apply Kd.S_drewN | apply Kd.S_drew)); exact Kd.S_mono HO226.out (fun _ hk => ⟨hk.1.1.1.1.1.2, ⟨hk.1.1.1.1.2, ⟨hk.1.1.1.2, hk.1.1.2⟩⟩⟩)⟩, ⟨by (with_reducible repeat (first | apply Kd.R_alloc | apply Kd.R_drewN | apply Kd.R_drew)); exact Kd.R_mono HO230.out (fun _ hk => ⟨hk.1.1.1.2, ⟨hk.1.1.2, hk.1.2⟩⟩)⟩, ⟨by repeat (first | (with_reducible first | exact HB.out | apply below_alloc | apply pw_below_drewN | apply below_drew1) | exact HB.out)⟩⟩
    ·
     rw [if_neg c19] at H
     have c19b0 : (t228 != t236) = false := by simpa using c19
     (try (have c19b1 : decide (t228 = t236) = true := by simpa using c19))
     (try (have c19b2 : (t228 == t236) = true := by simpa using c19))
     clear c19
     replace H := Option.bind_eq_some_iff.mp H
     obtain ⟨t239, A200, H⟩ := H
     replace H : ((spec_IsSolution.f t214 t215 t216).bind fun t240 => (laws_FnBasis.j0 k t214 t215 t216 t223 t227 t228 (t239 != t240))) = some r := H
     have A20 := Aside0.mk A200
     clear A200
     replace H := Option.bind_eq_some_iff.mp H
     obtain ⟨t240, A210, H⟩ := H
     replace H : (laws_FnBasis.j0 k t214 t215 t216 t223 t227 t228 (t239 != t240)) = some r := H
     have A21 := Aside0.mk A210
     clear A210
     have H' := Aside0.mk H
     clear H
     go_wp2_with (first | (go_at_call 33; (with_reducible refine (impl_IsSolution.calls k _ _ t214 _ _ t215 _ _ t216 t239 _ ?side1 ?side2 ?side3 ?side4 ?side5 ?side6 A20.out).mono ?_); (case side1 => repeat (first | exact (Kd.R_reads' HO218.out).2.2 | (with_reducible refine Kd.C_alloc ?_ _) | (with_reducible refine Kd.C_drewN ?_ _) | (with_reducible refine Kd.C_drew ?_))); (case side2 => exact (Kd.R_reads' HO218.out).2.1); (case side3 => repeat (first | exact (Kd.R_reads' HO220.out).2.2 | (with_reducible refine Kd.C_alloc ?_ _) | (with_reducible refine Kd.C_drewN ?_ _) | (with_reducible refine Kd.C_drew ?_))); (case side4 => exact (Kd.R_reads' HO220.out).2.1); (case side5 => repeat (first | exact (Kd.R_reads' HO222.out).2.2 | (with_reducible refine Kd.C_alloc ?_ _) | (with_reducible refine Kd.C_drewN ?_ _) | (with_reducible refine Kd.C_drew ?_))); (case side6 => exact (Kd.R_reads' HO222.out).2.1); rintro e w22 ⟨rfl, hb⟩; have n0_ := Aside0.mk (Kd.R_below (by (with_reducible repeat (first | apply Kd.R_alloc | apply Kd.R_drewN | apply Kd.R_drew)); exact HO218.out) hb); have n1_ := Aside0.mk (Kd.R_below (by (with_reducible repeat (first | apply Kd.R_alloc | apply Kd.R_drewN | apply Kd.R_drew)); exact HO220.out) hb); have n2_ := Aside0.mk (Kd.R_below (by (with_reducible repeat (first | apply Kd.R_alloc | apply Kd.R_drewN | apply Kd.R_drew)); exact HO222.out) hb); have n3_ := Aside0.mk (Kd.S_below (by (with_reducible repeat (first | apply Kd.S_alloc | apply Kd.S_drewN | apply Kd.S_drew)); exact HO226.out) hb); have n4_ := Aside0.mk (Kd.R_below (by (with_reducible repeat (first | apply Kd.R_alloc | apply Kd.R_drewN | apply Kd.R_drew)); exact HO230.out) hb); have n5_ := Aside0.mk (Kd.S_below (by (with_reducible repeat (first | apply Kd.S_alloc | apply Kd.S_drewN | apply Kd.S_drew)); exact HO234.out) hb); have n6_ := Aside0.mk (Kd.R_below (by (with_reducible repeat (first | apply Kd.R_alloc | apply Kd.R_drewN | apply Kd.R_drew)); exact HO238.out) hb); have n7_ := Aside0.mk (below_step (by repeat (first | (with_reducible first | exact HB.out | apply below_alloc | apply pw_below_drewN | apply below_drew1) | exact HB.out)) hb); clear HO218; clear HO220; clear HO222; clear HO226; clear HO230; clear HO234; clear HO238; clear HB; have HO218 := n0_; have HO220 := n1_; have HO222 := n2_; have HO226 := n3_; have HO230 := n4_; have HO234 := n5_; have HO238 := n6_; have HB := n7_; clear n0_ n1_ n2_ n3_ n4_ n5_ n6_ n7_; (try clear hb); (try clear hb2); (try clear hk); (try clear hi)) | (go_at_call 32; (with_reducible refine (spec_IsSolution.calls _ _ t214 _ _ t215 _ _ t216 t240 _ ?side1 ?side2 ?side3 ?side4 ?side5 ?side6 A21.out).mono ?_); (case side1 => repeat (first | exact (Kd.R_reads' HO218.out).2.2 | (with_reducible refine Kd.C_alloc ?_ _) | (with_reducible refine Kd.C_drewN ?_ _) | (with_reducible refine Kd.C_drew ?_))); (case side2 => exact (Kd.R_reads' HO218.out).2.1); (case side3 => repeat (first | exact (Kd.R_reads' HO220.out).2.2 | (with_reducible refine Kd.C_alloc ?_ _) | (with_reducible refine Kd.C_drewN ?_ _) | (with_reducible refine Kd.C_drew ?_))); (case side4 => exact (Kd.R_reads' HO220.out).2.1); (case side5 => repeat (first | exact (Kd.R_reads' HO222.out).2.2 | (with_reducible refine Kd.C_alloc ?_ _) | (with_reducible refine Kd.C_drewN ?_ _) | (with_reducible refine Kd.C_drew ?_))); (case side6 => exact (Kd.R_reads' HO222.out).2.1); rintro e w' ⟨rfl, ⟨nd, rfl⟩⟩; (try first | exact ⟨rfl, _, World.drewN_drewN _ _ _⟩ | exact ⟨rfl, _, Eq.trans (World.drewN_drewN _ _ _) (congrArg (World.drewN _) (Nat.add_assoc _ _ _))⟩)))
     repeat (go_quiet (first | (go_at_call 33; (with_reducible refine (impl_IsSolution.calls k _ _ t214 _ _ t215 _ _ t216 t239 _ ?side1 ?side2 ?side3 ?side4 ?side5 ?side6 A20.out).mono ?_); (case side1 => repeat (first | exact (Kd.R_reads' HO218.out).2.2 | (with_reducible refine Kd.C_alloc ?_ _) | (with_reducible refine Kd.C_drewN ?_ _) | (with_reducible refine Kd.C_drew ?_))); (case side2 => exact (Kd.R_reads' HO218.out).2.1); (case side3 => repeat (first | exact (Kd.R_reads' HO220.out).2.2 | (with_reducible refine Kd.C_alloc ?_ _) | (with_reducible refine Kd.C_drewN ?_ _) | (with_reducible refine Kd.C_drew ?_))); (case side4 => exact (Kd.R_reads' HO220.out).2.1); (case side5 => repeat (first | exact (Kd.R_reads' HO222.out).2.2 | (with_reducible refine Kd.C_alloc ?_ _) | (with_reducible refine Kd.C_drewN ?_ _) | (with_reducible refine Kd.C_drew ?_))); (case side6 => exact (Kd.R_reads' HO222.out).2.1); rintro e w22 ⟨rfl, hb⟩; have n0_ := Aside0.mk (Kd.R_below (by (with_reducible repeat (first | apply Kd.R_alloc | apply Kd.R_drewN | apply Kd.R_drew)); exact HO218.out) hb); have n1_ := Aside0.mk (Kd.R_below (by (with_reducible repeat (first | apply Kd.R_alloc | apply Kd.R_drewN | apply Kd.R_drew)); exact HO220.out) hb); have n2_ := Aside0.mk (Kd.R_below (by (with_reducible repeat (first | apply Kd.R_alloc | apply Kd.R_drewN | apply Kd.R_drew)); exact HO222.out) hb); have n3_ := Aside0.mk (Kd.S_below (by (with_reducible repeat (first | apply Kd.S_alloc | apply Kd.S_drewN | apply Kd.S_drew)); exact HO226.out) hb); have n4_ := Aside0.mk (Kd.R_below (by (with_reducible repeat (first | apply Kd.R_alloc | apply Kd.R_drewN | apply Kd.R_drew)); exact HO230.out) hb); have n5_ := Aside0.mk (Kd.S_below (by (with_reducible repeat (first | apply Kd.S_alloc | apply Kd.S_drewN | apply Kd.S_drew)); exact HO234.out) hb); have n6_ := Aside0.mk (Kd.R_below (by (with_reducible repeat (first | apply Kd.R_alloc | apply Kd.R_drewN | apply Kd.R_drew)); exact HO238.out) hb); have n7_ := Aside0.mk (below_step (by repeat (first | (with_reducible first | exact HB.out | apply below_alloc | apply pw_below_drewN | apply below_drew1) | exact HB.out)) hb); clear HO218; clear HO220; clear HO222; clear HO226; clear HO230; clear HO234; clear HO238; clear HB; have HO218 := n0_; have HO220 := n1_; have HO222 := n2_; have HO226 := n3_; have HO230 := n4_; have HO234 := n5_; have HO238 := n6_; have HB := n7_; clear n0_ n1_ n2_ n3_ n4_ n5_ n6_ n7_; (try clear hb); (try clear hb2); (try clear hk); (try clear hi)) | (go_at_call 32; (with_reducible refine (spec_IsSolution.calls _ _ t214 _ _ t215 _ _ t216 t240 _ ?side1 ?side2 ?side3 ?side4 ?side5 ?side6 A21.out).mono ?_); (case side1 => repeat (first | exact (Kd.R_reads' HO218.out).2.2 | (with_reducible refine Kd.C_alloc ?_ _) | (with_reducible refine Kd.C_drewN ?_ _) | (with_reducible refine Kd.C_drew ?_))); (case side2 => exact (Kd.R_reads' HO218.out).2.1); (case side3 => repeat (first | exact (Kd.R_reads' HO220.out).2.2 | (with_reducible refine Kd.C_alloc ?_ _) | (with_reducible refine Kd.C_drewN ?_ _) | (with_reducible refine Kd.C_drew ?_))); (case side4 => exact (Kd.R_reads' HO220.out).2.1); (case side5 => repeat (first | exact (Kd.R_reads' HO222.out).2.2 | (with_reducible refine Kd.C_alloc ?_ _) | (with_reducible refine Kd.C_drewN ?_ _) | (with_reducible refine Kd.C_drew ?_))); (case side6 => exact (Kd.R_reads' HO222.out).2.1); rintro e w' ⟨rfl, ⟨nd, rfl⟩⟩; (try first | exact ⟨rfl, _, World.drewN_drewN _ _ _⟩ | exact ⟨rfl, _, Eq.trans (World.drewN_drewN _ _ _) (congrArg (World.drewN _) (Nat.add_assoc _ _ _))⟩))); try go_wp2_with (first | (go_at_call 33; (with_reducible refine (impl_IsSolution.calls k _ _ t214 _ _ t215 _ _ t216 t239 _ ?side1 ?side2 ?side3 ?side4 ?side5 ?side6 A20.out).mono ?_); (case side1 => repeat (first | exact (Kd.R_reads' HO218.out).2.2 | (with_reducible refine Kd.C_alloc ?_ _) | (with_reducible refine Kd.C_drewN ?_ _) | (with_reducible refine Kd.C_drew ?_))); (case side2 => exact (Kd.R_reads' HO218.out).2.1); (case side3 => repeat (first | exact (Kd.R_reads' HO220.out).2.2 | (with_reducible refine Kd.C_alloc ?_ _) | (with_reducible refine Kd.C_drewN ?_ _) | (with_reducible refine Kd.C_drew ?_))); (case side4 => exact (Kd.R_reads' HO220.out).2.1); (case side5 => repeat (first | exact (Kd.R_reads' HO222.out).2.2 | (with_reducible refine Kd.C_alloc ?_ _) | (with_reducible refine Kd.C_drewN ?_ _) | (with_reducible refine Kd.C_drew ?_))); (case side6 => exact (Kd.R_reads' HO222.out).2.1); rintro e w22 ⟨rfl, hb⟩; have n0_ := Aside0.mk (Kd.R_below (by (with_reducible repeat (first | apply Kd.R_alloc | apply Kd.R_drewN | apply Kd.R_drew)); exact HO218.out) hb); have n1_ := Aside0.mk (Kd.R_below (by (with_reducible repeat (first | apply Kd.R_alloc | apply Kd.R_drewN | apply Kd.R_drew)); exact HO220.out) hb); have n2_ := Aside0.mk (Kd.R_below (by (with_reducible repeat (first | apply Kd.R_alloc | apply Kd.R_drewN | apply Kd.R_drew)); exact HO222.out) hb); have n3_ := Aside0.mk (Kd.S_below (by (with_reducible repeat (first | apply Kd.S_alloc | apply Kd.S_drewN | apply Kd.S_drew)); exact HO226.out) hb); have n4_ := Aside0.mk (Kd.R_below (by (with_reducible repeat (first | apply Kd.R_alloc | apply Kd.R_drewN | apply Kd.R_drew)); exact HO230.out) hb); have n5_ := Aside0.mk (Kd.S_below (by (with_reducible repeat (first | apply Kd.S_alloc | apply Kd.S_drewN | apply Kd.S_drew)); exact HO234.out) hb); have n6_ := Aside0.mk (Kd.R_below (by (with_reducible repeat (first | apply Kd.R_alloc | apply Kd.R_drewN | apply Kd.R_drew)); exact HO238.out) hb); have n7_ := Aside0.mk (below_step (by repeat (first | (with_reducible first | exact HB.out | apply below_alloc | apply pw_below_drewN | apply below_drew1) | exact HB.out)) hb); clear HO218; clear HO220; clear HO222; clear HO226; clear HO230; clear HO234; clear HO238; clear HB; have HO218 := n0_; have HO220 := n1_; have HO222 := n2_; have HO226 := n3_; have HO230 := n4_; have HO234 := n5_; have HO238 := n6_; have HB := n7_; clear n0_ n1_ n2_ n3_ n4_ n5_ n6_ n7_; (try clear hb); (try clear hb2); (try clear hk); (try clear hi)) | (go_at_call 32; (with_reducible refine (spec_IsSolution.calls _ _ t214 _ _ t215 _ _ t216 t240 _ ?side1 ?side2 ?side3 ?side4 ?side5 ?side6 A21.out).mono ?_); (case side1 => repeat (first | exact (Kd.R_reads' HO218.out).2.2 | (with_reducible refine Kd.C_alloc ?_ _) | (with_reducible refine Kd.C_drewN ?_ _) | (with_reducible refine Kd.C_drew ?_))); (case side2 => exact (Kd.R_reads' HO218.out).2.1); (case side3 => repeat (first | exact (Kd.R_reads' HO220.out).2.2 | (with_reducible refine Kd.C_alloc ?_ _) | (with_reducible refine Kd.C_drewN ?_ _) | (with_reducible refine Kd.C_drew ?_))); (case side4 => exact (Kd.R_reads' HO220.out).2.1); (case side5 => repeat (first | exact (Kd.R_reads' HO222.out).2.2 | (with_reducible refine Kd.C_alloc ?_ _) | (with_reducible refine Kd.C_drewN ?_ _) | (with_reducible refine Kd.C_drew ?_))); (case side6 => exact (Kd.R_reads' HO222.out).2.1); rintro e w' ⟨rfl, ⟨nd, rfl⟩⟩; (try first | exact ⟨rfl, _, World.drewN_drewN _ _ _⟩ | exact ⟨rfl, _, Eq.trans (World.drewN_drewN _ _ _) (congrArg (World.drewN _) (Nat.add_assoc _ _ _))⟩))))
     go_meet
     case rel => exact ⟨_, ((t239 != t240)), (by first | rfl | (simp; done) | (simp [*]; done)), H', ⟨by first | omega | exact Nat.le_refl _⟩, ⟨by (with_reducible repeat (first | apply Kd.R_alloc | apply Kd.R_drewN | apply Kd.R_drew)); exact Kd.R_mono HO218.out (fun _ hk => ⟨hk.1.1.1, ⟨hk.1.1.2, hk.1.2⟩⟩)⟩, ⟨by (with_reducible repeat (first | apply Kd.R_alloc | apply Kd.R_drewN | apply Kd.R_drew)); exact Kd.R_mono HO220.out (fun _ hk => ⟨hk.1.1.1, ⟨hk.1.1.2, hk.1.2⟩⟩)⟩, ⟨by (with_reducible repeat (first | apply Kd.R_alloc | apply Kd.R_drewN | apply Kd.R_drew)); exact Kd.R_mono HO222.out (fun _ hk => ⟨hk.1.1.1, ⟨hk.1.1.2, hk.1.2⟩⟩)⟩, ⟨by (with_reducible repeat (first | apply Kd.S_alloc | apply Kd.S_drewN | apply Kd.S_drew)); exact Kd.S_mono HO226.out (fun _ hk => ⟨hk.1.1.1.1.1.2, ⟨hk.1.1.1.1.2, ⟨hk.1.1.1.2, hk.1.1.2⟩⟩⟩)⟩, ⟨by (with_reducible repeat (first | apply Kd.R_alloc | apply Kd.R_drewN | apply Kd.R_drew)); exact Kd.R_mono HO230.out (fun _ hk => ⟨hk.1.1.1.2, ⟨hk.1.1.2, hk.1.2⟩⟩)⟩, ⟨by repeat (first | (with_reducible first | exact HB.out | apply below_alloc | apply pw_below_drewN | apply below_drew1) | exact HB.out)⟩⟩
  case rest =>
   clear HC9
   try clear c1
   try clear p2
   try clear c3
   try clear c13
   try clear c18
   try clear c18b0
   try clear c18b1
   try clear c18b2
   try clear c19
   try clear c19b0
   try clear c19b1
   try clear c19b2
   obtain ⟨kq, x73_8, rfl, HA, HJ8, HO_3, HO_4, HO_5, HO_6, HO_8, HB⟩ := hcut
   cases kq with
   | zero => exact absurd HA.out (by simp [laws_FnBasis.j0])
   | succ kj8 =>
    have H := HA.out
    clear HA
    simp only [laws_FnBasis.j0] at H
    by_cases c23 : x73_8 = true
    ·
     subst c23
     have H1 : (some false) = some r := by rw [if_pos rfl] at H; exact H
     clear H
     have H := H1
     clear H1
     obtain rfl := Option.some.inj H
     go_wp2
     repeat (go_quiet (fail); try go_wp2)
     go_ret
     exact ⟨by first | rfl | (simp [errW_none, errW_some] <;> rfl) | (simp [*, errW_none, errW_some] <;> rfl), by repeat (first | (with_reducible first | exact HB.out | apply below_alloc | apply pw_below_drewN | apply below_drew1) | exact HB.out)⟩
    ·
     replace c23 := Bool.eq_false_iff.mpr c23
     subst c23
     have H1 : (laws_FnBasis.l0 kj8 t214 t215 t216 t223 t227 t228 0) = some r := by rw [if_neg (show ¬ (false = true) by decide)] at H; exact H
     clear H
     have H := H1
     clear H1
     have H' := Aside0.mk H
     clear H
     go_wp2
     repeat (go_quiet (fail); try go_wp2)
     go_loopg [14] kj8 (fun kq v14 w' => ∃ (x14_2 : Int), v14 = .int .i64 x14_2 ∧ Aside0 (laws_FnBasis.l0 kq t214 t215 t216 t223 t227 t228 x14_2 = some r) ∧ Aside0 (kq ≤ kj8) ∧ Aside0 (Kd.R (Kd.int .i64) 3 w' w.heap.size (fun k_ => some k_ ≠ ((.slice Ao12 t215.length co12) : Value).ownBlock ∧ some k_ ≠ ((.slice Ao14 t216.length co14) : Value).ownBlock ∧ some k_ ≠ (v229 : Value).ownBlock) (.slice Ao11 t214.length co11) t214) ∧ Aside0 (Kd.R (Kd.int .i64) 3 w' w.heap.size (fun k_ => some k_ ≠ ((.slice Ao11 t214.length co11) : Value).ownBlock ∧ some k_ ≠ ((.slice Ao14 t216.length co14) : Value).ownBlock ∧ some k_ ≠ (v229 : Value).ownBlock) (.slice Ao12 t215.length co12) t215) ∧ Aside0 (Kd.R (Kd.int .i64) 3 w' w.heap.size (fun k_ => some k_ ≠ ((.slice Ao11 t214.length co11) : Value).ownBlock ∧ some k_ ≠ ((.slice Ao12 t215.length co12) : Value).ownBlock ∧ some k_ ≠ (v229 : Value).ownBlock) (.slice Ao14 t216.length co14) t216) ∧ Aside0 (Kd.S (Kd.slice 3 (Kd.int .i64)) 24 w' w.heap.size (fun k_ => some k_ ≠ ((.slice Ao11 t214.length co11) : Value).ownBlock ∧ some k_ ≠ ((.slice Ao12 t215.length co12) : Value).ownBlock ∧ some k_ ≠ ((.slice Ao14 t216.length co14) : Value).ownBlock ∧ some k_ ≠ (v229 : Value).ownBlock) v225 t223) ∧ Aside0 (Kd.R (Kd.int .i64) 3 w' w.heap.size (fun k_ => some k_ ≠ ((.slice Ao11 t214.length co11) : Value).ownBlock ∧ some k_ ≠ ((.slice Ao12 t215.length co12) : Value).ownBlock ∧ some k_ ≠ ((.slice Ao14 t216.length co14) : Value).ownBlock) v229 t227) ∧ Aside0 (Below w.heap.size w w'))
     case atStart => exact ⟨(0), (by first | rfl | (simp; done) | (simp [*]; done)), H', ⟨Nat.le_refl _⟩, ⟨by (with_reducible repeat (first | apply Kd.R_alloc | apply Kd.R_drewN | apply Kd.R_drew)); exact HO_3.out⟩, ⟨by (with_reducible repeat (first | apply Kd.R_alloc | apply Kd.R_drewN | apply Kd.R_drew)); exact HO_4.out⟩, ⟨by (with_reducible repeat (first | apply Kd.R_alloc | apply Kd.R_drewN | apply Kd.R_drew)); exact HO_5.out⟩, ⟨by (with_reducible repeat (first | apply Kd.S_alloc | apply Kd.S_drewN | apply Kd.S_drew)); exact HO_6.out⟩, ⟨by (with_reducible repeat (first | apply Kd.R_alloc | apply Kd.R_drewN | apply Kd.R_drew)); exact HO_8.out⟩, ⟨by repeat (first | (with_reducible first | exact HB.out | apply below_alloc | apply pw_below_drewN | apply below_drew1) | exact HB.out)⟩⟩
     case round =>
      clear H'
      try clear c1
      try clear c2
      try clear p2
      try clear c3
      try clear c13
      try clear c18
      try clear c18b0
      try clear c18b1
      try clear c18b2
      try clear c19
      try clear c19b0
      try clear c19b1
      try clear c19b2
      try clear c23
      try clear p2
      obtain ⟨x14_2, rfl, HA, HK2, HO_3, HO_4, HO_5, HO_6, HO_8, HB⟩ := hrel
      cases gk with
      | zero => exact absurd HA.out (by simp [laws_FnBasis.l0])
      | succ k2 =>
       have H := HA.out
       clear HA
       simp only [laws_FnBasis.l0] at H
       by_cases c24 : x14_2 < (t223.length : Int)
       ·
        rw [if_pos c24] at H
        have c24b0 : decide (x14_2 < (t223.length : Int)) = true := decide_eq_true c24
        clear c24
        by_cases c25 : 0 ≤ x14_2
        ·
         rw [if_pos c25] at H
         have c25b0 : decide (0 ≤ x14_2) = true := decide_eq_true c25
         clear c25
         replace H := Option.bind_eq_some_iff.mp H
         obtain ⟨t242, A260, H⟩ := H
         replace H : (if t242 = true then (laws_FnBasis.l1 k2 t214 t215 t216 t223 t227 t228 x14_2 0) else (some false)) = some r := H
         have A26 := Aside0.mk A260
         clear A260
         by_cases c27 : t242 = true
         ·
          subst c27
          have H1 : (laws_FnBasis.l1 k2 t214 t215 t216 t223 t227 t228 x14_2 0) = some r := by rw [if_pos rfl] at H; exact H
          clear H
          have H := H1
          clear H1
          have H' := Aside0.mk H
          clear H
          obtain ⟨Ao28, co28, eo28⟩ := Kd.S_slice HO_6.out
          subst eo28
          have p241 : 0 ≤ (x14_2 : Int) := of_decide_eq_true (by first | (with_reducible assumption) | assumption)
          have q241 : x14_2 < (t223.length : Int) := of_decide_eq_true (by first | (with_reducible assumption) | assumption)
          obtain ⟨ad241, A241_0, c241_0, e241, hx241_0, hl241_0, hi241_0⟩ := at_L10 (Kd.S_reads' HO_6.out).2.2 x14_2 p241 q241
          cases e241
          obtain ⟨ce241, hce241, hMe241, hcc241⟩ := Kd.S_get HO_6.out [] x14_2 p241 (by first | exact q241 | exact of_decide_eq_true (by first | (with_reducible assumption) | assumption) | (have e_ := (Kd.S_reads' HO_6.out).1; omega))
          obtain ⟨ve241_0, rfl, ge241_0⟩ := hMe241
          have hv241_0 := hcc241 0 _ rfl
          rw [Nat.add_zero, show ((Kd.slice 3 (Kd.int .i64))).sz = 1 from rfl, Nat.mul_one] at hv241_0
          replace hv241_0 := Option.some.inj (hv241_0.symm.trans hx241_0)
          rw [hv241_0] at ge241_0
          have HL241_0 := Aside0.mk (show Kd.R (Kd.int .i64) 3 _ _ _ _ (rd_L10 t223 x14_2) from ge241_0)
          clear hv241_0 ge241_0
          clear hcc241 hce241
          have HR241_0 := Aside0.mk hi241_0
          have HC241_0 := Aside0.mk hl241_0
          clear hi241_0 hl241_0
          replace p241 := eq_true p241
          replace q241 := eq_true q241
          go_wp2_with (first | (go_at_call 33; (with_reducible refine (impl_IsSolution.calls k2 _ _ t214 _ _ t215 _ _ (rd_L10 t223 x14_2) true _ ?side1 ?side2 ?side3 ?side4 ?side5 ?side6 A26.out).mono ?_); (case side1 => repeat (first | exact (Kd.R_reads' HO_3.out).2.2 | (with_reducible refine Kd.C_alloc ?_ _) | (with_reducible refine Kd.C_drewN ?_ _) | (with_reducible refine Kd.C_drew ?_))); (case side2 => exact (Kd.R_reads' HO_3.out).2.1); (case side3 => repeat (first | exact (Kd.R_reads' HO_4.out).2.2 | (with_reducible refine Kd.C_alloc ?_ _) | (with_reducible refine Kd.C_drewN ?_ _) | (with_reducible refine Kd.C_drew ?_))); (case side4 => exact (Kd.R_reads' HO_4.out).2.1); (case side5 => repeat (first | exact (by repeat (first | (with_reducible exact HR241_0.out) | (with_reducible refine Kd.C_alloc ?_ _) | (with_reducible refine Kd.C_drewN ?_ _) | (with_reducible refine Kd.C_drew ?_) | exact HR241_0.out)) | (with_reducible refine Kd.C_alloc ?_ _) | (with_reducible refine Kd.C_drewN ?_ _) | (with_reducible refine Kd.C_drew ?_))); (case side6 => exact HC241_0.out); rintro e w29 ⟨rfl, hb⟩; have n0_ := Aside0.mk (Kd.R_below (by (with_reducible repeat (first | apply Kd.R_alloc | apply Kd.R_drewN | apply Kd.R_drew)); exact HO_3.out) hb); have n1_ := Aside0.mk (Kd.R_below (by (with_reducible repeat (first | apply Kd.R_alloc | apply Kd.R_drewN | apply Kd.R_drew)); exact HO_4.out) hb); have n2_ := Aside0.mk (Kd.R_below (by (with_reducible repeat (first | apply Kd.R_alloc | apply Kd.R_drewN | apply Kd.R_drew)); exact HO_5.out) hb); have n3_ := Aside0.mk (Kd.S_below (by (with_reducible repeat (first | apply Kd.S_alloc | apply Kd.S_drewN | apply Kd.S_drew)); exact HO_6.out) hb); have n4_ := Aside0.mk (Kd.R_below (by (with_reducible repeat (first | apply Kd.R_alloc | apply Kd.R_drewN | apply Kd.R_drew)); exact HO_8.out) hb); have n5_ := Aside0.mk (Kd.R_below (by (with_reducible repeat (first | apply Kd.R_alloc | apply Kd.R_drewN | apply Kd.R_drew)); exact HL241_0.out) hb); have n6_ := Aside0.mk (Kd.C_below (by repeat (first | (with_reducible exact HR241_0.out) | (with_reducible refine Kd.C_alloc ?_ _) | (with_reducible refine Kd.C_drewN ?_ _) | (with_reducible refine Kd.C_drew ?_) | exact HR241_0.out)) hb); have n7_ := Aside0.mk (below_step (by repeat (first | (with_reducible first | exact HB.out | apply below_alloc | apply pw_below_drewN | apply below_drew1) | exact HB.out)) hb); clear HO_3; clear HO_4; clear HO_5; clear HO_6; clear HO_8; clear HL241_0; clear HR241_0; clear HB; have HO_3 := n0_; have HO_4 := n1_; have HO_5 := n2_; have HO_6 := n3_; have HO_8 := n4_; have HL241_0 := n5_; have HR241_0 := n6_; have HB := n7_; clear n0_ n1_ n2_ n3_ n4_ n5_ n6_ n7_; (try clear hb); (try clear hb2); (try clear hk); (try clear hi)))
          repeat (go_quiet (first | (go_at_call 33; (with_reducible refine (impl_IsSolution.calls k2 _ _ t214 _ _ t215 _ _ (rd_L10 t223 x14_2) true _ ?side1 ?side2 ?side3 ?side4 ?side5 ?side6 A26.out).mono ?_); (case side1 => repeat (first | exact (Kd.R_reads' HO_3.out).2.2 | (with_reducible refine Kd.C_alloc ?_ _) | (with_reducible refine Kd.C_drewN ?_ _) | (with_reducible refine Kd.C_drew ?_))); (case side2 => exact (Kd.R_reads' HO_3.out).2.1); (case side3 => repeat (first | exact (Kd.R_reads' HO_4.out).2.2 | (with_reducible refine Kd.C_alloc ?_ _) | (with_reducible refine Kd.C_drewN ?_ _) | (with_reducible refine Kd.C_drew ?_))); (case side4 => exact (Kd.R_reads' HO_4.out).2.1); (case side5 => repeat (first | exact (by repeat (first | (with_reducible exact HR241_0.out) | (with_reducible refine Kd.C_alloc ?_ _) | (with_reducible refine Kd.C_drewN ?_ _) | (with_reducible refine Kd.C_drew ?_) | exact HR241_0.out)) | (with_reducible refine Kd.C_alloc ?_ _) | (with_reducible refine Kd.C_drewN ?_ _) | (with_reducible refine Kd.C_drew ?_))); (case side6 => exact HC241_0.out); rintro e w29 ⟨rfl, hb⟩; have n0_ := Aside0.mk (Kd.R_below (by (with_reducible repeat (first | apply Kd.R_alloc | apply Kd.R_drewN | apply Kd.R_drew)); exact HO_3.out) hb); have n1_ := Aside0.mk (Kd.R_below (by (with_reducible repeat (first | apply Kd.R_alloc | apply Kd.R_drewN | apply Kd.R_drew)); exact HO_4.out) hb); have n2_ := Aside0.mk (Kd.R_below (by (with_reducible repeat (first | apply Kd.R_alloc | apply Kd.R_drewN | apply Kd.R_drew)); exact HO_5.out) hb); have n3_ := Aside0.mk (Kd.S_below (by (with_reducible repeat (first | apply Kd.S_alloc | apply Kd.S_drewN | apply Kd.S_drew)); exact HO_6.out) hb); have n4_ := Aside0.mk (Kd.R_below (by (with_reducible repeat (first | apply Kd.R_alloc | apply Kd.R_drewN | apply Kd.R_drew)); exact HO_8.out) hb); have n5_ := Aside0.mk (Kd.R_below (by (with_reducible repeat (first | apply Kd.R_alloc | apply Kd.R_drewN | apply Kd.R_drew)); exact HL241_0.out) hb); have n6_ := Aside0.mk (Kd.C_below (by repeat (first | (with_reducible exact HR241_0.out) | (with_reducible refine Kd.C_alloc ?_ _) | (with_reducible refine Kd.C_drewN ?_ _) | (with_reducible refine Kd.C_drew ?_) | exact HR241_0.out)) hb); have n7_ := Aside0.mk (below_step (by repeat (first | (with_reducible first | exact HB.out | apply below_alloc | apply pw_below_drewN | apply below_drew1) | exact HB.out)) hb); clear HO_3; clear HO_4; clear HO_5; clear HO_6; clear HO_8; clear HL241_0; clear HR241_0; clear HB; have HO_3 := n0_; have HO_4 := n1_; have HO_5 := n2_; have HO_6 := n3_; have HO_8 := n4_; have HL241_0 := n5_; have HR241_0 := n6_; have HB := n7_; clear n0_ n1_ n2_ n3_ n4_ n5_ n6_ n7_; (try clear hb); (try clear hb2); (try clear hk); (try clear hi))); try go_wp2_with (first | (go_at_call 33; (with_reducible refine (impl_IsSolution.calls k2 _ _ t214 _ _ t215 _ _ (rd_L10 t223 x14_2) true _ ?side1 ?side2 ?side3 ?side4 ?side5 ?side6 A26.out).mono ?_); (case side1 => repeat (first | exact (Kd.R_reads' HO_3.out).2.2 | (with_reducible refine Kd.C_alloc ?_ _) | (with_reducible refine Kd.C_drewN ?_ _) | (with_reducible refine Kd.C_drew ?_))); (case side2 => exact (Kd.R_reads' HO_3.out).2.1); (case side3 => repeat (first | exact (Kd.R_reads' HO_4.out).2.2 | (with_reducible refine Kd.C_alloc ?_ _) | (with_reducible refine Kd.C_drewN ?_ _) | (with_reducible refine Kd.C_drew ?_))); (case side4 => exact (Kd.R_reads' HO_4.out).2.1); (case side5 => repeat (first | exact (by repeat (first | (with_reducible exact HR241_0.out) | (with_reducible refine Kd.C_alloc ?_ _) | (with_reducible refine Kd.C_drewN ?_ _) | (with_reducible refine Kd.C_drew ?_) | exact HR241_0.out)) | (with_reducible refine Kd.C_alloc ?_ _) | (with_reducible refine Kd.C_drewN ?_ _) | (with_reducible refine Kd.C_drew ?_))); (case side6 => exact HC241_0.out); rintro e w29 ⟨rfl, hb⟩; have n0_ := Aside0.mk (Kd.R_below (by (with_reducible repeat (first | apply Kd.R_alloc | apply Kd.R_drewN | apply Kd.R_drew)); exact HO_3.out) hb); have n1_ := Aside0.mk (Kd.R_below (by (with_reducible repeat (first | apply Kd.R_alloc | apply Kd.R_drewN | apply Kd.R_drew)); exact HO_4.out) hb); have n2_ := Aside0.mk (Kd.R_below (by (with_reducible repeat (first | apply Kd.R_alloc | apply Kd.R_drewN | apply Kd.R_drew)); exact HO_5.out) hb); have n3_ := Aside0.mk (Kd.S_below (by (with_reducible repeat (first | apply Kd.S_alloc | apply Kd.S_drewN | apply Kd.S_drew)); exact HO_6.out) hb); have n4_ := Aside0.mk (Kd.R_below (by (with_reducible repeat (first | apply Kd.R_alloc | apply Kd.R_drewN | apply Kd.R_drew)); exact HO_8.out) hb); have n5_ := Aside0.mk (Kd.R_below (by (with_reducible repeat (first | apply Kd.R_alloc | apply Kd.R_drewN | apply Kd.R_drew)); exact HL241_0.out) hb); have n6_ := Aside0.mk (Kd.C_below (by repeat (first | (with_reducible exact HR241_0.out) | (with_reducible refine Kd.C_alloc ?_ _) | (with_reducible refine Kd.C_drewN ?_ _) | (with_reducible refine Kd.C_drew ?_) | exact HR241_0.out)) hb); have n7_ := Aside0.mk (below_step (by repeat (first | (with_reducible first | exact HB.out | apply below_alloc | apply pw_below_drewN | apply below_drew1) | exact HB.out)) hb); clear HO_3; clear HO_4; clear HO_5; clear HO_6; clear HO_8; clear HL241_0; clear HR241_0; clear HB; have HO_3 := n0_; have HO_4 := n1_; have HO_5 := n2_; have HO_6 := n3_; have HO_8 := n4_; have HL241_0 := n5_; have HR241_0 := n6_; have HB := n7_; clear n0_ n1_ n2_ n3_ n4_ n5_ n6_ n7_; (try clear hb); (try clear hb2); (try clear hk); (try clear hi))))
          go_loopg [15] k2 (fun kq v15 w' => ∃ (x15_3 : Int), v15 = .int .i64 x15_3 ∧ Aside0 (laws_FnBasis.l1 kq t214 t215 t216 t223 t227 t228 x14_2 x15_3 = some r) ∧ Aside0 (kq ≤ k2) ∧ Aside0 (Kd.R (Kd.int .i64) 3 w' w.heap.size (fun k_ => some k_ ≠ ((.slice Ao12 t215.length co12) : Value).ownBlock ∧ some k_ ≠ ((.slice Ao14 t216.length co14) : Value).ownBlock ∧ some k_ ≠ (v229 : Value).ownBlock) (.slice Ao11 t214.length co11) t214) ∧ Aside0 (Kd.R (Kd.int .i64) 3 w' w.heap.size (fun k_ => some k_ ≠ ((.slice Ao11 t214.length co11) : Value).ownBlock ∧ some k_ ≠ ((.slice Ao14 t216.length co14) : Value).ownBlock ∧ some k_ ≠ (v229 : Value).ownBlock) (.slice Ao12 t215.length co12) t215) ∧ Aside0 (Kd.R (Kd.int .i64) 3 w' w.heap.size (fun k_ => some k_ ≠ ((.slice Ao11 t214.length co11) : Value).ownBlock ∧ some k_ ≠ ((.slice Ao12 t215.length co12) : Value).ownBlock ∧ some k_ ≠ (v229 : Value).ownBlock) (.slice Ao14 t216.length co14) t216) ∧ Aside0 (Kd.S (Kd.slice 3 (Kd.int .i64)) 24 w' w.heap.size (fun k_ => some k_ ≠ ((.slice Ao11 t214.length co11) : Value).ownBlock ∧ some k_ ≠ ((.slice Ao12 t215.length co12) : Value).ownBlock ∧ some k_ ≠ ((.slice Ao14 t216.length co14) : Value).ownBlock ∧ some k_ ≠ (v229 : Value).ownBlock) (.slice (some ad241) t223.length co28) t223) ∧ Aside0 (Kd.R (Kd.int .i64) 3 w' w.heap.size (fun k_ => some k_ ≠ ((.slice Ao11 t214.length co11) : Value).ownBlock ∧ some k_ ≠ ((.slice Ao12 t215.length co12) : Value).ownBlock ∧ some k_ ≠ ((.slice Ao14 t216.length co14) : Value).ownBlock) v229 t227) ∧ Aside0 (Kd.C (Kd.int .i64) w' A241_0 (rd_L10 t223 x14_2).length (rd_L10 t223 x14_2)) ∧ Aside0 (Below w.heap.size w w'))
          case atStart => exact ⟨(0), (by first | rfl | (simp; done) | (simp [*]; done)), H', ⟨Nat.le_refl _⟩, ⟨by (with_reducible repeat (first | apply Kd.R_alloc | apply Kd.R_drewN | apply Kd.R_drew)); exact HO_3.out⟩, ⟨by (with_reducible repeat (first | apply Kd.R_alloc | apply Kd.R_drewN | apply Kd.R_drew)); exact HO_4.out⟩, ⟨by (with_reducible repeat (first | apply Kd.R_alloc | apply Kd.R_drewN | apply Kd.R_drew)); exact HO_5.out⟩, ⟨by (with_reducible repeat (first | apply Kd.S_alloc | apply Kd.S_drewN | apply Kd.S_drew)); exact HO_6.out⟩, ⟨by (with_reducible repeat (first | apply Kd.R_alloc | apply Kd.R_drewN | apply Kd.R_drew)); exact HO_8.out⟩, ⟨by repeat (first | (with_reducible exact HR241_0.out) | (with_reducible refine Kd.C_alloc ?_ _) | (with_reducible refine Kd.C_drewN ?_ _) | (with_reducible refine Kd.C_drew ?_) | exact HR241_0.out)⟩, ⟨by repeat (first | (with_reducible first | exact HB.out | apply below_alloc | apply pw_below_drewN | apply below_drew1) | exact HB.out)⟩⟩
          case round =>
           clear H'
           try clear c1
           try clear c2
           try clear p2
           try clear q2
           try clear hx2
           try clear c3
           try clear c13
           try clear c18
           try clear c18b0
           try clear c18b1
           try clear c18b2
           try clear c19
           try clear c19b0
           try clear c19b1
           try clear c19b2
           try clear c23
           try clear c24
           try clear c24b0
           try clear p24
           try clear q24
           try clear hx24
           try clear c25
           try clear c25b0
           try clear c27
           try clear hx241_0
           try clear p2
           try clear p241
           try clear q241
           obtain ⟨x15_3, rfl, HA, HK3, HO_3, HO_4, HO_5, HO_6, HO_8, HR241_0, HB⟩ := hrel
           cases gk with
           | zero => exact absurd HA.out (by simp [laws_FnBasis.l1])
           | succ k3 =>
            have H := HA.out
            clear HA
            simp only [laws_FnBasis.l1] at H
            by_cases c30 : x15_3 < (t223.length : Int)
            ·
             rw [if_pos c30] at H
             have c30b0 : decide (x15_3 < (t223.length : Int)) = true := decide_eq_true c30
             clear c30
             have H' := Aside0.mk H
             clear H
             go_wp2
             repeat (go_quiet (fail); try go_wp2)
             go_loopg [16, 17] k3 (fun kq v16 v17 w' => ∃ (x16_4 : Bool) (x17_4 : Int), v16 = .bool x16_4 ∧ v17 = .int .i64 x17_4 ∧ Aside0 (laws_FnBasis.l2 kq t214 t215 t216 t223 t227 t228 x14_2 x15_3 x16_4 x17_4 = some r) ∧ Aside0 (kq ≤ k3) ∧ Aside0 (Kd.R (Kd.int .i64) 3 w' w.heap.size (fun k_ => some k_ ≠ ((.slice Ao12 t215.length co12) : Value).ownBlock ∧ some k_ ≠ ((.slice Ao14 t216.length co14) : Value).ownBlock ∧ some k_ ≠ (v229 : Value).ownBlock) (.slice Ao11 t214.length co11) t214) ∧ Aside0 (Kd.R (Kd.int .i64) 3 w' w.heap.size (fun k_ => some k_ ≠ ((.slice Ao11 t214.length co11) : Value).ownBlock ∧ some k_ ≠ ((.slice Ao14 t216.length co14) : Value).ownBlock ∧ some k_ ≠ (v229 : Value).ownBlock) (.slice Ao12 t215.length co12) t215) ∧ Aside0 (Kd.R (Kd.int .i64) 3 w' w.heap.size (fun k_ => some k_ ≠ ((.slice Ao11 t214.length co11) : Value).ownBlock ∧ some k_ ≠ ((.slice Ao12 t215.length co12) : Value).ownBlock ∧ some k_ ≠ (v229 : Value).ownBlock) (.slice Ao14 t216.length co14) t216) ∧ Aside0 (Kd.S (Kd.slice 3 (Kd.int .i64)) 24 w' w.heap.size (fun k_ => some k_ ≠ ((.slice Ao11 t214.length co11) : Value).ownBlock ∧ some k_ ≠ ((.slice Ao12 t215.length co12) : Value).ownBlock ∧ some k_ ≠ ((.slice Ao14 t216.length co14) : Value).ownBlock ∧ some k_ ≠ (v229 : Value).ownBlock) (.slice (some ad241) t223.length co28) t223) ∧ Aside0 (Kd.R (Kd.int .i64) 3 w' w.heap.size (fun k_ => some k_ ≠ ((.slice Ao11 t214.length co11) : Value).ownBlock ∧ some k_ ≠ ((.slice Ao12 t215.length co12) : Value).ownBlock ∧ some k_ ≠ ((.slice Ao14 t216.length co14) : Value).ownBlock) v229 t227) ∧ Aside0 (Kd.C (Kd.int .i64) w' A241_0 (rd_L10 t223 x14_2).length (rd_L10 t223 x14_2)) ∧ Aside0 (Below w.heap.size w w'))
             case atStart => exact ⟨((x15_3 != x14_2)), (0), (by first | rfl | (simp; done) | (simp [*]; done)), (by first | rfl | (simp; done) | (simp [*]; done)), H', ⟨Nat.le_refl _⟩, ⟨by (with_reducible repeat (first | apply Kd.R_alloc | apply Kd.R_drewN | apply Kd.R_drew)); exact HO_3.out⟩, ⟨by (with_reducible repeat (first | apply Kd.R_alloc | apply Kd.R_drewN | apply Kd.R_drew)); exact HO_4.out⟩, ⟨by (with_reducible repeat (first | apply Kd.R_alloc | apply Kd.R_drewN | apply Kd.R_drew)); exact HO_5.out⟩, ⟨by (with_reducible repeat (first | apply Kd.S_alloc | apply Kd.S_drewN | apply Kd.S_drew)); exact HO_6.out⟩, ⟨by (with_reducible repeat (first | apply Kd.R_alloc | apply Kd.R_drewN | apply Kd.R_drew)); exact HO_8.out⟩, ⟨by repeat (first | (with_reducible exact HR241_0.out) | (with_reducible refine Kd.C_alloc ?_ _) | (with_reducible refine Kd.C_drewN ?_ _) | (with_reducible refine Kd.C_drew ?_) | exact HR241_0.out)⟩, ⟨by repeat (first | (with_reducible first | exact HB.out | apply below_alloc | apply pw_below_drewN | apply below_drew1) | exact HB.out)⟩⟩
             case round =>
              clear H'
              try clear c1
              try clear c2
              try clear p2
              try clear q2
              try clear hx2
              try clear c3
              try clear c13
              try clear c18
              try clear c18b0
              try clear c18b1
              try clear c18b2
              try clear c19
              try clear c19b0
              try clear c19b1
              try clear c19b2
              try clear c23
              try clear c24
              try clear c24b0
              try clear p24
              try clear q24
              try clear hx24
              try clear c25
              try clear c25b0
              try clear c27
              try clear c30
              try clear c30b0
              try clear hx241_0
              try clear p2
              try clear p24
              try clear p241
              try clear q2
              try clear q24
              try clear q241
              obtain ⟨x16_4, x17_4, rfl, rfl, HA, HK4, HO_3, HO_4, HO_5, HO_6, HO_8, HR241_0, HB⟩ := hrel
              cases gk with
              | zero => exact absurd HA.out (by simp [laws_FnBasis.l2])
              | succ k4 =>
               have H := HA.out
               clear HA
               simp only [laws_FnBasis.l2] at H
               by_cases c31 : 0 ≤ x14_2
               ·
                rw [if_pos c31] at H
                have c31b0 : decide (0 ≤ x14_2) = true := decide_eq_true c31
                clear c31
                by_cases c32 : x14_2 < (t223.length : Int)
                ·
                 rw [if_pos c32] at H
                 have c32b0 : decide (x14_2 < (t223.length : Int)) = true := decide_eq_true c32
                 clear c32
                 by_cases c33 : x17_4 < ((rd_L10 t223 x14_2).length : Int)
                 ·
                  rw [if_pos c33] at H
                  have c33b0 : decide (x17_4 < ((rd_L10 t223 x14_2).length : Int)) = true := decide_eq_true c33
                  clear c33
                  by_cases c34 : 0 ≤ x15_3
                  ·
                   rw [if_pos c34] at H
                   have c34b0 : decide (0 ≤ x15_3) = true := decide_eq_true c34
                   clear c34
                   by_cases c35 : x15_3 < (t223.length : Int)
                   ·
                    rw [if_pos c35] at H
                    have c35b0 : decide (x15_3 < (t223.length : Int)) = true := decide_eq_true c35
                    clear c35
                    by_cases c36 : x17_4 < ((rd_L10 t223 x15_3).length : Int)
                    ·
                     rw [if_pos c36] at H
                     have c36b0 : decide (x17_4 < ((rd_L10 t223 x15_3).length : Int)) = true := decide_eq_true c36
                     clear c36
                     by_cases c37 : x16_4 = true
                     ·
                      subst c37
                      have H1 : (if 0 ≤ x17_4 then (laws_FnBasis.l2 k4 t214 t215 t216 t223 t227 t228 x14_2 x15_3 (decide ((rd (rd_L10 t223 x15_3) x17_4) ≤ (rd (rd_L10 t223 x14_2) x17_4))) (wrap64 (x17_4 + 1))) else (none)) = some r := by rw [if_pos rfl] at H; exact H
                      clear H
                      have H := H1
                      clear H1
                      by_cases c38 : 0 ≤ x17_4
                      ·
                       rw [if_pos c38] at H
                       have c38b0 : decide (0 ≤ x17_4) = true := decide_eq_true c38
                       clear c38
                       have H' := Aside0.mk H
                       clear H
                       have p243 : 0 ≤ (x14_2 : Int) := of_decide_eq_true (by first | (with_reducible assumption) | assumption)
                       have q243 : x14_2 < (t223.length : Int) := of_decide_eq_true (by first | (with_reducible assumption) | assumption)
                       obtain ⟨ad243, A243_0, c243_0, e243, hx243_0, hl243_0, hi243_0⟩ := at_L10 (Kd.S_reads' HO_6.out).2.2 x14_2 p243 q243
                       obtain rfl : ad241 = ad243 := (by injection e243)
                       obtain ⟨ce243, hce243, hMe243, hcc243⟩ := Kd.S_get HO_6.out [] x14_2 p243 (by first | exact q243 | exact of_decide_eq_true (by first | (with_reducible assumption) | assumption) | (have e_ := (Kd.S_reads' HO_6.out).1; omega))
                       obtain ⟨ve243_0, rfl, ge243_0⟩ := hMe243
                       have hv243_0 := hcc243 0 _ rfl
                       rw [Nat.add_zero, show ((Kd.slice 3 (Kd.int .i64))).sz = 1 from rfl, Nat.mul_one] at hv243_0
                       replace hv243_0 := Option.some.inj (hv243_0.symm.trans hx243_0)
                       rw [hv243_0] at ge243_0
                       have HL243_0 := Aside0.mk (show Kd.R (Kd.int .i64) 3 _ _ _ _ (rd_L10 t223 x14_2) from ge243_0)
                       clear hv243_0 ge243_0
                       clear hcc243 hce243
                       have HR243_0 := Aside0.mk hi243_0
                       have HC243_0 := Aside0.mk hl243_0
                       clear hi243_0 hl243_0
                       replace p243 := eq_true p243
                       replace q243 := eq_true q243
                       have p244 : 0 ≤ (x15_3 : Int) := of_decide_eq_true (by first | (with_reducible assumption) | assumption)
                       have q244 : x15_3 < (t223.length : Int) := of_decide_eq_true (by first | (with_reducible assumption) | assumption)
                       obtain ⟨ad244, A244_0, c244_0, e244, hx244_0, hl244_0, hi244_0⟩ := at_L10 (Kd.S_reads' HO_6.out).2.2 x15_3 p244 q244
                       obtain rfl : ad241 = ad244 := (by injection e244)
                       obtain ⟨ce244, hce244, hMe244, hcc244⟩ := Kd.S_get HO_6.out [] x15_3 p244 (by first | exact q244 | exact of_decide_eq_true (by first | (with_reducible assumption) | assumption) | (have e_ := (Kd.S_reads' HO_6.out).1; omega))
                       obtain ⟨ve244_0, rfl, ge244_0⟩ := hMe244
                       have hv244_0 := hcc244 0 _ rfl
                       rw [Nat.add_zero, show ((Kd.slice 3 (Kd.int .i64))).sz = 1 from rfl, Nat.mul_one] at hv244_0
                       replace hv244_0 := Option.some.inj (hv244_0.symm.trans hx244_0)
                       rw [hv244_0] at ge244_0
                       have HL244_0 := Aside0.mk (show Kd.R (Kd.int .i64) 3 _ _ _ _ (rd_L10 t223 x15_3) from ge244_0)
                       clear hv244_0 ge244_0
                       clear hcc244 hce244
                       have HR244_0 := Aside0.mk hi244_0
                       have HC244_0 := Aside0.mk hl244_0
                       clear hi244_0 hl244_0
                       replace p244 := eq_true p244
                       replace q244 := eq_true q244
                       have p245 : 0 ≤ (x15_3 : Int) := of_decide_eq_true (by first | (with_reducible assumption) | assumption)
                       have q245 : x15_3 < (t223.length : Int) := of_decide_eq_true (by first | (with_reducible assumption) | assumption)
                       obtain ⟨ad245, A245_0, c245_0, e245, hx245_0, hl245_0, hi245_0⟩ := at_L10 (Kd.S_reads' HO_6.out).2.2 x15_3 p245 q245
                       obtain rfl : ad241 = ad245 := (by injection e245)
                       obtain ⟨ce245, hce245, hMe245, hcc245⟩ := Kd.S_get HO_6.out [] x15_3 p245 (by first | exact q245 | exact of_decide_eq_true (by first | (with_reducible assumption) | assumption) | (have e_ := (Kd.S_reads' HO_6.out).1; omega))
                       obtain ⟨ve245_0, rfl, ge245_0⟩ := hMe245
                       have hv245_0 := hcc245 0 _ rfl
                       rw [Nat.add_zero, show ((Kd.slice 3 (Kd.int .i64))).sz = 1 from rfl, Nat.mul_one] at hv245_0
                       replace hv245_0 := Option.some.inj (hv245_0.symm.trans hx245_0)
                       rw [hv245_0] at ge245_0
                       have HL245_0 := Aside0.mk (show Kd.R (Kd.int .i64) 3 _ _ _ _ (rd_L10 t223 x15_3) from ge245_0)
                       clear hv245_0 ge245_0
                       clear hcc245 hce245
                       have HR245_0 := Aside0.mk hi245_0
                       have HC245_0 := Aside0.mk hl245_0
                       clear hi245_0 hl245_0
                       replace p245 := eq_true p245
                       replace q245 := eq_true q245
                       have ea_ := Option.some.inj (hx244_0.symm.trans hx245_0)
                       injection ea_ with ea_ en_ ec_
                       subst ea_
                       subst ec_
                       clear en_
                       have p246 : 0 ≤ (x17_4 : Int) := of_decide_eq_true (by first | (with_reducible assumption) | assumption)
                       have q246 : x17_4 < ((rd_L10 t223 x15_3).length : Int) := of_decide_eq_true (by first | (with_reducible assumption) | assumption)
                       obtain ⟨ad246, e246, hx246_0⟩ := Kd.at_int (by repeat (first | (with_reducible exact HR245_0.out) | (with_reducible refine Kd.C_alloc ?_ _) | (with_reducible refine Kd.C_drewN ?_ _) | (with_reducible refine Kd.C_drew ?_) | exact HR245_0.out)) x17_4 p246 q246
                       cases e246
                       replace p246 := eq_true p246
                       replace q246 := eq_true q246
                       have p247 : 0 ≤ (x14_2 : Int) := of_decide_eq_true (by first | (with_reducible assumption) | assumption)
                       have q247 : x14_2 < (t223.length : Int) := of_decide_eq_true (by first | (with_reducible assumption) | assumption)
                       obtain ⟨ad247, A247_0, c247_0, e247, hx247_0, hl247_0, hi247_0⟩ := at_L10 (Kd.S_reads' HO_6.out).2.2 x14_2 p247 q247
                       obtain rfl : ad241 = ad247 := (by injection e247)
                       obtain ⟨ce247, hce247, hMe247, hcc247⟩ := Kd.S_get HO_6.out [] x14_2 p247 (by first | exact q247 | exact of_decide_eq_true (by first | (with_reducible assumption) | assumption) | (have e_ := (Kd.S_reads' HO_6.out).1; omega))
                       obtain ⟨ve247_0, rfl, ge247_0⟩ := hMe247
                       have hv247_0 := hcc247 0 _ rfl
                       rw [Nat.add_zero, show ((Kd.slice 3 (Kd.int .i64))).sz = 1 from rfl, Nat.mul_one] at hv247_0
                       replace hv247_0 := Option.some.inj (hv247_0.symm.trans hx247_0)
                       rw [hv247_0] at ge247_0
                       have HL247_0 := Aside0.mk (show Kd.R (Kd.int .i64) 3 _ _ _ _ (rd_L10 t223 x14_2) from ge247_0)
                       clear hv247_0 ge247_0
                       clear hcc247 hce247
                       have HR247_0 := Aside0.mk hi247_0
                       have HC247_0 := Aside0.mk hl247_0
                       clear hi247_0 hl247_0
                       replace p247 := eq_true p247
                       replace q247 := eq_true q247
                       have ea_ := Option.some.inj (hx243_0.symm.trans hx247_0)
                       injection ea_ with ea_ en_ ec_
                       subst ea_
                       subst ec_
                       clear en_
                       have p248 : 0 ≤ (x17_4 : Int) := of_decide_eq_true (by first | (with_reducible assumption) | assumption)
                       have q248 : x17_4 < ((rd_L10 t223 x14_2).length : Int) := of_decide_eq_true (by first | (with_reducible assumption) | assumption)
                       obtain ⟨ad248, e248, hx248_0⟩ := Kd.at_int (by repeat (first | (with_reducible exact HR247_0.out) | (with_reducible refine Kd.C_alloc ?_ _) | (with_reducible refine Kd.C_drewN ?_ _) | (with_reducible refine Kd.C_drew ?_) | exact HR247_0.out)) x17_4 p248 q248
                       cases e248
                       replace p248 := eq_true p248
                       replace q248 := eq_true q248
                       go_wp2
                       repeat (go_quiet (fail); try go_wp2)
                       go_roundg k4
                       case measure => have := HJ8.out; have := HK2.out; have := HK3.out; have := HK4.out; omega
                       case rel => exact ⟨(decide ((rd (rd_L10 t223 x15_3) x17_4) ≤ (rd (rd_L10 t223 x14_2) x17_4))), (wrap64 (x17_4 + 1)), (by first | rfl | (simp; done) | (simp [*]; done)), (by first | rfl | (simp; done) | (simp [*]; done)), H', ⟨by have := HJ8.out; have := HK2.out; have := HK3.out; have := HK4.out; omega⟩, ⟨by (with_reducible repeat (first | apply Kd.R_alloc | apply Kd.R_drewN | apply Kd.R_drew)); exact HO_3.out⟩, ⟨by (with_reducible repeat (first | apply Kd.R_alloc | apply Kd.R_drewN | apply Kd.R_drew)); exact HO_4.out⟩, ⟨by (with_reducible repeat (first | apply Kd.R_alloc | apply Kd.R_drewN | apply Kd.R_drew)); exact HO_5.out⟩, ⟨by (with_reducible repeat (first | apply Kd.S_alloc | apply Kd.S_drewN | apply Kd.S_drew)); exact HO_6.out⟩, ⟨by (with_reducible repeat (first | apply Kd.R_alloc | apply Kd.R_drewN | apply Kd.R_drew)); exact HO_8.out⟩, ⟨by repeat (first | (with_reducible exact HR241_0.out) | (with_reducible refine Kd.C_alloc ?_ _) | (with_reducible refine Kd.C_drewN ?_ _) | (with_reducible refine Kd.C_drew ?_) | exact HR241_0.out)⟩, ⟨by repeat (first | (with_reducible first | exact HB.out | apply below_alloc | apply pw_below_drewN | apply below_drew1) | exact HB.out)⟩⟩
                      ·
                       rw [if_neg c38] at H
                       exact absurd H (by simp)
                     ·
                      replace c37 := Bool.eq_false_iff.mpr c37
                      subst c37
                      have H1 : (laws_FnBasis.l2 k4 t214 t215 t216 t223 t227 t228 x14_2 x15_3 false (wrap64 (x17_4 + 1))) = some r := by rw [if_neg (show ¬ (false = true) by decide)] at H; exact H
                      clear H
                      have H := H1
                      clear H1
                      have H' := Aside0.mk H
                      clear H
                      have p243 : 0 ≤ (x14_2 : Int) := of_decide_eq_true (by first | (with_reducible assumption) | assumption)
                      have q243 : x14_2 < (t223.length : Int) := of_decide_eq_true (by first | (with_reducible assumption) | assumption)
                      obtain ⟨ad243, A243_0, c243_0, e243, hx243_0, hl243_0, hi243_0⟩ := at_L10 (Kd.S_reads' HO_6.out).2.2 x14_2 p243 q243
                      obtain rfl : ad241 = ad243 := (by injection e243)
                      obtain ⟨ce243, hce243, hMe243, hcc243⟩ := Kd.S_get HO_6.out [] x14_2 p243 (by first | exact q243 | exact of_decide_eq_true (by first | (with_reducible assumption) | assumption) | (have e_ := (Kd.S_reads' HO_6.out).1; omega))
                      obtain ⟨ve243_0, rfl, ge243_0⟩ := hMe243
                      have hv243_0 := hcc243 0 _ rfl
                      rw [Nat.add_zero, show ((Kd.slice 3 (Kd.int .i64))).sz = 1 from rfl, Nat.mul_one] at hv243_0
                      replace hv243_0 := Option.some.inj (hv243_0.symm.trans hx243_0)
                      rw [hv243_0] at ge243_0
                      have HL243_0 := Aside0.mk (show Kd.R (Kd.int .i64) 3 _ _ _ _ (rd_L10 t223 x14_2) from ge243_0)
                      clear hv243_0 ge243_0
                      clear hcc243 hce243
                      have HR243_0 := Aside0.mk hi243_0
                      have HC243_0 := Aside0.mk hl243_0
                      clear hi243_0 hl243_0
                      replace p243 := eq_true p243
                      replace q243 := eq_true q243
                      have p244 : 0 ≤ (x15_3 : Int) := of_decide_eq_true (by first | (with_reducible assumption) | assumption)
                      have q244 : x15_3 < (t223.length : Int) := of_decide_eq_true (by first | (with_reducible assumption) | assumption)
                      obtain ⟨ad244, A244_0, c244_0, e244, hx244_0, hl244_0, hi244_0⟩ := at_L10 (Kd.S_reads' HO_6.out).2.2 x15_3 p244 q244
                      obtain rfl : ad241 = ad244 := (by injection e244)
                      obtain ⟨ce244, hce244, hMe244, hcc244⟩ := Kd.S_get HO_6.out [] x15_3 p244 (by first | exact q244 | exact of_decide_eq_true (by first | (with_reducible assumption) | assumption) | (have e_ := (Kd.S_reads' HO_6.out).1; omega))
                      obtain ⟨ve244_0, rfl, ge244_0⟩ := hMe244
                      have hv244_0 := hcc244 0 _ rfl
                      rw [Nat.add_zero, show ((Kd.slice 3 (Kd.int .i64))).sz = 1 from rfl, Nat.mul_one] at hv244_0
                      replace hv244_0 := Option.some.inj (hv244_0.symm.trans hx244_0)
                      rw [hv244_0] at ge244_0
                      have HL244_0 := Aside0.mk (show Kd.R (Kd.int .i64) 3 _ _ _ _ (rd_L10 t223 x15_3) from ge244_0)
                      clear hv244_0 ge244_0
                      clear hcc244 hce244
                      have HR244_0 := Aside0.mk hi244_0
                      have HC244_0 := Aside0.mk hl244_0
                      clear hi244_0 hl244_0
                      replace p244 := eq_true p244
                      replace q244 := eq_true q244
                      go_wp2
                      repeat (go_quiet (fail); try go_wp2)
                      go_roundg k4
                      case measure => have := HJ8.out; have := HK2.out; have := HK3.out; have := HK4.out; omega
                      case rel => exact ⟨(false), (wrap64 (x17_4 + 1)), (by first | rfl | (simp; done) | (simp [*]; done)), (by first | rfl | (simp; done) | (simp [*]; done)), H', ⟨by have := HJ8.out; have := HK2.out; have := HK3.out; have := HK4.out; omega⟩, ⟨by (with_reducible repeat (first | apply Kd.R_alloc | apply Kd.R_drewN | apply Kd.R_drew)); exact HO_3.out⟩, ⟨by (with_reducible repeat (first | apply Kd.R_alloc | apply Kd.R_drewN | apply Kd.R_drew)); exact HO_4.out⟩, ⟨by (with_reducible repeat (first | apply Kd.R_alloc | apply Kd.R_drewN | apply Kd.R_drew)); exact HO_5.out⟩, ⟨by (with_reducible repeat (first | apply Kd.S_alloc | apply Kd.S_drewN | apply Kd.S_drew)); exact HO_6.out⟩, ⟨by (with_reducible repeat (first | apply Kd.R_alloc | apply Kd.R_drewN | apply Kd.R_drew)); exact HO_8.out⟩, ⟨by repeat (first | (with_reducible exact HR241_0.out) | (with_reducible refine Kd.C_alloc ?_ _) | (with_reducible refine Kd.C_drewN ?_ _) | (with_reducible refine Kd.C_drew ?_) | exact HR241_0.out)⟩, ⟨by repeat (first | (with_reducible first | exact HB.out | apply below_alloc | apply pw_below_drewN | apply below_drew1) | exact HB.out)⟩⟩
                    ·
                     rw [if_neg c36] at H
                     have c36b0 : decide (x17_4 < ((rd_L10 t223 x15_3).length : Int)) = false := decide_eq_false c36
                     clear c36
                     by_cases c39 : x16_4 = true
                     ·
                      subst c39
                      have H1 : (some false) = some r := by rw [if_pos rfl] at H; exact H
                      clear H
                      have H := H1
                      clear H1
                      obtain rfl := Option.some.inj H
                      have p243 : 0 ≤ (x14_2 : Int) := of_decide_eq_true (by first | (with_reducible assumption) | assumption)
                      have q243 : x14_2 < (t223.length : Int) := of_decide_eq_true (by first | (with_reducible assumption) | assumption)
                      obtain ⟨ad243, A243_0, c243_0, e243, hx243_0, hl243_0, hi243_0⟩ := at_L10 (Kd.S_reads' HO_6.out).2.2 x14_2 p243 q243
                      obtain rfl : ad241 = ad243 := (by injection e243)
                      obtain ⟨ce243, hce243, hMe243, hcc243⟩ := Kd.S_get HO_6.out [] x14_2 p243 (by first | exact q243 | exact of_decide_eq_true (by first | (with_reducible assumption) | assumption) | (have e_ := (Kd.S_reads' HO_6.out).1; omega))
                      obtain ⟨ve243_0, rfl, ge243_0⟩ := hMe243
                      have hv243_0 := hcc243 0 _ rfl
                      rw [Nat.add_zero, show ((Kd.slice 3 (Kd.int .i64))).sz = 1 from rfl, Nat.mul_one] at hv243_0
                      replace hv243_0 := Option.some.inj (hv243_0.symm.trans hx243_0)
                      rw [hv243_0] at ge243_0
                      have HL243_0 := Aside0.mk (show Kd.R (Kd.int .i64) 3 _ _ _ _ (rd_L10 t223 x14_2) from ge243_0)
                      clear hv243_0 ge243_0
                      clear hcc243 hce243
                      have HR243_0 := Aside0.mk hi243_0
                      have HC243_0 := Aside0.mk hl243_0
                      clear hi243_0 hl243_0
                      replace p243 := eq_true p243
                      replace q243 := eq_true q243
                      have p244 : 0 ≤ (x15_3 : Int) := of_decide_eq_true (by first | (with_reducible assumption) | assumption)
                      have q244 : x15_3 < (t223.length : Int) := of_decide_eq_true (by first | (with_reducible assumption) | assumption)
                      obtain ⟨ad244, A244_0, c244_0, e244, hx244_0, hl244_0, hi244_0⟩ := at_L10 (Kd.S_reads' HO_6.out).2.2 x15_3 p244 q244
                      obtain rfl : ad241 = ad244 := (by injection e244)
                      obtain ⟨ce244, hce244, hMe244, hcc244⟩ := Kd.S_get HO_6.out [] x15_3 p244 (by first | exact q244 | exact of_decide_eq_true (by first | (with_reducible assumption) | assumption) | (have e_ := (Kd.S_reads' HO_6.out).1; omega))
                      obtain ⟨ve244_0, rfl, ge244_0⟩ := hMe244
                      have hv244_0 := hcc244 0 _ rfl
                      rw [Nat.add_zero, show ((Kd.slice 3 (Kd.int .i64))).sz = 1 from rfl, Nat.mul_one] at hv244_0
                      replace hv244_0 := Option.some.inj (hv244_0.symm.trans hx244_0)
                      rw [hv244_0] at ge244_0
                      have HL244_0 := Aside0.mk (show Kd.R (Kd.int .i64) 3 _ _ _ _ (rd_L10 t223 x15_3) from ge244_0)
                      clear hv244_0 ge244_0
                      clear hcc244 hce244
                      have HR244_0 := Aside0.mk hi244_0
                      have HC244_0 := Aside0.mk hl244_0
                      clear hi244_0 hl244_0
                      replace p244 := eq_true p244
                      replace q244 := eq_true q244
                      go_wp2
                      repeat (go_quiet (fail); try go_wp2)
                      go_ret
                      exact ⟨by first | rfl | (simp [errW_none, errW_some] <;> rfl) | (simp [*, errW_none, errW_some] <;> rfl), by repeat (first | (with_reducible first | exact HB.out | apply below_alloc | apply pw_below_drewN | apply below_drew1) | exact HB.out)⟩
                     ·
                      replace c39 := Bool.eq_false_iff.mpr c39
                      subst c39
                      have H1 : (laws_FnBasis.l1 k4 t214 t215 t216 t223 t227 t228 x14_2 (wrap64 (x15_3 + 1))) = some r := by rw [if_neg (show ¬ (false = true) by decide)] at H; exact H
                      clear H
                      have H := H1
                      clear H1
                      have H' := Aside0.mk H
                      clear H
                      have p243 : 0 ≤ (x14_2 : Int) := of_decide_eq_true (by first | (with_reducible assumption) | assumption)
                      have q243 : x14_2 < (t223.length : Int) := of_decide_eq_true (by first | (with_reducible assumption) | assumption)
                      obtain ⟨ad243, A243_0, c243_0, e243, hx243_0, hl243_0, hi243_0⟩ := at_L10 (Kd.S_reads' HO_6.out).2.2 x14_2 p243 q243
                      obtain rfl : ad241 = ad243 := (by injection e243)
                      obtain ⟨ce243, hce243, hMe243, hcc243⟩ := Kd.S_get HO_6.out [] x14_2 p243 (by first | exact q243 | exact of_decide_eq_true (by first | (with_reducible assumption) | assumption) | (have e_ := (Kd.S_reads' HO_6.out).1; omega))
                      obtain ⟨ve243_0, rfl, ge243_0⟩ := hMe243
                      have hv243_0 := hcc243 0 _ rfl
                      rw [Nat.add_zero, show ((Kd.slice 3 (Kd.int .i64))).sz = 1 from rfl, Nat.mul_one] at hv243_0
                      replace hv243_0 := Option.some.inj (hv243_0.symm.trans hx243_0)
                      rw [hv243_0] at ge243_0
                      have HL243_0 := Aside0.mk (show Kd.R (Kd.int .i64) 3 _ _ _ _ (rd_L10 t223 x14_2) from ge243_0)
                      clear hv243_0 ge243_0
                      clear hcc243 hce243
                      have HR243_0 := Aside0.mk hi243_0
                      have HC243_0 := Aside0.mk hl243_0
                      clear hi243_0 hl243_0
                      replace p243 := eq_true p243
                      replace q243 := eq_true q243
                      have p244 : 0 ≤ (x15_3 : Int) := of_decide_eq_true (by first | (with_reducible assumption) | assumption)
                      have q244 : x15_3 < (t223.length : Int) := of_decide_eq_true (by first | (with_reducible assumption) | assumption)
                      obtain ⟨ad244, A244_0, c244_0, e244, hx244_0, hl244_0, hi244_0⟩ := at_L10 (Kd.S_reads' HO_6.out).2.2 x15_3 p244 q244
                      obtain rfl : ad241 = ad244 := (by injection e244)
                      obtain ⟨ce244, hce244, hMe244, hcc244⟩ := Kd.S_get HO_6.out [] x15_3 p244 (by first | exact q244 | exact of_decide_eq_true (by first | (with_reducible assumption) | assumption) | (have e_ := (Kd.S_reads' HO_6.out).1; omega))
                      obtain ⟨ve244_0, rfl, ge244_0⟩ := hMe244
                      have hv244_0 := hcc244 0 _ rfl
                      rw [Nat.add_zero, show ((Kd.slice 3 (Kd.int .i64))).sz = 1 from rfl, Nat.mul_one] at hv244_0
                      replace hv244_0 := Option.some.inj (hv244_0.symm.trans hx244_0)
                      rw [hv244_0] at ge244_0
                      have HL244_0 := Aside0.mk (show Kd.R (Kd.int .i64) 3 _ _ _ _ (rd_L10 t223 x15_3) from ge244_0)
                      clear hv244_0 ge244_0
                      clear hcc244 hce244
                      have HR244_0 := Aside0.mk hi244_0
                      have HC244_0 := Aside0.mk hl244_0
                      clear hi244_0 hl244_0
                      replace p244 := eq_true p244
                      replace q244 := eq_true q244
                      go_wp2
                      repeat (go_quiet (fail); try go_wp2)
                      go_roundg k4
                      case measure => have := HJ8.out; have := HK2.out; have := HK3.out; have := HK4.out; omega
                      case rel => exact ⟨(wrap64 (x15_3 + 1)), (by first | rfl | (simp; done) | (simp [*]; done)), H', ⟨by have := HJ8.out; have := HK2.out; have := HK3.out; have := HK4.out; omega⟩, ⟨by (with_reducible repeat (first | apply Kd.R_alloc | apply Kd.R_drewN | apply Kd.R_drew)); exact HO_3.out⟩, ⟨by (with_reducible repeat (first | apply Kd.R_alloc | apply Kd.R_drewN | apply Kd.R_drew)); exact HO_4.out⟩, ⟨by (with_reducible repeat (first | apply Kd.R_alloc | apply Kd.R_drewN | apply Kd.R_drew)); exact HO_5.out⟩, ⟨by (with_reducible repeat (first | apply Kd.S_alloc | apply Kd.S_drewN | apply Kd.S_drew)); exact HO_6.out⟩, ⟨by (with_reducible repeat (first | apply Kd.R_alloc | apply Kd.R_drewN | apply Kd.R_drew)); exact HO_8.out⟩, ⟨by repeat (first | (with_reducible exact HR241_0.out) | (with_reducible refine Kd.C_alloc ?_ _) | (with_reducible refine Kd.C_drewN ?_ _) | (with_reducible refine Kd.C_drew ?_) | exact HR241_0.out)⟩, ⟨by repeat (first | (with_reducible first | exact HB.out | apply below_alloc | apply pw_below_drewN | apply below_drew1) | exact HB.out)⟩⟩
                   ·
                    rw [if_neg c35] at H
                    exact absurd H (by simp)
                  ·
                   rw [if_neg c34] at H
                   exact absurd H (by simp)
                 ·
                  rw [if_neg c33] at H
                  have c33b0 : decide (x17_4 < ((rd_L10 t223 x14_2).length : Int)) = false := decide_eq_false c33
                  clear c33
                  by_cases c40 : x16_4 = true
                  ·
                   subst c40
                   have H1 : (some false) = some r := by rw [if_pos rfl] at H; exact H
                   clear H
                   have H := H1
                   clear H1
                   obtain rfl := Option.some.inj H
                   have p243 : 0 ≤ (x14_2 : Int) := of_decide_eq_true (by first | (with_reducible assumption) | assumption)
                   have q243 : x14_2 < (t223.length : Int) := of_decide_eq_true (by first | (with_reducible assumption) | assumption)
                   obtain ⟨ad243, A243_0, c243_0, e243, hx243_0, hl243_0, hi243_0⟩ := at_L10 (Kd.S_reads' HO_6.out).2.2 x14_2 p243 q243
                   obtain rfl : ad241 = ad243 := (by injection e243)
                   obtain ⟨ce243, hce243, hMe243, hcc243⟩ := Kd.S_get HO_6.out [] x14_2 p243 (by first | exact q243 | exact of_decide_eq_true (by first | (with_reducible assumption) | assumption) | (have e_ := (Kd.S_reads' HO_6.out).1; omega))
                   obtain ⟨ve243_0, rfl, ge243_0⟩ := hMe243
                   have hv243_0 := hcc243 0 _ rfl
                   rw [Nat.add_zero, show ((Kd.slice 3 (Kd.int .i64))).sz = 1 from rfl, Nat.mul_one] at hv243_0
                   replace hv243_0 := Option.some.inj (hv243_0.symm.trans hx243_0)
                   rw [hv243_0] at ge243_0
                   have HL243_0 := Aside0.mk (show Kd.R (Kd.int .i64) 3 _ _ _ _ (rd_L10 t223 x14_2) from ge243_0)
                   clear hv243_0 ge243_0
                   clear hcc243 hce243
                   have HR243_0 := Aside0.mk hi243_0
                   have HC243_0 := Aside0.mk hl243_0
                   clear hi243_0 hl243_0
                   replace p243 := eq_true p243
                   replace q243 := eq_true q243
                   go_wp2
                   repeat (go_quiet (fail); try go_wp2)
                   go_ret
                   exact ⟨by first | rfl | (simp [errW_none, errW_some] <;> rfl) | (simp [*, errW_none, errW_some] <;> rfl), by repeat (first | (with_reducible first | exact HB.out | apply below_alloc | apply pw_below_drewN | apply below_drew1) | exact HB.out)⟩
                  ·
                   replace c40 := Bool.eq_false_iff.mpr c40
                   subst c40
                   have H1 : (laws_FnBasis.l1 k4 t214 t215 t216 t223 t227 t228 x14_2 (wrap64 (x15_3 + 1))) = some r := by rw [if_neg (show ¬ (false = true) by decide)] at H; exact H
                   clear H
                   have H := H1
                   clear H1
                   have H' := Aside0.mk H
                   clear H
                   have p243 : 0 ≤ (x14_2 : Int) := of_decide_eq_true (by first | (with_reducible assumption) | assumption)
                   have q243 : x14_2 < (t223.length : Int) := of_decide_eq_true (by first | (with_reducible assumption) | assumption)
                   obtain ⟨ad243, A243_0, c243_0, e243, hx243_0, hl243_0, hi243_0⟩ := at_L10 (Kd.S_reads' HO_6.out).2.2 x14_2 p243 q243
                   obtain rfl : ad241 = ad243 := (by injection e243)
                   obtain ⟨ce243, hce243, hMe243, hcc243⟩ := Kd.S_get HO_6.out [] x14_2 p243 (by first | exact q243 | exact of_decide_eq_true (by first | (with_reducible assumption) | assumption) | (have e_ := (Kd.S_reads' HO_6.out).1; omega))
                   obtain ⟨ve243_0, rfl, ge243_0⟩ := hMe243
                   have hv243_0 := hcc243 0 _ rfl
                   rw [Nat.add_zero, show ((Kd.slice 3 (Kd.int .i64))).sz = 1 from rfl, Nat.mul_one] at hv243_0
                   replace hv243_0 := Option.some.inj (hv243_0.symm.trans hx243_0)
                   rw [hv243_0] at ge243_0
                   have HL243_0 := Aside0.mk (show Kd.R (Kd.int .i64) 3 _ _ _ _ (rd_L10 t223 x14_2) from ge243_0)
                   clear hv243_0 ge243_0
                   clear hcc243 hce243
                   have HR243_0 := Aside0.mk hi243_0
                   have HC243_0 := Aside0.mk hl243_0
                   clear hi243_0 hl243_0
                   replace p243 := eq_true p243
                   replace q243 := eq_true q243
                   go_wp2
                   repeat (go_quiet (fail); try go_wp2)
                   go_roundg k4
                   case measure => have := HJ8.out; have := HK2.out; have := HK3.out; have := HK4.out; omega
                   case rel => exact ⟨(wrap64 (x15_3 + 1)), (by first | rfl | (simp; done) | (simp [*]; done)), H', ⟨by have := HJ8.out; have := HK2.out; have := HK3.out; have := HK4.out; omega⟩, ⟨by (with_reducible repeat (first | apply Kd.R_alloc | apply Kd.R_drewN | apply Kd.R_drew)); exact HO_3.out⟩, ⟨by (with_reducible repeat (first | apply Kd.R_alloc | apply Kd.R_drewN | apply Kd.R_drew)); exact HO_4.out⟩, ⟨by (with_reducible repeat (first | apply Kd.R_alloc | apply Kd.R_drewN | apply Kd.R_drew)); exact HO_5.out⟩, ⟨by (with_reducible repeat (first | apply Kd.S_alloc | apply Kd.S_drewN | apply Kd.S_drew)); exact HO_6.out⟩, ⟨by (with_reducible repeat (first | apply Kd.R_alloc | apply Kd.R_drewN | apply Kd.R_drew)); exact HO_8.out⟩, ⟨by repeat (first | (with_reducible exact HR241_0.out) | (with_reducible refine Kd.C_alloc ?_ _) | (with_reducible refine Kd.C_drewN ?_ _) | (with_reducible refine Kd.C_drew ?_) | exact HR241_0.out)⟩, ⟨by repeat (first | (with_reducible first | exact HB.out | apply below_alloc | apply pw_below_drewN | apply below_drew1) | exact HB.out)⟩⟩
                ·
                 rw [if_neg c32] at H
                 exact absurd H (by simp)
               ·
                rw [if_neg c31] at H
                exact absurd H (by simp)
            ·
             rw [if_neg c30] at H
             have c30b0 : decide (x15_3 < (t223.length : Int)) = false := decide_eq_false c30
             clear c30
             have H' := Aside0.mk H
             clear H
             go_wp2
             repeat (go_quiet (fail); try go_wp2)
             go_roundg k3
             case measure => have := HJ8.out; have := HK2.out; have := HK3.out; omega
             case rel => exact ⟨(wrap64 (x14_2 + 1)), (by first | rfl | (simp; done) | (simp [*]; done)), H', ⟨by have := HJ8.out; have := HK2.out; have := HK3.out; omega⟩, ⟨by (with_reducible repeat (first | apply Kd.R_alloc | apply Kd.R_drewN | apply Kd.R_drew)); exact HO_3.out⟩, ⟨by (with_reducible repeat (first | apply Kd.R_alloc | apply Kd.R_drewN | apply Kd.R_drew)); exact HO_4.out⟩, ⟨by (with_reducible repeat (first | apply Kd.R_alloc | apply Kd.R_drewN | apply Kd.R_drew)); exact HO_5.out⟩, ⟨by (with_reducible repeat (first | apply Kd.S_alloc | apply Kd.S_drewN | apply Kd.S_drew)); exact HO_6.out⟩, ⟨by (with_reducible repeat (first | apply Kd.R_alloc | apply Kd.R_drewN | apply Kd.R_drew)); exact HO_8.out⟩, ⟨by repeat (first | (with_reducible first | exact HB.out | apply below_alloc | apply pw_below_drewN | apply below_drew1) | exact HB.out)⟩⟩
         ·
          replace c27 := Bool.eq_false_iff.mpr c27
          subst c27
          have H1 : (some false) = some r := by rw [if_neg (show ¬ (false = true) by decide)] at H; exact H
          clear H
          have H := H1
          clear H1
          obtain rfl := Option.some.inj H
          obtain ⟨Ao41, co41, eo41⟩ := Kd.S_slice HO_6.out
          subst eo41
          have p241 : 0 ≤ (x14_2 : Int) := of_decide_eq_true (by first | (with_reducible assumption) | assumption)
          have q241 : x14_2 < (t223.length : Int) := of_decide_eq_true (by first | (with_reducible assumption) | assumption)
          obtain ⟨ad241, A241_0, c241_0, e241, hx241_0, hl241_0, hi241_0⟩ := at_L10 (Kd.S_reads' HO_6.out).2.2 x14_2 p241 q241
          cases e241
          obtain ⟨ce241, hce241, hMe241, hcc241⟩ := Kd.S_get HO_6.out [] x14_2 p241 (by first | exact q241 | exact of_decide_eq_true (by first | (with_reducible assumption) | assumption) | (have e_ := (Kd.S_reads' HO_6.out).1; omega))
          obtain ⟨ve241_0, rfl, ge241_0⟩ := hMe241
          have hv241_0 := hcc241 0 _ rfl
          rw [Nat.add_zero, show ((Kd.slice 3 (Kd.int .i64))).sz = 1 from rfl, Nat.mul_one] at hv241_0
          replace hv241_0 := Option.some.inj (hv241_0.symm.trans hx241_0)
          rw [hv241_0] at ge241_0
          have HL241_0 := Aside0.mk (show Kd.R (Kd.int .i64) 3 _ _ _ _ (rd_L10 t223 x14_2) from ge241_0)
          clear hv241_0 ge241_0
          clear hcc241 hce241
          have HR241_0 := Aside0.mk hi241_0
          have HC241_0 := Aside0.mk hl241_0
          clear hi241_0 hl241_0
          replace p241 := eq_true p241
          replace q241 := eq_true q241
          go_wp2_with (first | (go_at_call 33; (with_reducible refine (impl_IsSolution.calls k2 _ _ t214 _ _ t215 _ _ (rd_L10 t223 x14_2) false _ ?side1 ?side2 ?side3 ?side4 ?side5 ?side6 A26.out).mono ?_); (case side1 => repeat (first | exact (Kd.R_reads' HO_3.out).2.2 | (with_reducible refine Kd.C_alloc ?_ _) | (with_reducible refine Kd.C_drewN ?_ _) | (with_reducible refine Kd.C_drew ?_))); (case side2 => exact (Kd.R_reads' HO_3.out).2.1); (case side3 => repeat (first | exact (Kd.R_reads' HO_4.out).2.2 | (with_reducible refine Kd.C_alloc ?_ _) | (with_reducible refine Kd.C_drewN ?_ _) | (with_reducible refine Kd.C_drew ?_))); (case side4 => exact (Kd.R_reads' HO_4.out).2.1); (case side5 => repeat (first | exact (by repeat (first | (with_reducible exact HR241_0.out) | (with_reducible refine Kd.C_alloc ?_ _) | (with_reducible refine Kd.C_drewN ?_ _) | (with_reducible refine Kd.C_drew ?_) | exact HR241_0.out)) | (with_reducible refine Kd.C_alloc ?_ _) | (with_reducible refine Kd.C_drewN ?_ _) | (with_reducible refine Kd.C_drew ?_))); (case side6 => exact HC241_0.out); rintro e w42 ⟨rfl, hb⟩; have n0_ := Aside0.mk (Kd.R_below (by (with_reducible repeat (first | apply Kd.R_alloc | apply Kd.R_drewN | apply Kd.R_drew)); exact HO_3.out) hb); have n1_ := Aside0.mk (Kd.R_below (by (with_reducible repeat (first | apply Kd.R_alloc | apply Kd.R_drewN | apply Kd.R_drew)); exact HO_4.out) hb); have n2_ := Aside0.mk (Kd.R_below (by (with_reducible repeat (first | apply Kd.R_alloc | apply Kd.R_drewN | apply Kd.R_drew)); exact HO_5.out) hb); have n3_ := Aside0.mk (Kd.S_below (by (with_reducible repeat (first | apply Kd.S_alloc | apply Kd.S_drewN | apply Kd.S_drew)); exact HO_6.out) hb); have n4_ := Aside0.mk (Kd.R_below (by (with_reducible repeat (first | apply Kd.R_alloc | apply Kd.R_drewN | apply Kd.R_drew)); exact HO_8.out) hb); have n5_ := Aside0.mk (Kd.R_below (by (with_reducible repeat (first | apply Kd.R_alloc | apply Kd.R_drewN | apply Kd.R_drew)); exact HL241_0.out) hb); have n6_ := Aside0.mk (Kd.C_below (by repeat (first | (with_reducible exact HR241_0.out) | (with_reducible refine Kd.C_alloc ?_ _) | (with_reducible refine Kd.C_drewN ?_ _) | (with_reducible refine Kd.C_drew ?_) | exact HR241_0.out)) hb); have n7_ := Aside0.mk (below_step (by repeat (first | (with_reducible first | exact HB.out | apply below_alloc | apply pw_below_drewN | apply below_drew1) | exact HB.out)) hb); clear HO_3; clear HO_4; clear HO_5; clear HO_6; clear HO_8; clear HL241_0; clear HR241_0; clear HB; have HO_3 := n0_; have HO_4 := n1_; have HO_5 := n2_; have HO_6 := n3_; have HO_8 := n4_; have HL241_0 := n5_; have HR241_0 := n6_; have HB := n7_; clear n0_ n1_ n2_ n3_ n4_ n5_ n6_ n7_; (try clear hb); (try clear hb2); (try clear hk); (try clear hi)))
          repeat (go_quiet (first | (go_at_call 33; (with_reducible refine (impl_IsSolution.calls k2 _ _ t214 _ _ t215 _ _ (rd_L10 t223 x14_2) false _ ?side1 ?side2 ?side3 ?side4 ?side5 ?side6 A26.out).mono ?_); (case side1 => repeat (first | exact (Kd.R_reads' HO_3.out).2.2 | (with_reducible refine Kd.C_alloc ?_ _) | (with_reducible refine Kd.C_drewN ?_ _) | (with_reducible refine Kd.C_drew ?_))); (case side2 => exact (Kd.R_reads' HO_3.out).2.1); (case side3 => repeat (first | exact (Kd.R_reads' HO_4.out).2.2 | (with_reducible refine Kd.C_alloc ?_ _) | (with_reducible refine Kd.C_drewN ?_ _) | (with_reducible refine Kd.C_drew ?_))); (case side4 => exact (Kd.R_reads' HO_4.out).2.1); (case side5 => repeat (first | exact (by repeat (first | (with_reducible exact HR241_0.out) | (with_reducible refine Kd.C_alloc ?_ _) | (with_reducible refine Kd.C_drewN ?_ _) | (with_reducible refine Kd.C_drew ?_) | exact HR241_0.out)) | (with_reducible refine Kd.C_alloc ?_ _) | (with_reducible refine Kd.C_drewN ?_ _) | (with_reducible refine Kd.C_drew ?_))); (case side6 => exact HC241_0.out); rintro e w42 ⟨rfl, hb⟩; have n0_ := Aside0.mk (Kd.R_below (by (with_reducible repeat (first | apply Kd.R_alloc | apply Kd.R_drewN | apply Kd.R_drew)); exact HO_3.out) hb); have n1_ := Aside0.mk (Kd.R_below (by (with_reducible repeat (first | apply Kd.R_alloc | apply Kd.R_drewN | apply Kd.R_drew)); exact HO_4.out) hb); have n2_ := Aside0.mk (Kd.R_below (by (with_reducible repeat (first | apply Kd.R_alloc | apply Kd.R_drewN | apply Kd.R_drew)); exact HO_5.out) hb); have n3_ := Aside0.mk (Kd.S_below (by (with_reducible repeat (first | apply Kd.S_alloc | apply Kd.S_drewN | apply Kd.S_drew)); exact HO_6.out) hb); have n4_ := Aside0.mk (Kd.R_below (by (with_reducible repeat (first | apply Kd.R_alloc | apply Kd.R_drewN | apply Kd.R_drew)); exact HO_8.out) hb); have n5_ := Aside0.mk (Kd.R_below (by (with_reducible repeat (first | apply Kd.R_alloc | apply Kd.R_drewN | apply Kd.R_drew)); exact HL241_0.out) hb); have n6_ := Aside0.mk (Kd.C_below (by repeat (first | (with_reducible exact HR241_0.out) | (with_reducible refine Kd.C_alloc ?_ _) | (with_reducible refine Kd.C_drewN ?_ _) | (with_reducible refine Kd.C_drew ?_) | exact HR241_0.out)) hb); have n7_ := Aside0.mk (below_step (by repeat (first | (with_reducible first | exact HB.out | apply below_alloc | apply pw_below_drewN | apply below_drew1) | exact HB.out)) hb); clear HO_3; clear HO_4; clear HO_5; clear HO_6; clear HO_8; clear HL241_0; clear HR241_0; clear HB; have HO_3 := n0_; have HO_4 := n1_; have HO_5 := n2_; have HO_6 := n3_; have HO_8 := n4_; have HL241_0 := n5_; have HR241_0 := n6_; have HB := n7_; clear n0_ n1_ n2_ n3_ n4_ n5_ n6_ n7_; (try clear hb); (try clear hb2); (try clear hk); (try clear hi))); try go_wp2_with (first | (go_at_call 33; (with_reducible refine (impl_IsSolution.calls k2 _ _ t214 _ _ t215 _ _ (rd_L10 t223 x14_2) false _ ?side1 ?side2 ?side3 ?side4 ?side5 ?side6 A26.out).mono ?_); (case side1 => repeat (first | exact (Kd.R_reads' HO_3.out).2.2 | (with_reducible refine Kd.C_alloc ?_ _) | (with_reducible refine Kd.C_drewN ?_ _) | (with_reducible refine Kd.C_drew ?_))); (case side2 => exact (Kd.R_reads' HO_3.out).2.1); (case side3 => repeat (first | exact (Kd.R_reads' HO_4.out).2.2 | (with_reducible refine Kd.C_alloc ?_ _) | (with_reducible refine Kd.C_drewN ?_ _) | (with_reducible refine Kd.C_drew ?_))); (case side4 => exact (Kd.R_reads' HO_4.out).2.1); (case side5 => repeat (first | exact (by repeat (first | (with_reducible exact HR241_0.out) | (with_reducible refine Kd.C_alloc ?_ _) | (with_reducible refine Kd.C_drewN ?_ _) | (with_reducible refine Kd.C_drew ?_) | exact HR241_0.out)) | (with_reducible refine Kd.C_alloc ?_ _) | (with_reducible refine Kd.C_drewN ?_ _) | (with_reducible refine Kd.C_drew ?_))); (case side6 => exact HC241_0.out); rintro e w42 ⟨rfl, hb⟩; have n0_ := Aside0.mk (Kd.R_below (by (with_reducible repeat (first | apply Kd.R_alloc | apply Kd.R_drewN | apply Kd.R_drew)); exact HO_3.out) hb); have n1_ := Aside0.mk (Kd.R_below (by (with_reducible repeat (first | apply Kd.R_alloc | apply Kd.R_drewN | apply Kd.R_drew)); exact HO_4.out) hb); have n2_ := Aside0.mk (Kd.R_below (by (with_reducible repeat (first | apply Kd.R_alloc | apply Kd.R_drewN | apply Kd.R_drew)); exact HO_5.out) hb); have n3_ := Aside0.mk (Kd.S_below (by (with_reducible repeat (first | apply Kd.S_alloc | apply Kd.S_drewN | apply Kd.S_drew)); exact HO_6.out) hb); have n4_ := Aside0.mk (Kd.R_below (by (with_reducible repeat (first | apply Kd.R_alloc | apply Kd.R_drewN | apply Kd.R_drew)); exact HO_8.out) hb); have n5_ := Aside0.mk (Kd.R_below (by (with_reducible repeat (first | apply Kd.R_alloc | apply Kd.R_drewN | apply Kd.R_drew)); exact HL241_0.out) hb); have n6_ := Aside0.mk (Kd.C_below (by repeat (first | (with_reducible exact HR241_0.out) | (with_reducible refine Kd.C_alloc ?_ _) | (with_reducible refine Kd.C_drewN ?_ _) | (with_reducible refine Kd.C_drew ?_) | exact HR241_0.out)) hb); have n7_ := Aside0.mk (below_step (by repeat (first | (with_reducible first | exact HB.out | apply below_alloc | apply pw_below_drewN | apply below_drew1) | exact HB.out)) hb); clear HO_3; clear HO_4; clear HO_5; clear HO_6; clear HO_8; clear HL241_0; clear HR241_0; clear HB; have HO_3 := n0_; have HO_4 := n1_; have HO_5 := n2_; have HO_6 := n3_; have HO_8 := n4_; have HL241_0 := n5_; have HR241_0 := n6_; have HB := n7_; clear n0_ n1_ n2_ n3_ n4_ n5_ n6_ n7_; (try clear hb); (try clear hb2); (try clear hk); (try clear hi))))
          go_ret
          exact ⟨by first | rfl | (simp [errW_none, errW_some] <;> rfl) | (simp [*, errW_none, errW_some] <;> rfl), by repeat (first | (with_reducible first | exact HB.out | apply below_alloc | apply pw_below_drewN | apply below_drew1) | exact HB.out)⟩
        ·
         rw [if_neg c25] at H
         exact absurd H (by simp)
       ·
        rw [if_neg c24] at H
        have c24b0 : decide (x14_2 < (t223.length : Int)) = false := decide_eq_false c24
        clear c24
        by_cases c43 : t228 = true
        ·
         subst c43
         have H1 : (laws_FnBasis.l3 k2 t216 t223 t227 0) = some r := by rw [if_pos rfl] at H; exact H
         clear H
         have H := H1
         clear H1
         have H' := Aside0.mk H
         clear H
         obtain ⟨Ao44, co44, eo44⟩ := Kd.S_slice HO_6.out
         subst eo44
         go_wp2
         repeat (go_quiet (fail); try go_wp2)
         go_loopg [18] k2 (fun kq v18 w' => ∃ (x18_3 : Int), v18 = .int .i64 x18_3 ∧ Aside0 (laws_FnBasis.l3 kq t216 t223 t227 x18_3 = some r) ∧ Aside0 (kq ≤ k2) ∧ Aside0 (Kd.R (Kd.int .i64) 3 w' w.heap.size (fun k_ => some k_ ≠ (v229 : Value).ownBlock) (.slice Ao14 t216.length co14) t216) ∧ Aside0 (Kd.S (Kd.slice 3 (Kd.int .i64)) 24 w' w.heap.size (fun k_ => some k_ ≠ ((.slice Ao14 t216.length co14) : Value).ownBlock ∧ some k_ ≠ (v229 : Value).ownBlock) (.slice Ao44 t223.length co44) t223) ∧ Aside0 (Kd.R (Kd.int .i64) 3 w' w.heap.size (fun k_ => some k_ ≠ ((.slice Ao14 t216.length co14) : Value).ownBlock) v229 t227) ∧ Aside0 (Below w.heap.size w w'))
         case atStart => exact ⟨(0), (by first | rfl | (simp; done) | (simp [*]; done)), H', ⟨Nat.le_refl _⟩, ⟨by (with_reducible repeat (first | apply Kd.R_alloc | apply Kd.R_drewN | apply Kd.R_drew)); exact Kd.R_mono HO_5.out (fun _ hk => hk.2.2)⟩, ⟨by (with_reducible repeat (first | apply Kd.S_alloc | apply Kd.S_drewN | apply Kd.S_drew)); exact Kd.S_mono HO_6.out (fun _ hk => ⟨hk.2.2.1, hk.2.2.2⟩)⟩, ⟨by (with_reducible repeat (first | apply Kd.R_alloc | apply Kd.R_drewN | apply Kd.R_drew)); exact Kd.R_mono HO_8.out (fun _ hk => hk.2.2)⟩, ⟨by repeat (first | (with_reducible first | exact HB.out | apply below_alloc | apply pw_below_drewN | apply below_drew1) | exact HB.out)⟩⟩
         case round =>
          clear H'
          try clear c1
          try clear c2
          try clear p2
          try clear q2
          try clear hx2
          try clear c3
          try clear c4
          try clear p6
          try clear c13
          try clear c18
          try clear c18b0
          try clear c18b1
          try clear c18b2
          try clear c19
          try clear c19b0
          try clear c19b1
          try clear c19b2
          try clear c23
          try clear c24
          try clear c24b0
          try clear p24
          try clear q24
          try clear hx24
          try clear c25
          try clear c25b0
          try clear c27
          try clear c30
          try clear c30b0
          try clear c31
          try clear c31b0
          try clear c32
          try clear c32b0
          try clear c33
          try clear c33b0
          try clear c34
          try clear c34b0
          try clear c35
          try clear c35b0
          try clear c36
          try clear c36b0
          try clear c37
          try clear c38
          try clear c38b0
          try clear c39
          try clear c40
          try clear c43
          try clear hx241_0
          try clear hx243_0
          try clear hx244_0
          try clear hx245_0
          try clear hx246_0
          try clear hx247_0
          try clear hx248_0
          try clear p2
          try clear p24
          try clear p241
          try clear p243
          try clear p244
          try clear p245
          try clear p246
          try clear p247
          try clear p248
          try clear q2
          try clear q24
          try clear q241
          try clear q243
          try clear q244
          try clear q245
          try clear q246
          try clear q247
          try clear q248
          obtain ⟨x18_3, rfl, HA, HK3, HO_5, HO_6, HO_8, HB⟩ := hrel
          cases gk with
          | zero => exact absurd HA.out (by simp [laws_FnBasis.l3])
          | succ k3 =>
           have H := HA.out
           clear HA
           simp only [laws_FnBasis.l3] at H
           by_cases c45 : x18_3 < (t216.length : Int)
           ·
            rw [if_pos c45] at H
            have c45b0 : decide (x18_3 < (t216.length : Int)) = true := decide_eq_true c45
            clear c45
            have H' := Aside0.mk H
            clear H
            go_wp2
            repeat (go_quiet (fail); try go_wp2)
            go_loopg [19, 20] k3 (fun kq v19 v20 w' => ∃ (x19_4 : Int) (x20_4 : Int), v19 = .int .i64 x19_4 ∧ v20 = .int .i64 x20_4 ∧ Aside0 (laws_FnBasis.l4 kq t216 t223 t227 x18_3 x19_4 x20_4 = some r) ∧ Aside0 (kq ≤ k3) ∧ Aside0 (Kd.R (Kd.int .i64) 3 w' w.heap.size (fun k_ => some k_ ≠ (v229 : Value).ownBlock) (.slice Ao14 t216.length co14) t216) ∧ Aside0 (Kd.S (Kd.slice 3 (Kd.int .i64)) 24 w' w.heap.size (fun k_ => some k_ ≠ ((.slice Ao14 t216.length co14) : Value).ownBlock ∧ some k_ ≠ (v229 : Value).ownBlock) (.slice Ao44 t223.length co44) t223) ∧ Aside0 (Kd.R (Kd.int .i64) 3 w' w.heap.size (fun k_ => some k_ ≠ ((.slice Ao14 t216.length co14) : Value).ownBlock) v229 t227) ∧ Aside0 (Below w.heap.size w w'))
            case atStart => exact ⟨(0), (0), (by first | rfl | (simp; done) | (simp [*]; done)), (by first | rfl | (simp; done) | (simp [*]; done)), H', ⟨Nat.le_refl _⟩, ⟨by (with_reducible repeat (first | apply Kd.R_alloc | apply Kd.R_drewN | apply Kd.R_drew)); exact HO_5.out⟩, ⟨by (with_reducible repeat (first | apply Kd.S_alloc | apply Kd.S_drewN | apply Kd.S_drew)); exact HO_6.out⟩, ⟨by (with_reducible repeat (first | apply Kd.R_alloc | apply Kd.R_drewN | apply Kd.R_drew)); exact HO_8.out⟩, ⟨by repeat (first | (with_reducible first | exact HB.out | apply below_alloc | apply pw_below_drewN | apply below_drew1) | exact HB.out)⟩⟩
            case round =>
             clear H'
             try clear c1
             try clear c2
             try clear p2
             try clear q2
             try clear hx2
             try clear c3
             try clear c4
             try clear p6
             try clear c13
             try clear c18
             try clear c18b0
             try clear c18b1
             try clear c18b2
             try clear c19
             try clear c19b0
             try clear c19b1
             try clear c19b2
             try clear c23
             try clear c24
             try clear c24b0
             try clear p24
             try clear q24
             try clear hx24
             try clear c25
             try clear c25b0
             try clear c27
             try clear c30
             try clear c30b0
             try clear c31
             try clear c31b0
             try clear c32
             try clear c32b0
             try clear c33
             try clear c33b0
             try clear c34
             try clear c34b0
             try clear c35
             try clear c35b0
             try clear c36
             try clear c36b0
             try clear c37
             try clear c38
             try clear c38b0
             try clear c39
             try clear c40
             try clear c43
             try clear c45
             try clear c45b0
             try clear hx241_0
             try clear hx243_0
             try clear hx244_0
             try clear hx245_0
             try clear hx246_0
             try clear hx247_0
             try clear hx248_0
             try clear p2
             try clear p24
             try clear p241
             try clear p243
             try clear p244
             try clear p245
             try clear p246
             try clear p247
             try clear p248
             try clear p6
             try clear q2
             try clear q24
             try clear q241
             try clear q243
             try clear q244
             try clear q245
             try clear q246
             try clear q247
             try clear q248
             obtain ⟨x19_4, x20_4, rfl, rfl, HA, HK4, HO_5, HO_6, HO_8, HB⟩ := hrel
             cases gk with
             | zero => exact absurd HA.out (by simp [laws_FnBasis.l4])
             | succ k4 =>
              have H := HA.out
              clear HA
              simp only [laws_FnBasis.l4] at H
              by_cases c46 : x20_4 < (t227.length : Int)
              ·
               rw [if_pos c46] at H
               have c46b0 : decide (x20_4 < (t227.length : Int)) = true := decide_eq_true c46
               clear c46
               by_cases c47 : x20_4 < (t223.length : Int)
               ·
                rw [if_pos c47] at H
                have c47b0 : decide (x20_4 < (t223.length : Int)) = true := decide_eq_true c47
                clear c47
                by_cases c48 : 0 ≤ x20_4
                ·
                 rw [if_pos c48] at H
                 have c48b0 : decide (0 ≤ x20_4) = true := decide_eq_true c48
                 clear c48
                 by_cases c49 : 0 ≤ x18_3
                 ·
                  rw [if_pos c49] at H
                  have c49b0 : decide (0 ≤ x18_3) = true := decide_eq_true c49
                  clear c49
                  by_cases c50 : x18_3 < ((rd_L10 t223 x20_4).length : Int)
                  ·
                   rw [if_pos c50] at H
                   have c50b0 : decide (x18_3 < ((rd_L10 t223 x20_4).length : Int)) = true := decide_eq_true c50
                   clear c50
                   have H' := Aside0.mk H
                   clear H
                   obtain ⟨Ao51, co51, eo51⟩ := Kd.R_slice HO_8.out
                   subst eo51
                   have p249 : 0 ≤ (x20_4 : Int) := of_decide_eq_true (by first | (with_reducible assumption) | assumption)
                   have q249 : x20_4 < (t227.length : Int) := of_decide_eq_true (by first | (with_reducible assumption) | assumption)
                   obtain ⟨ad249, e249, hx249_0⟩ := Kd.at_int (Kd.R_reads' HO_8.out).2.2 x20_4 p249 q249
                   cases e249
                   replace p249 := eq_true p249
                   replace q249 := eq_true q249
                   have p250 : 0 ≤ (x20_4 : Int) := of_decide_eq_true (by first | (with_reducible assumption) | assumption)
                   have q250 : x20_4 < (t223.length : Int) := of_decide_eq_true (by first | (with_reducible assumption) | assumption)
                   obtain ⟨ad250, A250_0, c250_0, e250, hx250_0, hl250_0, hi250_0⟩ := at_L10 (Kd.S_reads' HO_6.out).2.2 x20_4 p250 q250
                   cases e250
                   obtain ⟨ce250, hce250, hMe250, hcc250⟩ := Kd.S_get HO_6.out [] x20_4 p250 (by first | exact q250 | exact of_decide_eq_true (by first | (with_reducible assumption) | assumption) | (have e_ := (Kd.S_reads' HO_6.out).1; omega))
                   obtain ⟨ve250_0, rfl, ge250_0⟩ := hMe250
                   have hv250_0 := hcc250 0 _ rfl
                   rw [Nat.add_zero, show ((Kd.slice 3 (Kd.int .i64))).sz = 1 from rfl, Nat.mul_one] at hv250_0
                   replace hv250_0 := Option.some.inj (hv250_0.symm.trans hx250_0)
                   rw [hv250_0] at ge250_0
                   have HL250_0 := Aside0.mk (show Kd.R (Kd.int .i64) 3 _ _ _ _ (rd_L10 t223 x20_4) from ge250_0)
                   clear hv250_0 ge250_0
                   clear hcc250 hce250
                   have HR250_0 := Aside0.mk hi250_0
                   have HC250_0 := Aside0.mk hl250_0
                   clear hi250_0 hl250_0
                   replace p250 := eq_true p250
                   replace q250 := eq_true q250
                   have p251 : 0 ≤ (x18_3 : Int) := of_decide_eq_true (by first | (with_reducible assumption) | assumption)
                   have q251 : x18_3 < ((rd_L10 t223 x20_4).length : Int) := of_decide_eq_true (by first | (with_reducible assumption) | assumption)
                   obtain ⟨ad251, e251, hx251_0⟩ := Kd.at_int (by repeat (first | (with_reducible exact HR250_0.out) | (with_reducible refine Kd.C_alloc ?_ _) | (with_reducible refine Kd.C_drewN ?_ _) | (with_reducible refine Kd.C_drew ?_) | exact HR250_0.out)) x18_3 p251 q251
                   cases e251
                   replace p251 := eq_true p251
                   replace q251 := eq_true q251
                   go_wp2
                   repeat (go_quiet (fail); try go_wp2)
                   go_roundg k4
                   case measure => have := HJ8.out; have := HK2.out; have := HK3.out; have := HK4.out; omega
                   case rel => exact ⟨(wrap64 (x19_4 + (wrap64 ((rd t227 x20_4) * (rd (rd_L10 t223 x20_4) x18_3))))), (wrap64 (x20_4 + 1)), (by first | rfl | (simp; done) | (simp [*]; done)), (by first | rfl | (simp; done) | (simp [*]; done)), H', ⟨by have := HJ8.out; have := HK2.out; have := HK3.out; have := HK4.out; omega⟩, ⟨by (with_reducible repeat (first | apply Kd.R_alloc | apply Kd.R_drewN | apply Kd.R_drew)); exact HO_5.out⟩, ⟨by (with_reducible repeat (first | apply Kd.S_alloc | apply Kd.S_drewN | apply Kd.S_drew)); exact HO_6.out⟩, ⟨by (with_reducible repeat (first | apply Kd.R_alloc | apply Kd.R_drewN | apply Kd.R_drew)); exact HO_8.out⟩, ⟨by repeat (first | (with_reducible first | exact HB.out | apply below_alloc | apply pw_below_drewN | apply below_drew1) | exact HB.out)⟩⟩
                  ·
                   rw [if_neg c50] at H
                   exact absurd H (by simp)
                 ·
                  rw [if_neg c49] at H
                  exact absurd H (by simp)
                ·
                 rw [if_neg c48] at H
                 exact absurd H (by simp)
               ·
                rw [if_neg c47] at H
                have c47b0 : decide (x20_4 < (t223.length : Int)) = false := decide_eq_false c47
                clear c47
                by_cases c52 : 0 ≤ x18_3
                ·
                 rw [if_pos c52] at H
                 have c52b0 : decide (0 ≤ x18_3) = true := decide_eq_true c52
                 clear c52
                 by_cases c53 : x18_3 < (t216.length : Int)
                 ·
                  rw [if_pos c53] at H
                  have c53b0 : decide (x18_3 < (t216.length : Int)) = true := decide_eq_true c53
                  clear c53
                  by_cases c54 : x19_4 = (rd t216 x18_3)
                  ·
                   rw [if_pos c54] at H
                   have c54b0 : (x19_4 == (rd t216 x18_3)) = true := beq_iff_eq.mpr c54
                   have c54b1 : (x19_4 != (rd t216 x18_3)) = false := bne_eq_false_iff_eq.mpr c54
                   clear c54
                   have H' := Aside0.mk H
                   clear H
                   obtain ⟨Ao55, co55, eo55⟩ := Kd.R_slice HO_8.out
                   subst eo55
                   have p252 : 0 ≤ (x18_3 : Int) := of_decide_eq_true (by first | (with_reducible assumption) | assumption)
                   have q252 : x18_3 < (t216.length : Int) := of_decide_eq_true (by first | (with_reducible assumption) | assumption)
                   obtain ⟨ad252, e252, hx252_0⟩ := Kd.at_int (Kd.R_reads' HO_5.out).2.2 x18_3 p252 q252
                   cases e252
                   replace p252 := eq_true p252
                   replace q252 := eq_true q252
                   go_wp2
                   repeat (go_quiet (fail); try go_wp2)
                   go_roundg k4
                   case measure => have := HJ8.out; have := HK2.out; have := HK3.out; have := HK4.out; omega
                   case rel => exact ⟨(wrap64 (x18_3 + 1)), (by first | rfl | (simp; done) | (simp [*]; done)), H', ⟨by have := HJ8.out; have := HK2.out; have := HK3.out; have := HK4.out; omega⟩, ⟨by (with_reducible repeat (first | apply Kd.R_alloc | apply Kd.R_drewN | apply Kd.R_drew)); exact HO_5.out⟩, ⟨by (with_reducible repeat (first | apply Kd.S_alloc | apply Kd.S_drewN | apply Kd.S_drew)); exact HO_6.out⟩, ⟨by (with_reducible repeat (first | apply Kd.R_alloc | apply Kd.R_drewN | apply Kd.R_drew)); exact HO_8.out⟩, ⟨by repeat (first | (with_reducible first | exact HB.out | apply below_alloc | apply pw_below_drewN | apply below_drew1) | exact HB.out)⟩⟩
                  ·
                   rw [if_neg c54] at H
                   have c54b0 : (x19_4 == (rd t216 x18_3)) = false := beq_eq_false_iff_ne.mpr c54
                   have c54b1 : (x19_4 != (rd t216 x18_3)) = true := bne_iff_ne.mpr c54
                   obtain rfl := Option.some.inj H
                   obtain ⟨Ao56, co56, eo56⟩ := Kd.R_slice HO_8.out
                   subst eo56
                   have p252 : 0 ≤ (x18_3 : Int) := of_decide_eq_true (by first | (with_reducible assumption) | assumption)
                   have q252 : x18_3 < (t216.length : Int) := of_decide_eq_true (by first | (with_reducible assumption) | assumption)
                   obtain ⟨ad252, e252, hx252_0⟩ := Kd.at_int (Kd.R_reads' HO_5.out).2.2 x18_3 p252 q252
                   cases e252
                   replace p252 := eq_true p252
                   replace q252 := eq_true q252
                   go_wp2
                   repeat (go_quiet (fail); try go_wp2)
                   go_ret
                   exact ⟨by first | rfl | (simp [errW_none, errW_some] <;> rfl) | (simp [*, errW_none, errW_some] <;> rfl), by repeat (first | (with_reducible first | exact HB.out | apply below_alloc | apply pw_below_drewN | apply below_drew1) | exact HB.out)⟩
                 ·
                  rw [if_neg c53] at H
                  exact absurd H (by simp)
                ·
                 rw [if_neg c52] at H
                 exact absurd H (by simp)
              ·
               rw [if_neg c46] at H
               have c46b0 : decide (x20_4 < (t227.length : Int)) = false := decide_eq_false c46
               clear c46
               by_cases c57 : 0 ≤ x18_3
               ·
                rw [if_pos c57] at H
                have c57b0 : decide (0 ≤ x18_3) = true := decide_eq_true c57
                clear c57
                by_cases c58 : x18_3 < (t216.length : Int)
                ·
                 rw [if_pos c58] at H
                 have c58b0 : decide (x18_3 < (t216.length : Int)) = true := decide_eq_true c58
                 clear c58
                 by_cases c59 : x19_4 = (rd t216 x18_3)
                 ·
                  rw [if_pos c59] at H
                  have c59b0 : (x19_4 == (rd t216 x18_3)) = true := beq_iff_eq.mpr c59
                  have c59b1 : (x19_4 != (rd t216 x18_3)) = false := bne_eq_false_iff_eq.mpr c59
                  clear c59
                  have H' := Aside0.mk H
                  clear H
                  obtain ⟨Ao60, co60, eo60⟩ := Kd.R_slice HO_8.out
                  subst eo60
                  have p253 : 0 ≤ (x18_3 : Int) := of_decide_eq_true (by first | (with_reducible assumption) | assumption)
                  have q253 : x18_3 < (t216.length : Int) := of_decide_eq_true (by first | (with_reducible assumption) | assumption)
                  obtain ⟨ad253, e253, hx253_0⟩ := Kd.at_int (Kd.R_reads' HO_5.out).2.2 x18_3 p253 q253
                  cases e253
                  replace p253 := eq_true p253
                  replace q253 := eq_true q253
                  go_wp2
                  repeat (go_quiet (fail); try go_wp2)
                  go_roundg k4
                  case measure => have := HJ8.out; have := HK2.out; have := HK3.out; have := HK4.out; omega
                  case rel => exact ⟨(wrap64 (x18_3 + 1)), (by first | rfl | (simp; done) | (simp [*]; done)), H', ⟨by have := HJ8.out; have := HK2.out; have := HK3.out; have := HK4.out; omega⟩, ⟨by (with_reducible repeat (first | apply Kd.R_alloc | apply Kd.R_drewN | apply Kd.R_drew)); exact HO_5.out⟩, ⟨by (with_reducible repeat (first | apply Kd.S_alloc | apply Kd.S_drewN | apply Kd.S_drew)); exact HO_6.out⟩, ⟨by (with_reducible repeat (first | apply Kd.R_alloc | apply Kd.R_drewN | apply Kd.R_drew)); exact HO_8.out⟩, ⟨by repeat (first | (with_reducible first | exact HB.out | apply below_alloc | apply pw_below_drewN | apply below_drew1) | exact HB.out)⟩⟩
                 ·
                  rw [if_neg c59] at H
                  have c59b0 : (x19_4 == (rd t216 x18_3)) = false := beq_eq_false_iff_ne.mpr c59
                  have c59b1 : (x19_4 != (rd t216 x18_3)) = true := bne_iff_ne.mpr c59
                  obtain rfl := Option.some.inj H
                  obtain ⟨Ao61, co61, eo61⟩ := Kd.R_slice HO_8.out
                  subst eo61
                  have p253 : 0 ≤ (x18_3 : Int) := of_decide_eq_true (by first | (with_reducible assumption) | assumption)
                  have q253 : x18_3 < (t216.length : Int) := of_decide_eq_true (by first | (with_reducible assumption) | assumption)
                  obtain ⟨ad253, e253, hx253_0⟩ := Kd.at_int (Kd.R_reads' HO_5.out).2.2 x18_3 p253 q253
                  cases e253
                  replace p253 := eq_true p253
                  replace q253 := eq_true q253
                  go_wp2
                  repeat (go_quiet (fail); try go_wp2)
                  go_ret
                  exact ⟨by first | rfl | (simp [errW_none, errW_some] <;> rfl) | (simp [*, errW_none, errW_some] <;> rfl), by repeat (first | (with_reducible first | exact HB.out | apply below_alloc | apply pw_below_drewN | apply below_drew1) | exact HB.out)⟩
                ·
                 rw [if_neg c58] at H
                 exact absurd H (by simp)
               ·
                rw [if_neg c57] at H
                exact absurd H (by simp)
           ·
            rw [if_neg c45] at H
            have c45b0 : decide (x18_3 < (t216.length : Int)) = false := decide_eq_false c45
            clear c45
            obtain rfl := Option.some.inj H
            obtain ⟨Ao62, co62, eo62⟩ := Kd.R_slice HO_8.out
            subst eo62
            go_wp2
            repeat (go_quiet (fail); try go_wp2)
            go_ret
            exact ⟨by first | rfl | (simp [errW_none, errW_some] <;> rfl) | (simp [*, errW_none, errW_some] <;> rfl), by repeat (first | (with_reducible first | exact HB.out | apply below_alloc | apply pw_below_drewN | apply below_drew1) | exact HB.out)⟩
        ·
         replace c43 := Bool.eq_false_iff.mpr c43
         subst c43
         have H1 : (some true) = some r := by rw [if_neg (show ¬ (false = true) by decide)] at H; exact H
         clear H
         have H := H1
         clear H1
         obtain rfl := Option.some.inj H
         obtain ⟨Ao63, co63, eo63⟩ := Kd.S_slice HO_6.out
         subst eo63
         go_wp2
         repeat (go_quiet (fail); try go_wp2)
         go_ret
         exact ⟨by first | rfl | (simp [errW_none, errW_some] <;> rfl) | (simp [*, errW_none, errW_some] <;> rfl), by repeat (first | (with_reducible first | exact HB.out | apply below_alloc | apply pw_below_drewN | apply below_drew1) | exact HB.out)⟩

end Go.Proofs.Ytfnkobcmhbdcoaa.XBas
end
section
/- Decompose: the reference's, in plain Lean. -/


namespace Go.Proofs.Ytfnkobcmhbdcoaa.PureDec
open Go.RowKit Go.Proofs.YtfnkobcmhbdcoaaW.PrintWords Go.Proofs.YtfnkobcmhbdcoaaW.PrintLast Go.Proofs.Ytfnkobcmhbdcoaa.Base Go.Proofs.Ytfnkobcmhbdcoaa.XTypes Go.Proofs.Ytfnkobcmhbdcoaa.XInts Go.Proofs.Ytfnkobcmhbdcoaa.XProb Go.Proofs.Ytfnkobcmhbdcoaa.XSum Go.Proofs.Ytfnkobcmhbdcoaa.XSol Go.Proofs.Ytfnkobcmhbdcoaa.Problem Go.Proofs.Ytfnkobcmhbdcoaa.PureInts Go.Proofs.Ytfnkobcmhbdcoaa.PureSum Go.Proofs.Ytfnkobcmhbdcoaa.Solution Go.Proofs.Ytfnkobcmhbdcoaa.ImplSol Go.Proofs.Ytfnkobcmhbdcoaa.Typed Go.Proofs.Ytfnkobcmhbdcoaa.Dio Go.Proofs.Ytfnkobcmhbdcoaa.DioL Go.Proofs.Ytfnkobcmhbdcoaa.PureDio Go.Proofs.Ytfnkobcmhbdcoaa.SolB Go.Proofs.Ytfnkobcmhbdcoaa.SolF Go.Proofs.Ytfnkobcmhbdcoaa.XDec Go.Proofs.Ytfnkobcmhbdcoaa.DecP
set_option linter.unusedVariables false
set_option linter.unusedSimpArgs false
set_option linter.unnecessarySimpa false

/-! ### the reference's -/
theorem spec_sub (r y out : List Int) (B : List (List Int)) (j : Nat) (hj : j < B.length) (hyB : B[j] = y) (res : List Int × Bool) (hl : y.length = r.length) (hr : Mid r) (hy : ∀ i, i < y.length → 0 ≤ gt y i ∧ gt y i ≤ 1000) (hn : r.length ≤ 1048576)
    (hnext : Ev (fun k => spec_Decompose.l1 k B (sub r y) out (j : Int)) res) : ∀ (d i : Nat), r.length - i = d → i ≤ r.length → Ev (fun k => spec_Decompose.l2 k B (subTo r y i) out (j : Int) (i : Int)) res := by
  intro d
  induction d with
  | zero =>
    intro i hd hi
    refine Ev.step (fun k => by simp only [spec_Decompose.l2]; rfl) (Ev.neg (by simp [subTo]; omega) ?_)
    rw [subTo_all _ _ _ (by omega)]
    exact hnext
  | succ d ih =>
    intro i hd hi
    have hlt : i < r.length := by omega
    have h1 := hr i hlt
    have h2 := hy i (by omega)
    refine Ev.step (fun k => by simp only [spec_Decompose.l2]; rfl) (Ev.pos (by simp [subTo]; omega) (Ev.pos (by omega) (Ev.pos (by omega) (Ev.pos (by omega) (Ev.pos (by rw [rdL_of hj, hyB]; omega) ?_)))))
    rw [rdL_of hj, hyB, rd_gt, rd_gt, subTo_at hlt, wrap_id (by omega) (by omega), Int.toNat_natCast, subTo_set hlt, wrap_succ (by omega)]
    exact ih (i + 1) (by omega) (by omega)
theorem spec_while (y dn zs : List Int) (B : List (List Int)) (j : Nat) (hj : j < B.length) (hyB : B[j] = y) (hdn : dn.length = j) (hB40 : B.length ≤ 1048576) (res : List Int × Bool) (hy : ∀ i, i < y.length → 0 ≤ gt y i ∧ gt y i ≤ 1000) (q : Nat) (hq : q < y.length) (hqp : 0 < gt y q) (hyl : y.length ≤ 1048576) : ∀ (f : Nat) (r : List Int) (n : Nat), y.length = r.length → Mid r → gt r q < f → n + f ≤ 100000 →
    Ev (fun k => spec_Decompose.l0 k B (tk f y r).2 (dn ++ ((n + (tk f y r).1 : Nat) : Int) :: zs) ((j + 1 : Nat) : Int)) res → Ev (fun k => spec_Decompose.l1 k B r (dn ++ (n : Int) :: zs) (j : Int)) res := by
  intro f
  induction f with
  | zero =>
    intro r n hl hr hf _ _
    have := hr q (by omega)
    omega
  | succ f ih =>
    intro r n hl hr hf hn hres
    have hnw := sbelow_ev y r (by omega) (by omega)
    refine Ev.step (fun k => by simp only [spec_Decompose.l1]; rfl) (Ev.pos (by omega) (Ev.pos (by omega) ?_))
    rw [rdL_of hj, hyB]
    refine Ev.bind hnw ?_
    cases hb : below y r with
    | false =>
      refine Ev.neg (by decide) ?_
      simp only [tk, hb, if_neg (show ¬ (false = true) by decide), Nat.add_zero] at hres
      rw [wrap_succ (by omega)]
      exact hres
    | true =>
      obtain ⟨hm, hml⟩ := sub_mid hr hl (fun i hi => (hy i hi).1) hb
      refine Ev.pos rfl (Ev.pos (by simp; omega) ?_)
      have hrd : rd (dn ++ (n : Int) :: zs) (j : Int) = n := by simp [rd, ← hdn]
      have hset : (dn ++ (n : Int) :: zs).set j ((n + 1 : Nat) : Int) = dn ++ ((n + 1 : Nat) : Int) :: zs := by
        rw [List.set_append_right _ _ (by omega), hdn, Nat.sub_self]
        rfl
      rw [hrd, wrap_succ (by omega), Int.toNat_natCast, hset]
      have hnext := ih (sub r y) (n + 1) (by omega) hm (by
        have h1 := below_iff.1 hb q hq
        have : gt (sub r y) q = gt r q - gt y q := by unfold sub; rw [gt_tab (by omega)]
        omega) (by omega) (by
        simp only [tk, hb, if_true] at hres
        rw [show n + 1 + (tk f y (sub r y)).1 = n + ((tk f y (sub r y)).1 + 1) by omega]
        exact hres)
      have h2 := spec_sub r y (dn ++ ((n + 1 : Nat) : Int) :: zs) B j hj hyB res hl hr hy (by omega) hnext r.length 0 (by omega) (by omega)
      rw [subTo_zero] at h2
      exact h2
theorem spec_loop {n : Nat} {B : List (List Int)} (hB : Pcs n B) : ∀ (d j : Nat) (r dn : List Int), B.length - j = d → j ≤ B.length → Mid r → r.length = n → dn.length = j →
    Ev (fun k => spec_Decompose.l0 k B r (dn ++ List.replicate d 0) (j : Int)) (dn ++ ints (gr (B.drop j) r).1, true) := by
  have hlen := hB.len
  have hn5 := hB.n5
  intro d
  induction d with
  | zero =>
    intro j r dn hd hj hr hrl ho
    refine Ev.step (fun k => by simp only [spec_Decompose.l0]; rfl) (Ev.neg (by omega) (Ev.some_eq ?_))
    rw [List.drop_of_length_le (by omega)]
    simp [gr, ints]
  | succ d ih =>
    intro j r dn hd hj hr hrl ho
    have hlt : j < B.length := by omega
    have hy := hB.all B[j] (List.getElem_mem _)
    obtain ⟨m1, m2, m3⟩ := tk_ok hy hr hrl
    obtain ⟨h1, h2, q, hq, hp⟩ := hy
    refine Ev.step (fun k => by simp only [spec_Decompose.l0]; rfl) (Ev.pos (by omega) ?_)
    have hnext := ih (j + 1) (tk 1001 B[j] r).2 (dn ++ [((tk 1001 B[j] r).1 : Int)]) (by omega) (by omega) m1 m2 (by simp [ho])
    have hd' : B.drop j = B[j] :: B.drop (j + 1) := (List.getElem_cons_drop hlt).symm
    have e : dn ++ ints (gr (B.drop j) r).1 = (dn ++ [((tk 1001 B[j] r).1 : Int)]) ++ ints (gr (B.drop (j + 1)) (tk 1001 B[j] r).2).1 := by
      rw [hd']
      simp [gr, ints]
    rw [e]
    have h := spec_while B[j] dn (List.replicate d 0) B j hlt rfl ho (by omega) (dn ++ [((tk 1001 B[j] r).1 : Int)] ++ ints (gr (B.drop (j + 1)) (tk 1001 B[j] r).2).1, true) (fun i hi => by have := h2 i (by omega); omega) q (by omega) hp (by omega) 1001 r 0 (by omega) hr (by have := hr q (by omega); omega) (by omega) (by
      rw [Nat.zero_add]
      simpa using hnext)
    exact h

theorem specDec_ev (a b x : List Int) (ha : a.length ≤ 1048576) (hb : b.length ≤ 1048576) (hx : x.length ≤ 1048576) : Ev (fun k => spec_Decompose.f k a b x) (decL a b x, decB a b x) := by
  unfold spec_Decompose.f spec_SolutionBasis.f
  rw [specSol_eq a b x ha hb hx, if_pos ⟨ha, hb⟩]
  simp only [Option.bind_some]
  cases hS : solB a b x with
  | false =>
    refine Ev.neg (by decide) (Ev.some_eq ?_)
    simp [decL, decB, hS]
  | true =>
    refine Ev.pos rfl ?_
    cases hB : basisB a b with
    | false =>
      refine Ev.neg (by decide) (Ev.some_eq ?_)
      simp [decL, decB, hB]
    | true =>
      obtain ⟨hm, hl, _⟩ := sol_mid hS
      obtain ⟨_, hg⟩ := good_basis hB
      have hlen := hg.len
      have e : decL a b x = ints (gr (basisL a b) x).1 := by simp [decL, decB, hB, hS]
      have e2 : decB a b x = true := by simp [decB, hB, hS]
      rw [e, e2]
      refine Ev.pos rfl ?_
      simp only [Option.bind_some, List.length_nil, List.nil_append]
      refine Ev.pos (by omega) (Ev.pos (by omega) (Ev.pos (by omega) ?_))
      have h := spec_loop hg (basisL a b).length 0 x [] (by omega) (by omega) hm hl rfl
      simpa using h
end Go.Proofs.Ytfnkobcmhbdcoaa.PureDec
end
section
/- FnBasis, in plain Lean: what is drawn, and what the law asks of it. -/





namespace Go.Proofs.Ytfnkobcmhbdcoaa.PureBas
open Go.RowKit Go.Proofs.YtfnkobcmhbdcoaaW.PrintWords Go.Proofs.YtfnkobcmhbdcoaaW.PrintLast Go.Proofs.Ytfnkobcmhbdcoaa.Base Go.Proofs.Ytfnkobcmhbdcoaa.XTypes Go.Proofs.Ytfnkobcmhbdcoaa.XInts Go.Proofs.Ytfnkobcmhbdcoaa.XSol Go.Proofs.Ytfnkobcmhbdcoaa.XDec Go.Proofs.Ytfnkobcmhbdcoaa.XBas Go.Proofs.Ytfnkobcmhbdcoaa.Problem Go.Proofs.Ytfnkobcmhbdcoaa.PureInts Go.Proofs.Ytfnkobcmhbdcoaa.PureSum Go.Proofs.Ytfnkobcmhbdcoaa.Solution Go.Proofs.Ytfnkobcmhbdcoaa.ImplSol Go.Proofs.Ytfnkobcmhbdcoaa.Dio Go.Proofs.Ytfnkobcmhbdcoaa.DioL Go.Proofs.Ytfnkobcmhbdcoaa.PureDio Go.Proofs.Ytfnkobcmhbdcoaa.SolB Go.Proofs.Ytfnkobcmhbdcoaa.SolF Go.Proofs.Ytfnkobcmhbdcoaa.DecP Go.Proofs.Ytfnkobcmhbdcoaa.DecI Go.Proofs.Ytfnkobcmhbdcoaa.PureDec
set_option linter.unusedVariables false
set_option linter.unusedSimpArgs false
set_option linter.unnecessarySimpa false

/-! ### what is drawn -/
theorem and255 (n : Int) : Go.bits .and .i64 n 255 = n % 256 := by
  have h255 : (BitVec.ofInt 64 255).toNat = 2 ^ 8 - 1 := by decide
  have key : (BitVec.ofInt 64 n &&& BitVec.ofInt 64 255).toNat = (n % ((2 ^ 64 : Nat) : Int)).toNat % 2 ^ 8 := by
    rw [BitVec.toNat_and, BitVec.toNat_ofInt, h255, Nat.and_two_pow_sub_one_eq_mod]
  show IntKind.i64.wrap ((BitVec.ofInt 64 n &&& BitVec.ofInt 64 255).toNat : Nat) = n % 256
  rw [key, IntKind.wrap_i64]
  omega
theorem byte_some (s : List Int) (hs : s.length ≤ 1048576) (i h : Int) (hi : 0 ≤ i) : ∃ r i' h', spec_l1Byte.f s i h = some (r, i', h') ∧ 0 ≤ r ∧ r < 256 ∧ 0 ≤ i' := by
  unfold spec_l1Byte.f
  by_cases h1 : i < (s.length : Int)
  · rw [if_pos h1, if_pos hi]
    refine ⟨_, _, _, rfl, ?_, ?_, ?_⟩
    · rw [and255]; omega
    · rw [and255]; omega
    · rw [wrap_id (by omega) (by omega)]; omega
  · rw [if_neg h1]
    refine ⟨_, _, _, rfl, ?_, ?_, hi⟩
    · rw [and255]; omega
    · rw [and255]; omega
theorem below_some (s : List Int) (hs : s.length ≤ 1048576) (i h n : Int) (hi : 0 ≤ i) (h1 : 1 ≤ n) (h2 : n ≤ 256) : ∃ r i' h', spec_l1Below.f s i h n = some (r, i', h') ∧ 0 ≤ r ∧ r < n ∧ 0 ≤ i' := by
  obtain ⟨r, i', h', e, r0, r1, j0⟩ := byte_some s hs i h hi
  unfold spec_l1Below.f
  rw [if_neg (by omega), if_pos h2, e]
  simp only [Option.bind_some]
  rw [if_neg (by omega)]
  refine ⟨_, _, _, rfl, ?_, ?_, j0⟩
  · rw [Int.tmod_eq_emod_of_nonneg r0]; exact Int.emod_nonneg _ (by omega)
  · rw [Int.tmod_eq_emod_of_nonneg r0]; exact Int.emod_lt_of_pos _ (by omega)
theorem once_some (s : List Int) (hs : s.length ≤ 1048576) (i h n : Int) (hi : 0 ≤ i) (h1 : 1 ≤ n) (h2 : n ≤ 256) : ∃ r i' h', spec_l1Once.f s i h n = some (r, i', h') ∧ 0 ≤ i' := by
  obtain ⟨r, i', h', e, r0, r1, j0⟩ := below_some s hs i h n hi h1 h2
  unfold spec_l1Once.f
  rw [e]
  exact ⟨_, _, _, rfl, j0⟩
theorem pick_some (s : List Int) (hs : s.length ≤ 1048576) (i h : Int) (l : List Int) (hi : 0 ≤ i) (h1 : 1 ≤ l.length) (h2 : l.length ≤ 256) : ∃ r i' h', spec_l1PickInt.f s i h l = some (r, i', h') ∧ 0 ≤ i' := by
  obtain ⟨r, i', h', e, r0, r1, j0⟩ := below_some s hs i h (l.length : Int) hi (by omega) (by omega)
  unfold spec_l1PickInt.f
  rw [e]
  simp only [Option.bind_some]
  rw [if_pos r0, if_pos r1]
  exact ⟨_, _, _, rfl, j0⟩
theorem draw1 (s : List Int) (hs : s.length ≤ 1048576) (x4 : List Int) (x6 : Int) (hx6 : x6 ≤ 3) : ∀ (d : Nat) (x8 : Int) (x5 : List Int) (i h : Int), (x6 - x8).toNat = d → 0 ≤ x8 → x5.length + d ≤ 100 → 0 ≤ i → ∃ b i' h', Ev (fun k => spec_l34Draw.l1 k x4 x5 x6 x8 s i h) (x4, b, i', h') ∧ b.length ≤ x5.length + d + 1 ∧ 0 ≤ i' := by
  intro d
  induction d with
  | zero =>
    intro x8 x5 i h hd h8 h5 hi
    obtain ⟨r, i', h', e, j0⟩ := once_some s hs i h 16 hi (by omega) (by omega)
    cases r with
    | false => exact ⟨x5, i', h', Ev.step (fun k => by simp only [spec_l34Draw.l1]; rfl) (Ev.neg (by omega) (by rw [e]; simp only [Option.bind_some]; exact Ev.neg (by decide) (Ev.now _))), by omega, j0⟩
    | true =>
      obtain ⟨r2, i2, h2, e2, j2⟩ := pick_some s hs i' h' [0, 6, 5, (-1)] j0 (by simp) (by simp)
      refine ⟨x5 ++ [r2], i2, h2, Ev.step (fun k => by simp only [spec_l34Draw.l1]; rfl) (Ev.neg (by omega) (by rw [e]; simp only [Option.bind_some]; refine Ev.pos (by simp) ?_; rw [e2]; simp only [Option.bind_some]; exact Ev.pos (by omega) (Ev.now _))), by simp, j2⟩
  | succ d ih =>
    intro x8 x5 i h hd h8 h5 hi
    obtain ⟨r, i', h', e, r0, r1, j0⟩ := below_some s hs i h 4 hi (by omega) (by omega)
    obtain ⟨b, i2, h2, ev, hl, j2⟩ := ih (x8 + 1) (x5 ++ [wrap64 (1 + r)]) i' h' (by omega) (by omega) (by simp; omega) j0
    refine ⟨b, i2, h2, Ev.step (fun k => by simp only [spec_l34Draw.l1]; rfl) (Ev.pos (by omega) ?_), by simp at hl; omega, j2⟩
    rw [e]
    simp only [Option.bind_some]
    refine Ev.pos (by omega) ?_
    rw [show wrap64 (x8 + 1) = x8 + 1 from wrap_id (by omega) (by omega)]
    exact ev
theorem draw0 (s : List Int) (hs : s.length ≤ 1048576) (x6 : Int) (hx6 : x6 ≤ 3) : ∀ (d : Nat) (x7 : Int) (x4 : List Int) (i h : Int), (x6 - x7).toNat = d → 0 ≤ x7 → x4.length + d ≤ 100 → 0 ≤ i → ∃ a b i' h', Ev (fun k => spec_l34Draw.l0 k x4 [] x6 x7 s i h) (a, b, i', h') ∧ a.length = x4.length + d ∧ b.length ≤ 4 ∧ 0 ≤ i' := by
  intro d
  induction d with
  | zero =>
    intro x7 x4 i h hd h7 h4 hi
    obtain ⟨r, i', h', e, r0, r1, j0⟩ := below_some s hs i h 2 hi (by omega) (by omega)
    obtain ⟨b, i2, h2, ev, hl, j2⟩ := draw1 s hs x4 (1 + r) (by omega) (1 + r).toNat 0 [] i' h' (by omega) (by omega) (by simp; omega) j0
    refine ⟨x4, b, i2, h2, Ev.step (fun k => by simp only [spec_l34Draw.l0]; rfl) (Ev.neg (by omega) ?_), by omega, by simp at hl; omega, j2⟩
    rw [e]
    simp only [Option.bind_some]
    rw [show wrap64 (1 + r) = 1 + r from wrap_id (by omega) (by omega)]
    exact ev
  | succ d ih =>
    intro x7 x4 i h hd h7 h4 hi
    obtain ⟨r, i', h', e, r0, r1, j0⟩ := below_some s hs i h 4 hi (by omega) (by omega)
    obtain ⟨a, b, i2, h2, ev, hl, hb, j2⟩ := ih (x7 + 1) (x4 ++ [wrap64 (1 + r)]) i' h' (by omega) (by omega) (by simp; omega) j0
    refine ⟨a, b, i2, h2, Ev.step (fun k => by simp only [spec_l34Draw.l0]; rfl) (Ev.pos (by omega) ?_), by simp at hl; omega, hb, j2⟩
    rw [e]
    simp only [Option.bind_some]
    refine Ev.pos (by omega) ?_
    rw [show wrap64 (x7 + 1) = x7 + 1 from wrap_id (by omega) (by omega)]
    exact ev
theorem draw_some (s : List Int) (hs : s.length ≤ 1048576) (i h : Int) (hi : 0 ≤ i) : ∃ a b i' h', Ev (fun k => spec_l34Draw.f k s i h) (a, b, i', h') ∧ 1 ≤ a.length ∧ a.length ≤ 3 ∧ b.length ≤ 4 ∧ 0 ≤ i' := by
  obtain ⟨r, i', h', e, r0, r1, j0⟩ := below_some s hs i h 3 hi (by omega) (by omega)
  obtain ⟨a, b, i2, h2, ev, hl, hb, j2⟩ := draw0 s hs (1 + r) (by omega) (1 + r).toNat 0 [] i' h' (by omega) (by omega) (by simp; omega) j0
  refine ⟨a, b, i2, h2, ?_, by simp at hl; omega, by simp at hl; omega, hb, j2⟩
  unfold spec_l34Draw.f
  rw [e]
  simp only [Option.bind_some]
  rw [show wrap64 (1 + r) = 1 + r from wrap_id (by omega) (by omega)]
  exact ev
theorem new_loop (s : List Int) (hs : s.length ≤ 1048576) : ∀ (d i : Nat) (x3 : Int), s.length - i = d → i ≤ s.length → ∃ r, Ev (fun k => spec_l1New.l0 k s x3 (i : Int)) (s, 0, r) := by
  intro d
  induction d with
  | zero =>
    intro i x3 hd hi
    exact ⟨x3, Ev.step (fun k => by simp only [spec_l1New.l0]; rfl) (Ev.neg (by omega) (Ev.now _))⟩
  | succ d ih =>
    intro i x3 hd hi
    by_cases h4 : i < 4000
    · obtain ⟨r, ev⟩ := ih (i + 1) (Go.bits .and .i64 (wrap64 ((wrap64 ((wrap64 (x3 * 131)) + (wrap64 (rd s (i : Int))))) + 7)) 1073741823) (by omega) (by omega)
      refine ⟨r, Ev.step (fun k => by simp only [spec_l1New.l0]; rfl) (Ev.pos (by omega) (Ev.pos (by omega) (Ev.pos (by omega) ?_)))⟩
      rw [wrap_succ (by omega)]
      exact ev
    · exact ⟨x3, Ev.step (fun k => by simp only [spec_l1New.l0]; rfl) (Ev.pos (by omega) (Ev.neg (by omega) (Ev.now _)))⟩
theorem new_some (s : List Int) (hs : s.length ≤ 1048576) : ∃ r, Ev (fun k => spec_l1New.f k s) (s, 0, r) := new_loop s hs s.length 0 _ (by omega) (by omega)
/-- What is drawn of x. -/
def Drawn (a b : List Int) (n : Nat) (r : List Int × List Int × List Int) : Prop := r.1 = a ∧ r.2.1 = b ∧ r.2.2.length = n
theorem sol_end (s : List Int) (hs : s.length ≤ 1048576) (a b x : List Int) (n : Nat) (hn : x.length = n) (hp : 0 < n) (i h : Int) (hi : 0 ≤ i) : ∃ r, Ev (fun k => spec_DrawIsSolution.j2 k a b x s i h) r ∧ Drawn a b n r := by
  obtain ⟨r, i', h', e, j0⟩ := once_some s hs i h 20 hi (by omega) (by omega)
  cases r with
  | false => exact ⟨(a, b, x), Ev.step (fun k => by simp only [spec_DrawIsSolution.j2]; rfl) (by rw [e]; simp only [Option.bind_some]; exact Ev.neg (by decide) (Ev.now _)), rfl, rfl, hn⟩
  | true =>
    obtain ⟨r2, i2, h2, e2, j2⟩ := pick_some s hs i' h' [(-1), 1001] j0 (by simp) (by simp)
    refine ⟨(a, b, x.set 0 r2), Ev.step (fun k => by simp only [spec_DrawIsSolution.j2]; rfl) (by rw [e]; simp only [Option.bind_some]; refine Ev.pos (by simp) ?_; rw [e2]; simp only [Option.bind_some]; exact Ev.pos (by omega) (Ev.now _)), rfl, rfl, by simp [hn]⟩
theorem sol_inner (s a b : List Int) (B : List (List Int)) (n : Nat) (hn : n ≤ 1000) (j : Nat) (hj : j < B.length) (hB : B[j].length = n) (x12 i h : Int) (hnext : ∀ x : List Int, x.length = n → ∃ r, Ev (fun k => spec_DrawIsSolution.l0 k a b x B (wrap64 ((j : Int) + 1)) s i h) r ∧ Drawn a b n r) :
    ∀ (d t : Nat) (x : List Int), n - t = d → t ≤ n → x.length = n → ∃ r, Ev (fun k => spec_DrawIsSolution.l1 k a b x B (j : Int) x12 (t : Int) s i h) r ∧ Drawn a b n r := by
  intro d
  induction d with
  | zero =>
    intro t x hd ht hx
    obtain ⟨r, ev, hr⟩ := hnext x hx
    exact ⟨r, Ev.step (fun k => by simp only [spec_DrawIsSolution.l1]; rfl) (Ev.neg (by omega) ev), hr⟩
  | succ d ih =>
    intro t x hd ht hx
    obtain ⟨r, ev, hr⟩ := ih (t + 1) (x.set t (wrap64 ((rd x (t : Int)) + (wrap64 (x12 * (rd B[j] (t : Int))))))) (by omega) (by omega) (by simp [hx])
    refine ⟨r, Ev.step (fun k => by simp only [spec_DrawIsSolution.l1]; rfl) (Ev.pos (by omega) (Ev.pos (by omega) (Ev.pos (by omega) (Ev.pos (by omega) (Ev.pos (by rw [rdL_of hj]; omega) ?_))))), hr⟩
    rw [rdL_of hj, wrap_succ (by omega), Int.toNat_natCast]
    exact ev
theorem sol_outer (s : List Int) (hs : s.length ≤ 1048576) (a b : List Int) (B : List (List Int)) (n : Nat) (hn : n ≤ 1000) (hp : 0 < n) (hl : B.length ≤ 1000) (hB : ∀ y ∈ B, y.length = n) : ∀ (d j : Nat) (x : List Int) (i h : Int), B.length - j = d → j ≤ B.length → x.length = n → 0 ≤ i → ∃ r, Ev (fun k => spec_DrawIsSolution.l0 k a b x B (j : Int) s i h) r ∧ Drawn a b n r := by
  intro d
  induction d with
  | zero =>
    intro j x i h hd hj hx hi
    obtain ⟨r, i', h', e, j0⟩ := once_some s hs i h 5 hi (by omega) (by omega)
    cases r with
    | false =>
      obtain ⟨r, ev, hr⟩ := sol_end s hs a b x n hx hp i' h' j0
      exact ⟨r, Ev.step (fun k => by simp only [spec_DrawIsSolution.l0]; rfl) (Ev.neg (by omega) (by rw [e]; simp only [Option.bind_some]; exact Ev.neg (by decide) ev)), hr⟩
    | true =>
      obtain ⟨r, ev, hr⟩ := sol_end s hs a b (x.set 0 (wrap64 ((rd x 0) + 1))) n (by simp [hx]) hp i' h' j0
      exact ⟨r, Ev.step (fun k => by simp only [spec_DrawIsSolution.l0]; rfl) (Ev.neg (by omega) (by rw [e]; simp only [Option.bind_some]; exact Ev.pos (by simp) (Ev.pos (by omega) ev))), hr⟩
  | succ d ih =>
    intro j x i h hd hj hx hi
    have hlt : j < B.length := by omega
    obtain ⟨r, i', h', e, r0, r1, j0⟩ := below_some s hs i h 3 hi (by omega) (by omega)
    obtain ⟨q, ev, hr⟩ := sol_inner s a b B n hn j hlt (hB _ (List.getElem_mem _)) r i' h' (fun x hx => by
      rw [wrap_succ (by omega)]
      exact ih (j + 1) x i' h' (by omega) (by omega) hx j0) n 0 x (by omega) (by omega) hx
    refine ⟨q, Ev.step (fun k => by simp only [spec_DrawIsSolution.l0]; rfl) (Ev.pos (by omega) ?_), hr⟩
    rw [e]
    simp only [Option.bind_some]
    exact ev
theorem basis_len (a b : List Int) : (∀ y ∈ basisL a b, y.length = a.length + b.length) ∧ (basisL a b).length ≤ 40 := by
  cases h : basisB a b with
  | false =>
    have e : basisL a b = [] := by unfold basisL; rw [h]; rfl
    rw [e]
    exact ⟨(fun y hy => by cases hy), by simp⟩
  | true =>
    obtain ⟨_, hg⟩ := good_basis h
    exact ⟨fun y hy => (hg.all y hy).1, hg.len⟩
theorem drawn_some (s : List Int) (hs : s.length ≤ 1048576) : ∃ a b x, Ev (fun k => spec_DrawDecompose.f k s) (a, b, x) ∧ a.length ≤ 3 ∧ b.length ≤ 4 ∧ x.length = a.length + b.length := by
  obtain ⟨r, ev1⟩ := new_some s hs
  obtain ⟨a, b, i, h, ev2, ha, ha3, hb, hi⟩ := draw_some s hs 0 r (by omega)
  obtain ⟨hrow, h40⟩ := basis_len a b
  obtain ⟨⟨a', b', x⟩, ev3, h1, h2, h3⟩ := sol_outer s hs a b (basisL a b) (a.length + b.length) (by omega) (by omega) (by omega) hrow (basisL a b).length 0 (List.replicate (a.length + b.length) 0) i h (by omega) (by omega) (by simp) hi
  simp only [] at h1 h2 h3
  subst h1
  subst h2
  refine ⟨a', b', x, ?_, ha3, hb, h3⟩
  unfold spec_DrawDecompose.f
  suffices hev : Ev (fun k => spec_DrawIsSolution.f k s) (a', b', x) from Ev.bind hev (Ev.now _)
  unfold spec_DrawIsSolution.f
  refine Ev.bind ev1 (Ev.bind ev2 ?_)
  simp only []
  have e : wrap64 ((a'.length : Int) + (b'.length : Int)) = ((a'.length + b'.length : Nat) : Int) := by rw [wrap_id (by omega) (by omega)]; omega
  rw [e]
  refine Ev.pos (by omega) (Ev.pos (by omega) ?_)
  have e2 : spec_SolutionBasis.f a' b' = some (basisL a' b', basisB a' b') := if_pos ⟨by omega, by omega⟩
  rw [e2]
  simp only [Option.bind_some, Int.toNat_natCast]
  exact ev3
end Go.Proofs.Ytfnkobcmhbdcoaa.PureBas
end
section
/- FnBasis: the walk. -/

namespace Go.Proofs.Ytfnkobcmhbdcoaa.LawBas
open Go.RowKit Go.Proofs.YtfnkobcmhbdcoaaW.PrintWords Go.Proofs.YtfnkobcmhbdcoaaW.PrintLast Go.Proofs.Ytfnkobcmhbdcoaa.Base Go.Proofs.Ytfnkobcmhbdcoaa.XTypes Go.Proofs.Ytfnkobcmhbdcoaa.XInts Go.Proofs.Ytfnkobcmhbdcoaa.XSol Go.Proofs.Ytfnkobcmhbdcoaa.XDec Go.Proofs.Ytfnkobcmhbdcoaa.XBas Go.Proofs.Ytfnkobcmhbdcoaa.Problem Go.Proofs.Ytfnkobcmhbdcoaa.PureInts Go.Proofs.Ytfnkobcmhbdcoaa.PureSum Go.Proofs.Ytfnkobcmhbdcoaa.Solution Go.Proofs.Ytfnkobcmhbdcoaa.ImplSol Go.Proofs.Ytfnkobcmhbdcoaa.Dio Go.Proofs.Ytfnkobcmhbdcoaa.DioL Go.Proofs.Ytfnkobcmhbdcoaa.PureDio Go.Proofs.Ytfnkobcmhbdcoaa.SolB Go.Proofs.Ytfnkobcmhbdcoaa.SolF Go.Proofs.Ytfnkobcmhbdcoaa.DecP Go.Proofs.Ytfnkobcmhbdcoaa.DecI Go.Proofs.Ytfnkobcmhbdcoaa.PureDec Go.Proofs.Ytfnkobcmhbdcoaa.PureBas
set_option linter.unusedVariables false
set_option linter.unusedSimpArgs false
set_option linter.unnecessarySimpa false

theorem basis_sol {a b y : List Int} (h : basisB a b = true) (hy : y ∈ basisL a b) : solB a b y = true := by
  obtain ⟨e, _⟩ := good_basis h
  rw [e] at hy
  obtain ⟨⟨g1, g2⟩, g3, _⟩ := mem_allP.1 (List.mem_filter.1 hy).1
  have hp : probB a b = true := by
    unfold basisB at h
    rw [Bool.and_eq_true] at h
    exact h.1
  have hb : boundB y = true := boundB_good (fun j hj => by
    have := g2 j hj
    rw [rd_gt]
    simp
    omega)
  have hd : dot a (y.take a.length) = dot b (y.drop a.length) := by
    rw [← bal_eq] at g3
    rw [dot_take a.length (Nat.le_refl _)]
    omega
  unfold solB
  simp [hp, g1, hb, hd]
theorem basis_apart {a b : List Int} {i k : Nat} (hi : i < (basisL a b).length) (hk : k < (basisL a b).length) (hne : k ≠ i) : below (basisL a b)[k] (basisL a b)[i] = false := by
  cases h : basisB a b with
  | false =>
    have e : basisL a b = [] := by unfold basisL; rw [h]; rfl
    rw [e] at hi
    simp at hi
  | true =>
    obtain ⟨e, _⟩ := good_basis h
    have hnd : (basisL a b).Nodup := by rw [e]; exact (nodup_allP a b).filter _
    cases hb : below (basisL a b)[k] (basisL a b)[i] with
    | false => rfl
    | true =>
      exfalso
      have m1 : (basisL a b)[i] ∈ least (allP a b) := by rw [← e]; exact List.getElem_mem _
      have m2 : (basisL a b)[k] ∈ least (allP a b) := by rw [← e]; exact List.getElem_mem _
      have he := leastB_iff.1 (List.mem_filter.1 m1).2 _ (List.mem_filter.1 m2).1 hb
      have hp := List.pairwise_iff_getElem.1 hnd
      rcases Nat.lt_or_gt_of_ne hne with h1 | h1
      · exact hp k i hk hi h1 he
      · exact hp i k hi hk h1 he.symm
/-- So far under it. -/
def pre (y z : List Int) (t : Nat) : Bool := (List.range t).all fun j => decide (gt y j ≤ gt z j)
theorem pre_succ (y z : List Int) (t : Nat) : pre y z (t + 1) = (pre y z t && decide (gt y t ≤ gt z t)) := by
  unfold pre
  rw [List.range_succ, List.all_append]
  simp
theorem pre_all (y z : List Int) : pre y z y.length = below y z := rfl
section
variable (a b x : List Int) (B : List (List Int)) (n : Nat) (T : List Int) (fine : Bool)
theorem l2_ev (hn : n ≤ 1000) (hl : B.length ≤ 1000) (hB : ∀ y ∈ B, y.length = n) (hap : ∀ (i k : Nat) (hi : i < B.length) (hk : k < B.length), k ≠ i → below B[k] B[i] = false) (i k : Nat) (hi : i < B.length) (hk : k < B.length)
    (hnext : Ev (fun q => laws_FnBasis.l1 q a b x B T fine (i : Int) (wrap64 ((k : Int) + 1))) true) : ∀ (d t : Nat), n - t = d → t ≤ n → Ev (fun q => laws_FnBasis.l2 q a b x B T fine (i : Int) (k : Int) (decide (k ≠ i) && pre B[k] B[i] t) (t : Int)) true := by
  have hli := hB B[i] (List.getElem_mem _)
  have hlk := hB B[k] (List.getElem_mem _)
  intro d
  induction d with
  | zero =>
    intro t hd ht
    obtain rfl : t = n := by omega
    have hfalse : (decide (k ≠ i) && pre B[k] B[i] t) = false := by
      by_cases e : k = i
      · simp [e]
      · have h := hap i k hi hk e
        rw [← pre_all, hlk] at h
        rw [h, Bool.and_false]
    rw [hfalse]
    exact Ev.step (fun q => by simp only [laws_FnBasis.l2]; rfl) (Ev.pos (by omega) (Ev.pos (by omega) (Ev.neg (by rw [rdL_of hi]; omega) (Ev.neg (by decide) hnext))))
  | succ d ih =>
    intro t hd ht
    have h1 := ih (t + 1) (by omega) (by omega)
    rw [pre_succ] at h1
    refine Ev.step (fun q => by simp only [laws_FnBasis.l2]; rfl) (Ev.pos (by omega) (Ev.pos (by omega) (Ev.pos (by rw [rdL_of hi]; omega) (Ev.pos (by omega) (Ev.pos (by omega) (Ev.pos (by rw [rdL_of hk]; omega) ?_))))))
    rw [wrap_succ (by omega)]
    cases hst : (decide (k ≠ i) && pre B[k] B[i] t) with
    | true =>
      rw [← Bool.and_assoc, hst, Bool.true_and] at h1
      refine Ev.pos rfl (Ev.pos (by omega) ?_)
      rw [rdL_of hi, rdL_of hk, rd_gt, rd_gt]
      exact h1
    | false =>
      rw [← Bool.and_assoc, hst, Bool.false_and] at h1
      exact Ev.neg (by decide) h1
theorem l1_ev (hn : n ≤ 1000) (hl : B.length ≤ 1000) (hB : ∀ y ∈ B, y.length = n) (hap : ∀ (i k : Nat) (hi : i < B.length) (hk : k < B.length), k ≠ i → below B[k] B[i] = false) (i : Nat) (hi : i < B.length)
    (hnext : Ev (fun q => laws_FnBasis.l0 q a b x B T fine (wrap64 ((i : Int) + 1))) true) : ∀ (d k : Nat), B.length - k = d → k ≤ B.length → Ev (fun q => laws_FnBasis.l1 q a b x B T fine (i : Int) (k : Int)) true := by
  intro d
  induction d with
  | zero =>
    intro k hd hk
    exact Ev.step (fun q => by simp only [laws_FnBasis.l1]; rfl) (Ev.neg (by omega) hnext)
  | succ d ih =>
    intro k hd hk
    have hlt : k < B.length := by omega
    have h := l2_ev a b x B n T fine hn hl hB hap i k hi hlt (by rw [wrap_succ (by omega)]; exact ih (k + 1) (by omega) (by omega)) n 0 (by omega) (by omega)
    have e : (((k : Int) != (i : Int))) = (decide (k ≠ i) && pre B[k] B[i] 0) := by
      have : pre B[k] B[i] 0 = true := rfl
      rw [this, Bool.and_true]
      by_cases e : k = i
      · simp [e]
      · have : ¬ (k : Int) = (i : Int) := by omega
        simp [e, this]
    refine Ev.step (fun q => by simp only [laws_FnBasis.l1]; rfl) (Ev.pos (by omega) ?_)
    rw [e]
    exact h
end
/-- The sum at place j of the first t pieces. -/
def ps (T : List Int) (B : List (List Int)) (j t : Nat) : Int := sm (fun i => gt T i * gt (B.getD i []) j) t
theorem sm_shift (f : Nat → Int) (n : Nat) : sm f (n + 1) = f 0 + sm (fun i => f (i + 1)) n := by
  induction n with
  | zero => simp [sm]
  | succ n ih => rw [sm, ih, sm]; omega
theorem tot_ps : ∀ (ns : List Nat) (B : List (List Int)) (j : Nat), ns.length = B.length → tot ns B j = ps (ints ns) B j B.length := by
  intro ns
  induction ns with
  | nil => intro B j h; cases B with
    | nil => rfl
    | cons y ys => simp at h
  | cons n ns ih =>
    intro B j h
    cases B with
    | nil => simp at h
    | cons y ys =>
      unfold ps
      rw [List.length_cons, sm_shift, tot, ih ys j (by simpa using h)]
      rfl
theorem ps_bound (T : List Int) (B : List (List Int)) (j : Nat) (hT : ∀ i, 0 ≤ gt T i ∧ gt T i ≤ 1000) (hB : ∀ i, 0 ≤ gt (B.getD i []) j ∧ gt (B.getD i []) j ≤ 5) (t : Nat) : 0 ≤ ps T B j t ∧ ps T B j t ≤ 5000 * t := by
  induction t with
  | zero => simp [ps, sm]
  | succ t ih =>
    have h1 := hT t
    have h2 := hB t
    have h3 : 0 ≤ gt T t * gt (B.getD t []) j := Int.mul_nonneg h1.1 h2.1
    have h4 : gt T t * gt (B.getD t []) j ≤ 1000 * 5 := Int.mul_le_mul h1.2 h2.2 h2.1 (by omega)
    have e : ps T B j (t + 1) = ps T B j t + gt T t * gt (B.getD t []) j := rfl
    omega
theorem l4_ev (x T : List Int) (B : List (List Int)) (n j : Nat) (hj : j < n) (hn : n ≤ 1000) (hx : x.length = n) (hl : B.length ≤ 1000) (hTl : T.length = B.length) (hB : ∀ y ∈ B, y.length = n) (hT : ∀ i, 0 ≤ gt T i ∧ gt T i ≤ 1000) (hB5 : ∀ i, 0 ≤ gt (B.getD i []) j ∧ gt (B.getD i []) j ≤ 5) (hsum : ps T B j B.length = gt x j)
    (hnext : Ev (fun q => laws_FnBasis.l3 q x B T (wrap64 ((j : Int) + 1))) true) : ∀ (d t : Nat), B.length - t = d → t ≤ B.length → Ev (fun q => laws_FnBasis.l4 q x B T (j : Int) (ps T B j t) (t : Int)) true := by
  intro d
  induction d with
  | zero =>
    intro t hd ht
    obtain rfl : t = B.length := by omega
    refine Ev.step (fun q => by simp only [laws_FnBasis.l4]; rfl) (Ev.neg (by omega) (Ev.pos (by omega) (Ev.pos (by omega) ?_)))
    rw [rd_gt, hsum]
    exact Ev.pos rfl hnext
  | succ d ih =>
    intro t hd ht
    have hlt : t < B.length := by omega
    have hb := ps_bound T B j hT hB5 t
    have h1 := hT t
    have h2 := hB5 t
    have h3 : 0 ≤ gt T t * gt (B.getD t []) j := Int.mul_nonneg h1.1 h2.1
    have h4 : gt T t * gt (B.getD t []) j ≤ 1000 * 5 := Int.mul_le_mul h1.2 h2.2 h2.1 (by omega)
    have hlen := hB B[t] (List.getElem_mem _)
    have eB : B.getD t [] = B[t] := by simp [hlt]
    refine Ev.step (fun q => by simp only [laws_FnBasis.l4]; rfl) (Ev.pos (by omega) (Ev.pos (by omega) (Ev.pos (by omega) (Ev.pos (by omega) (Ev.pos (by rw [rdL_of hlt]; omega) ?_)))))
    rw [rdL_of hlt, rd_gt, rd_gt, ← eB, wrap_succ (by omega)]
    rw [show wrap64 (gt T t * gt (B.getD t []) j) = gt T t * gt (B.getD t []) j from wrap_id (by omega) (by omega), wrap_id (by omega) (by omega)]
    exact ih (t + 1) (by omega) (by omega)
theorem l3_ev (x T : List Int) (B : List (List Int)) (n : Nat) (hn : n ≤ 1000) (hx : x.length = n) (hl : B.length ≤ 1000) (hTl : T.length = B.length) (hB : ∀ y ∈ B, y.length = n) (hT : ∀ i, 0 ≤ gt T i ∧ gt T i ≤ 1000) (hB5 : ∀ i j, 0 ≤ gt (B.getD i []) j ∧ gt (B.getD i []) j ≤ 5) (hsum : ∀ j, j < n → ps T B j B.length = gt x j) : ∀ (d j : Nat), n - j = d → j ≤ n → Ev (fun q => laws_FnBasis.l3 q x B T (j : Int)) true := by
  intro d
  induction d with
  | zero =>
    intro j hd hj
    refine Ev.step (fun q => by simp only [laws_FnBasis.l3]; rfl) (Ev.neg (by omega) (Ev.some_eq ?_))
    rw [hTl]
    simp
  | succ d ih =>
    intro j hd hj
    refine Ev.step (fun q => by simp only [laws_FnBasis.l3]; rfl) (Ev.pos (by omega) ?_)
    exact l4_ev x T B n j (by omega) hn hx hl hTl hB hT (fun i => hB5 i j) (hsum j (by omega)) (by rw [wrap_succ (by omega)]; exact ih (j + 1) (by omega) (by omega)) B.length 0 (by omega) (by omega)
theorem gt_ints (ns : List Nat) (h : ∀ k ∈ ns, k ≤ 1000) (i : Nat) : 0 ≤ gt (ints ns) i ∧ gt (ints ns) i ≤ 1000 := by
  by_cases hi : i < ns.length
  · have h1 := h ns[i] (List.getElem_mem _)
    have e : gt (ints ns) i = (ns[i] : Int) := by simp [gt, ints, hi]
    rw [e]
    omega
  · have e : gt (ints ns) i = 0 := gt_ge (by simp [ints]; omega)
    rw [e]
    omega
theorem l0_ev (a b x : List Int) (ha : a.length ≤ 3) (hb : b.length ≤ 4) (hx : x.length = a.length + b.length) : ∀ (d i : Nat), (basisL a b).length - i = d → i ≤ (basisL a b).length → Ev (fun q => laws_FnBasis.l0 q a b x (basisL a b) (decL a b x) (decB a b x) (i : Int)) true := by
  obtain ⟨hrow, h40⟩ := basis_len a b
  intro d
  induction d with
  | zero =>
    intro i hd hi
    refine Ev.step (fun q => by simp only [laws_FnBasis.l0]; rfl) (Ev.neg (by omega) ?_)
    cases hd : decB a b x with
    | false => exact Ev.neg (by decide) (Ev.now _)
    | true =>
      refine Ev.pos rfl ?_
      have hd' := hd
      unfold decB at hd'
      rw [Bool.and_eq_true] at hd'
      obtain ⟨e, hg⟩ := good_basis hd'.1
      obtain ⟨hm, _, hbal⟩ := sol_mid hd'.2
      have hp : probB a b = true := by
        have h := hd'.1
        unfold basisB at h
        rw [Bool.and_eq_true] at h
        exact h.1
      obtain ⟨hfa, hfb, h0, h1, h5⟩ := probB_len hp
      obtain ⟨g1, g2, g3⟩ := gr_all (fac_of hfa) (fac_of hfb) h0 h1 hx (fun i hi => hm i hi) hbal
      rw [← e] at g1 g2 g3
      have eT : decL a b x = ints (gr (basisL a b) x).1 := by simp [decL, hd]
      rw [eT]
      refine l3_ev x (ints (gr (basisL a b) x).1) (basisL a b) (a.length + b.length) (by omega) hx (by omega) (by simp [ints, g1]) hrow (gt_ints _ g3) (fun i j => ?_) (fun j hj => by rw [← tot_ps _ _ _ g1]; exact g2 j (by omega)) (a.length + b.length) 0 (by omega) (by omega)
      by_cases hi' : i < (basisL a b).length
      · have hy := hg.all (basisL a b)[i] (List.getElem_mem _)
        have e2 : (basisL a b).getD i [] = (basisL a b)[i] := by simp [hi']
        rw [e2]
        by_cases hj : j < a.length + b.length
        · exact hy.2.1 j hj
        · rw [gt_ge (by omega)]; omega
      · have e2 : (basisL a b).getD i [] = [] := by simp [hi']
        rw [e2]
        simp [gt]
  | succ d ih =>
    intro i hd hi
    have hlt : i < (basisL a b).length := by omega
    have hB : basisB a b = true := by
      cases h : basisB a b with
      | true => rfl
      | false =>
        have e : basisL a b = [] := by unfold basisL; rw [h]; rfl
        rw [e] at hlt
        simp at hlt
    have hs := basis_sol hB (List.getElem_mem hlt)
    have hev := implSol_ev a b (basisL a b)[i] (by omega) (by omega) (by rw [hrow _ (List.getElem_mem _)]; omega)
    rw [hs] at hev
    refine Ev.step (fun q => by simp only [laws_FnBasis.l0]; rfl) (Ev.pos (by omega) (Ev.pos (by omega) ?_))
    rw [rdL_of hlt]
    refine Ev.bind hev (Ev.pos rfl ?_)
    exact l1_ev a b x (basisL a b) (a.length + b.length) (decL a b x) (decB a b x) (by omega) (by omega) hrow (fun i k hi hk hne => basis_apart hi hk hne) i hlt (by rw [wrap_succ (by omega)]; exact ih (i + 1) (by omega) (by omega)) (basisL a b).length 0 (by omega) (by omega)
theorem pure_law (s : List Int) : Ev (fun k => laws_FnBasis.f k s) true := by
  unfold laws_FnBasis.f laws_big.f
  simp only [Option.bind_some]
  by_cases hs : (s.length : Int) > 1048576
  · exact Ev.pos (by simpa using hs) (Ev.now _)
  · refine Ev.neg (by simpa using hs) ?_
    obtain ⟨a, b, x, hev, ha, hb, hx⟩ := drawn_some s (by omega)
    refine Ev.bind hev ?_
    have e1 : impl_SolutionBasis.f a b = some (basisL a b, basisB a b) := if_pos ⟨by omega, by omega⟩
    have e2 : spec_SolutionBasis.f a b = some (basisL a b, basisB a b) := if_pos ⟨by omega, by omega⟩
    have e3 : impl_Decompose.f a b x = some (decL a b x, decB a b x) := if_pos ⟨by omega, by omega, by omega⟩
    have ne : ∀ r : Bool, (r != r) = false := fun r => by cases r <;> rfl
    simp only []
    rw [e1, e2, e3]
    simp only [Option.bind_some]
    refine Ev.bind (specDec_ev a b x (by omega) (by omega) (by omega)) ?_
    refine Ev.neg (by rw [ne]; decide) (Ev.neg (by rw [ne]; decide) ?_)
    refine Ev.bind (implSol_ev a b x (by omega) (by omega) (by omega)) ?_
    rw [specSol_eq a b x (by omega) (by omega) (by omega)]
    simp only [Option.bind_some]
    rw [ne]
    refine Ev.step (fun k => by simp only [laws_FnBasis.j0]; rfl) (Ev.neg (by decide) ?_)
    exact l0_ev a b x ha hb hx (basisL a b).length 0 (by omega) (by omega)
theorem walk (a0 : Option Addr) (len0 cap0 : Nat) (z0 : List Int) (w : World)
    (w0 : (a0 = none ∧ len0 = 0 ∧ cap0 = 0 ∧ z0 = []) ∨ ∃ x, a0 = some x ∧ len0 ≤ cap0 ∧ cap0 ≤ maxLen ∧ z0.length = cap0 ∧ (∀ i, i < z0.length → w.cell? (x.add i) = some (.int .u8 (z0.getD i 0))) ∧ ∀ n ∈ z0, (Lit.int .u8 n).wf = true) (_y0 : len0 * 1 ≤ 140737488351232) :
    Calls Try.prog 13 #[.slice a0 len0 cap0] w fun e w' => e = .returned (.bool true) ∧ Below w.heap.size w w' := by
  obtain ⟨l0, rfl, hr0, hm0, hw0, hc0⟩ := ReadsInt.ofRowC w0
  obtain ⟨k, h⟩ := (pure_law l0).rounds
  exact laws_FnBasis.calls k _ _ l0 true w (Kd.C_of_reads (d := (0 : Int)) (h1 := fun _ => rfl) hr0) hc0 h
end Go.Proofs.Ytfnkobcmhbdcoaa.LawBas
end
section
/- The row of the law FnBasis: every input that reads as data is answered true. -/










namespace Go.Proofs.Ytfnkobcmhbdcoaa.fnBasis
open Go.ChangeShapes Go.WideShapes Go.ChangeAt Go.RowKit
open Go.ChangeMaps (open_string shut_string)
set_option linter.unusedVariables false
theorem own : ownKnob Try.prog.godebug = none := by kernel_rfl
theorem laidOut : laidOutB Try.prog = true := by kernel_rfl
def IsRow (k : IntKind) (w : World) (a : Option Addr) (len cap : Nat) (zs : List Int) : Prop :=
  (a = none ∧ len = 0 ∧ cap = 0 ∧ zs = []) ∨
  ∃ x, a = some x ∧ len ≤ cap ∧ cap ≤ maxLen ∧ zs.length = cap ∧ (∀ i, i < zs.length → w.cell? (x.add i) = some (.int k (zs.getD i 0))) ∧ ∀ n ∈ zs, (Lit.int k n).wf = true
set_option maxRecDepth 100000 in
theorem lifted (os : Os) (started : os.Started) (H : Type) (enc : TypeId × Value → H) :
    ReturnsInHanded {} Try.checked os 13 .any (Rows.fnBasisSpec.pre6 enc Try.prog Try.f13 Rows.fnBasisRow.domain false) (Rows.fnBasisSpec.post enc Try.prog Try.f13 false true false false) := by
  refine returnsInHanded_of_change_sized (C := Try.checked) own started (by kernel_rfl) Try.func13
    (ChangeSpec.witness6 (enc := enc) (C := Try.checked) false ⟨#[], #[.slice none 0 0], []⟩ 8 (by kernel_rfl) (by kernel_rfl) (by kernel_rfl) (by kernel_rfl)) ?_
  intro W base args ds gs before hval0 hW hcnd hsz0 _
  have hsz : (DataW.weightsEach Try.prog (Try.f13.params.toList ++ Rows.fnBasisSpec.plain.varTypes Try.prog) (ds ++ gs)).all (· ≤ reachBytes) = true := hsz0
  have hval : ∀ (j : Nat) t v, Try.f13.params[j]? = some t → args[j]? = some v → Value.okWide Try.prog W .any base t v := hval0
  have hW' := hW
  obtain ⟨p, q, hA0, hV, rfl, hfz, hnd⟩ := hW
  have hA : DataW.TrodAll enc Try.prog W 0 (fun _ => true) true Try.f13.params.toList args.toList ds p := hA0
  rw [Try.params13] at hA hval hsz
  obtain ⟨v0, vs0, d0, ds0, p0, q0, hargs, rfl, rfl, h0, r0⟩ := trodAll_cons hA
  obtain ⟨rfl, rfl, rfl⟩ := trodAll_nil r0
  obtain rfl : args = #[v0] := by cases args; simp_all
  obtain ⟨rfl, rfl⟩ := trodVars_none hV
  obtain ⟨a0, len0, cap0, rfl⟩ := okWide_slice Try.underlying64 (hval 0 64 v0 rfl rfl)
  have k0 := h0
  have lt0 : ∀ x ∈ p0, x.block < W.heap.size := by obtain ⟨m, hm⟩ := k0; exact DataW.trod_lt m _ _ _ hm
  obtain ⟨z0, w0⟩ : ∃ zs, IsRow .u8 W a0 len0 cap0 zs := by
    obtain ⟨fuel, hf⟩ := h0
    rcases open_ints Try.underlying64 Try.underlying5 (by kernel_rfl) hf with ⟨hcs, _⟩ | ⟨x, l, c, zs, hcs, _, hl, hm, hz, _, hcell, hwz⟩
    · simp [Value.cells] at hcs
      obtain ⟨rfl, rfl, rfl⟩ := hcs
      exact ⟨[], .inl ⟨rfl, rfl, rfl, rfl⟩⟩
    · simp [Value.cells] at hcs
      obtain ⟨rfl, rfl, rfl⟩ := hcs
      exact ⟨zs, .inr ⟨_, rfl, hl, hm, by simpa using hz, hcell, hwz⟩⟩
  have y0 : len0 * 1 ≤ 140737488351232 := Go.Proofs.YtfnkobcmhbdcoaaW.PrintWords.sized_ints hsz (j := 0) (t := 64) rfl rfl Try.underlying64 Try.underlying5 (by kernel_rfl) (by kernel_rfl) h0
  clear hA0 hval0 hsz0 hsz
  refine (Go.Proofs.Ytfnkobcmhbdcoaa.LawBas.walk a0 len0 cap0 z0 W w0 y0).mono fun e W' ⟨he, bel⟩ => ?_
  subst he
  exact ⟨_, rfl, _, _, _, [], _, [], hW', trodAll_mk1 (shut_bool Try.underlying4 _), (trodAll_cons_mk (Below.trod laidOut (by kernel_rfl) (of_decide_eq_true (by kernel_rfl)) k0 bel lt0) trodAll_mk0), rfl, bel.frame _, fun h => by cases h⟩
theorem over : Rows.fnBasisRow.holds Try.pinned (OpenSpec.ofChange Rows.fnBasisSpec) :=
  OpenClaim.holds_of_wide 13 Try.f13 rfl rfl rfl rfl rfl rfl rfl ⟨rfl, rfl, rfl, rfl, rfl⟩ rfl rfl rfl rfl rfl (by kernel_rfl) Try.func13 (by kernel_rfl)
    (of_decide_eq_true (by kernel_rfl)) (by unfold Func.isWrapper; first | (rw [if_pos (by decide +kernel)]; kernel_rfl) | (rw [if_neg (by decide +kernel)]; exact ⟨rfl, rfl⟩))
    (fun os started H enc _ => lifted os started H enc)
theorem proved : Rows.FnBasisSaid := over
#print axioms proved
end Go.Proofs.Ytfnkobcmhbdcoaa.fnBasis
namespace Go.Proofs.Ytfnkobcmhbdcoaa
/-- The row, under a short name, for the claim. -/
theorem fnBasis_holds : Rows.FnBasisSaid := fnBasis.proved
end Go.Proofs.Ytfnkobcmhbdcoaa
end
