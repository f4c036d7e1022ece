/- Composition of morphisms: the law's walk. -/
import Derived.Test.YtfnkobcmhbdcoaaMorphs
import Derived.Deep.RegionHeld3
import Derived.Deep.DeepCutAuto
namespace Go.Proofs.Ytfnkobcmhbdcoaa.LawCompose
open Go.RowKit Go.Proofs.YtfnkobcmhbdcoaaW.PrintWords Go.Proofs.YtfnkobcmhbdcoaaW.PrintLast Go.Proofs.Ytfnkobcmhbdcoaa.Base Go.Proofs.Ytfnkobcmhbdcoaa.XTypes Go.Proofs.Ytfnkobcmhbdcoaa.PureInts Go.Proofs.Ytfnkobcmhbdcoaa.Typed Go.Proofs.Ytfnkobcmhbdcoaa.Morphs Go.Proofs.Ytfnkobcmhbdcoaa.XMorph
set_option linter.unusedVariables false
set_option linter.unusedSimpArgs false

set_option maxHeartbeats 4000000 in
set_option maxRecDepth 100000 in
theorem law_small (u0 u1 v0 v1 : Value) (f0 f1 g0 g1 : List Int) (w : World) (h0 : RdI w u0 f0) (h1 : RdI w u1 f1) (h2 : RdI w v0 g0) (h3 : RdI w v1 g1) (a1 a2 : Int) (hs1 : laws_szMorphism.f f0 f1 1048576 = some a1) (hs2 : laws_szMorphism.f g0 g1 a1 = some a2) (ha1 : 0 ≤ a1) (ha2 : 0 ≤ a2)
    (l0 : f0.length ≤ 1048576) (l1 : f1.length ≤ 1048576) (l2 : g0.length ≤ 1048576) (l3 : g1.length ≤ 1048576) :
    Calls Try.prog 8 #[.agg #[u0, u1], .agg #[v0, v1]] w fun e w' => e = .returned (.bool true) ∧ Below w.heap.size w w' := by
  obtain ⟨r0, r1, rb, hr⟩ : ∃ r0 r1 rb, compM f0 f1 g0 g1 = (r0, r1, rb) := ⟨_, _, _, rfl⟩
  have hl := @comp_len f0 f1 g0 g1
  simp only [hr] at hl
  have L0 : r0.length ≤ 1048576 := by omega
  have L1 : r1.length ≤ 1048576 := by omega
  have H0 := Lib.hid h0
  have H1 := Lib.hid h1
  have H2 := Lib.hid h2
  have H3 := Lib.hid h3
  have S1 := Lib.hid hs1
  have S2 := Lib.hid hs2
  have HR := Lib.hid hr
  clear h0 h1 h2 h3 hs1 hs2 hr hl
  go_enter Try.func8, Try.ntmps8
  have B := Lib.hid (Below.refl w.heap.size w)
  have SZ := Lib.hid (Nat.le_refl w.heap.size)
  go_wp2_with fail
  refine name_calls ?_
  intro W1 hW
  have hb : Below w.heap.size w W1 := by rw [hW]; repeat (first | exact Below.refl _ _ | apply below_alloc | apply below_drew1)
  replace B := Lib.hid (below_to B.out hb B.out.size)
  replace SZ := Lib.hid (And.intro SZ.out (show w.heap.size ≤ W1.heap.size from hb.size))
  have hlt : w.heap.size + 2 ≤ W1.heap.size := by rw [hW]; simp
  replace SZ := Lib.hid (And.intro SZ.out hlt)
  clear hlt
  have c1 : W1.cell? ⟨w.heap.size, 0, none⟩ = some u0 := by rw [hW]; simp
  have c2 : W1.cell? ⟨w.heap.size, 1, none⟩ = some u1 := by rw [hW]; simp
  have c3 : W1.cell? ⟨w.heap.size + 1, 0, none⟩ = some v0 := by rw [hW]; simp
  have c4 : W1.cell? ⟨w.heap.size + 1, 1, none⟩ = some v1 := by rw [hW]; simp
  clear hW hb
  refine (szM_any u0 u1 f0 f1 _ _ (H0.out.below B.out) (H1.out.below B.out) a1 S1.out).mono ?_
  rintro e W2 ⟨rfl, hb⟩
  replace c1 : W2.cell? ⟨w.heap.size, 0, none⟩ = some u0 := cell_below (w := W1) c1 hb
  replace c2 : W2.cell? ⟨w.heap.size, 1, none⟩ = some u1 := cell_below (w := W1) c2 hb
  replace c3 : W2.cell? ⟨w.heap.size + 1, 0, none⟩ = some v0 := cell_below (w := W1) c3 hb
  replace c4 : W2.cell? ⟨w.heap.size + 1, 1, none⟩ = some v1 := cell_below (w := W1) c4 hb
  replace B := Lib.hid (below_to B.out hb B.out.size)
  replace SZ := Lib.hid (And.intro SZ.out (show W1.heap.size ≤ W2.heap.size from hb.size))
  clear hb
  go_wp2_with fail
  refine (szM_any v0 v1 g0 g1 _ _ (H2.out.below B.out) (H3.out.below B.out) a2 S2.out).mono ?_
  rintro e W3 ⟨rfl, hb⟩
  replace c1 : W3.cell? ⟨w.heap.size, 0, none⟩ = some u0 := cell_below (w := W2) c1 hb
  replace c2 : W3.cell? ⟨w.heap.size, 1, none⟩ = some u1 := cell_below (w := W2) c2 hb
  replace c3 : W3.cell? ⟨w.heap.size + 1, 0, none⟩ = some v0 := cell_below (w := W2) c3 hb
  replace c4 : W3.cell? ⟨w.heap.size + 1, 1, none⟩ = some v1 := cell_below (w := W2) c4 hb
  replace B := Lib.hid (below_to B.out hb B.out.size)
  replace SZ := Lib.hid (And.intro SZ.out (show W2.heap.size ≤ W3.heap.size from hb.size))
  clear hb
  go_wp2_with fail
  go_upto_region 8 with (fail)
  refine name_wp ?_
  intro W4 hW
  have hb : Below W3.heap.size W3 W4 := by rw [hW]; repeat (first | exact Below.refl _ _ | apply below_alloc | apply below_drew1)
  replace c1 : W4.cell? ⟨w.heap.size, 0, none⟩ = some u0 := cell_below (w := W3) c1 hb
  replace c2 : W4.cell? ⟨w.heap.size, 1, none⟩ = some u1 := cell_below (w := W3) c2 hb
  replace c3 : W4.cell? ⟨w.heap.size + 1, 0, none⟩ = some v0 := cell_below (w := W3) c3 hb
  replace c4 : W4.cell? ⟨w.heap.size + 1, 1, none⟩ = some v1 := cell_below (w := W3) c4 hb
  replace B := Lib.hid (below_to B.out hb B.out.size)
  replace SZ := Lib.hid (And.intro SZ.out (show W3.heap.size ≤ W4.heap.size from hb.size))
  clear hW hb
  go_cut [6, 7] (fun s t wx => t = .bool rb ∧ GotM W4 wx s r0 r1)
  case first =>
    go_region_held3 (fun w' => w'.cell? ⟨w.heap.size, 0, none⟩ = some u0 ∧ w'.cell? ⟨w.heap.size, 1, none⟩ = some u1 ∧ w'.cell? ⟨w.heap.size + 1, 0, none⟩ = some v0 ∧ w'.cell? ⟨w.heap.size + 1, 1, none⟩ = some v1)
      (exact ⟨cell_below c1 (by repeat (first | exact BW | exact Below.refl _ _ | apply below_alloc | apply below_drew1 | refine below_set ?_ (by omega))), cell_below c2 (by repeat (first | exact BW | exact Below.refl _ _ | apply below_alloc | apply below_drew1 | refine below_set ?_ (by omega))), cell_below c3 (by repeat (first | exact BW | exact Below.refl _ _ | apply below_alloc | apply below_drew1 | refine below_set ?_ (by omega))), cell_below c4 (by repeat (first | exact BW | exact Below.refl _ _ | apply below_alloc | apply below_drew1 | refine below_set ?_ (by omega)))⟩)
      (first
        | (go_at_call 36; refine name_calls ?_; intro W5q hWq; have hq : Below W4.heap.size W4 W5q := (by rw [hWq]; repeat (first | exact Below.refl _ _ | apply below_alloc | apply below_drew1 | apply pw_below_drewN)); have BW : Below W4.heap.size W4 W5q := hq; have zs0 : W4.heap.size ≤ W4.heap.size := (by first | exact Nat.le_refl _ | exact BWS); (first | have e0_ := laid_cell hWq (j := 0) (v := .slice none 0 0) rfl | have e0_ := laid_cell' hWq (j := 0) (v := .slice none 0 0) rfl | skip); (first | have f0_ := laid_free hWq 0 | have f0_ := laid_free' hWq 0 | skip); (first | have e1_ := laid_cell hWq (j := 1) (v := .slice none 0 0) rfl | have e1_ := laid_cell' hWq (j := 1) (v := .slice none 0 0) rfl | skip); (first | have f1_ := laid_free hWq 1 | have f1_ := laid_free' hWq 1 | skip); clear hWq hq; (with_reducible refine (toM_any u0 u1 f0 f1 _ (H0.out.below (below_to B.out BW B.out.size)) (H1.out.below (below_to B.out BW B.out.size)) l0 l1).mono ?_); rintro e W6 ⟨x0, x1, rfl, o0, o1, od, hb⟩; replace BW : Below W4.heap.size W4 W6 := below_to BW hb BW.size; have BWS : W4.heap.size ≤ W6.heap.size := BW.size; (try replace f0_ := (hb.frozen (cell_lt e0_)).trans f0_); (try replace e0_ := cell_below e0_ hb); (try replace f1_ := (hb.frozen (cell_lt e1_)).trans f1_); (try replace e1_ := cell_below e1_ hb); have O0 := Lib.hid o0; have O1 := Lib.hid o1; clear o0 o1 od; clear hb)
        | (go_at_call 36; refine name_calls ?_; intro W7q hWq; have hq : Below W6.heap.size W6 W7q := (by rw [hWq]; repeat (first | exact Below.refl _ _ | apply below_alloc | apply below_drew1 | apply pw_below_drewN)); replace BW : Below W4.heap.size W4 W7q := below_to BW hq BW.size; have zs1 : W4.heap.size ≤ W6.heap.size := (by first | exact Nat.le_refl _ | exact BWS); replace O0 := Lib.hid (O0.out.below hq); replace O1 := Lib.hid (O1.out.below hq); (try replace f0_ := (hq.frozen (cell_lt e0_)).trans f0_); (try replace e0_ := cell_below e0_ hq); (first | have e0_ := laid_cell hWq (j := 0) (v := .slice none 0 0) rfl | have e0_ := laid_cell' hWq (j := 0) (v := .slice none 0 0) rfl | skip); (first | have f0_ := laid_free hWq 0 | have f0_ := laid_free' hWq 0 | skip); (try replace f1_ := (hq.frozen (cell_lt e1_)).trans f1_); (try replace e1_ := cell_below e1_ hq); (first | have e1_ := laid_cell hWq (j := 1) (v := .slice none 0 0) rfl | have e1_ := laid_cell' hWq (j := 1) (v := .slice none 0 0) rfl | skip); (first | have f1_ := laid_free hWq 1 | have f1_ := laid_free' hWq 1 | skip); clear hWq hq; (with_reducible refine (toM_any v0 v1 g0 g1 _ (H2.out.below (below_to B.out BW B.out.size)) (H3.out.below (below_to B.out BW B.out.size)) l2 l3).mono ?_); rintro e W8 ⟨y0, y1, rfl, o0, o1, od, hb⟩; replace BW : Below W4.heap.size W4 W8 := below_to BW hb BW.size; replace BWS : W4.heap.size ≤ W8.heap.size := BW.size; replace O0 := Lib.hid (O0.out.below hb); replace O1 := Lib.hid (O1.out.below hb); (try replace f0_ := (hb.frozen (cell_lt e0_)).trans f0_); (try replace e0_ := cell_below e0_ hb); (try replace f1_ := (hb.frozen (cell_lt e1_)).trans f1_); (try replace e1_ := cell_below e1_ hb); have O2 := Lib.hid o0; have O3 := Lib.hid o1; clear o0 o1 od; clear hb)
        | (go_at_call 35; refine name_calls ?_; intro W9q hWq; have hq : Below W8.heap.size W8 W9q := (by rw [hWq]; repeat (first | exact Below.refl _ _ | apply below_alloc | apply below_drew1 | apply pw_below_drewN)); replace BW : Below W4.heap.size W4 W9q := below_to BW hq BW.size; have zs2 : W4.heap.size ≤ W8.heap.size := (by first | exact Nat.le_refl _ | exact BWS); replace O0 := Lib.hid (O0.out.below hq); replace O1 := Lib.hid (O1.out.below hq); replace O2 := Lib.hid (O2.out.below hq); replace O3 := Lib.hid (O3.out.below hq); (try replace f0_ := (hq.frozen (cell_lt e0_)).trans f0_); (try replace e0_ := cell_below e0_ hq); (first | have e0_ := laid_cell hWq (j := 0) (v := .slice none 0 0) rfl | have e0_ := laid_cell' hWq (j := 0) (v := .slice none 0 0) rfl | skip); (first | have f0_ := laid_free hWq 0 | have f0_ := laid_free' hWq 0 | skip); (try replace f1_ := (hq.frozen (cell_lt e1_)).trans f1_); (try replace e1_ := cell_below e1_ hq); (first | have e1_ := laid_cell hWq (j := 1) (v := .slice none 0 0) rfl | have e1_ := laid_cell' hWq (j := 1) (v := .slice none 0 0) rfl | skip); (first | have f1_ := laid_free hWq 1 | have f1_ := laid_free' hWq 1 | skip); (first | have bl_ := cell_lt e0_ | skip); have hq0 : W4.heap.size ≤ W9q.heap.size := BW.size; clear hWq hq; (with_reducible refine (specC_any x0 x1 y0 y1 f0 f1 g0 g1 r0 r1 rb HR.out _ O0.out.rd O1.out.rd O2.out.rd O3.out.rd l0 l1 l2 l3).mono ?_); rintro e W10 ⟨z0, z1, rfl, p0, p1, pd, hb⟩; replace BW : Below W4.heap.size W4 W10 := below_to BW hb BW.size; replace BWS : W4.heap.size ≤ W10.heap.size := BW.size; replace O0 := Lib.hid (O0.out.below hb); replace O1 := Lib.hid (O1.out.below hb); replace O2 := Lib.hid (O2.out.below hb); replace O3 := Lib.hid (O3.out.below hb); (try replace f0_ := (hb.frozen (cell_lt e0_)).trans f0_); (try replace e0_ := cell_below e0_ hb); (try replace f1_ := (hb.frozen (cell_lt e1_)).trans f1_); (try replace e1_ := cell_below e1_ hb); obtain ⟨Az0, cz0, ez0, _, _⟩ := p0.rd; obtain ⟨Az1, cz1, ez1, _, _⟩ := p1.rd; subst ez0; subst ez1; have Z0 := Lib.hid p0; have Z1 := Lib.hid p1; have ZD := Lib.hid pd; clear p0 p1 pd O0 O1 O2 O3; clear hb))
    all_goals go_wp2_with fail
    all_goals go_meet
    all_goals first | exact ⟨rfl, GotM.laid BW Z0.out Z1.out ZD.out hq0⟩ | exact ⟨rfl, GotM.put BW Z0.out Z1.out ZD.out hq0 e0_ e1_ bl_ (by omega)⟩
  case rest =>
  obtain ⟨rfl, bz, Az0, cz0, Az1, cz1, rfl, hbox, c5, c6, o0, o1, od, on0, on1, hb⟩ := hcut
  obtain ⟨W11, rfl⟩ : ∃ W', W' = wc := ⟨_, rfl⟩
  replace c1 : W11.cell? ⟨w.heap.size, 0, none⟩ = some u0 := cell_below (w := W4) c1 hb
  replace c2 : W11.cell? ⟨w.heap.size, 1, none⟩ = some u1 := cell_below (w := W4) c2 hb
  replace c3 : W11.cell? ⟨w.heap.size + 1, 0, none⟩ = some v0 := cell_below (w := W4) c3 hb
  replace c4 : W11.cell? ⟨w.heap.size + 1, 1, none⟩ = some v1 := cell_below (w := W4) c4 hb
  replace B := Lib.hid (below_to B.out hb B.out.size)
  replace SZ := Lib.hid (And.intro SZ.out (show W4.heap.size ≤ W11.heap.size from hb.size))
  replace SZ := Lib.hid (And.intro SZ.out (And.intro hbox (cell_lt c5)))
  have LZA := Lib.hid (OwI.lies o0)
  have ZA := Lib.hid o0
  clear o0
  have LZB := Lib.hid (OwI.lies o1)
  have ZB := Lib.hid o1
  clear o1
  have DZA := Lib.hid od
  have NZA := Lib.hid (And.intro on0 on1)
  clear od on0 on1 hbox hb
  go_wp2_with fail
  refine (toM_any u0 u1 f0 f1 _ (H0.out.below B.out) (H1.out.below B.out) l0 l1).mono ?_
  rintro e W12 ⟨x0, x1, rfl, o0, o1, od, hb⟩
  replace c1 : W12.cell? ⟨w.heap.size, 0, none⟩ = some u0 := cell_below (w := W11) c1 hb
  replace c2 : W12.cell? ⟨w.heap.size, 1, none⟩ = some u1 := cell_below (w := W11) c2 hb
  replace c3 : W12.cell? ⟨w.heap.size + 1, 0, none⟩ = some v0 := cell_below (w := W11) c3 hb
  replace c4 : W12.cell? ⟨w.heap.size + 1, 1, none⟩ = some v1 := cell_below (w := W11) c4 hb
  replace c5 : W12.cell? ⟨bz, 0, none⟩ = some (.slice Az0 r0.length cz0) := cell_below (w := W11) c5 hb
  replace c6 : W12.cell? ⟨bz, 1, none⟩ = some (.slice Az1 r1.length cz1) := cell_below (w := W11) c6 hb
  replace ZA := Lib.hid (ZA.out.below hb)
  replace ZB := Lib.hid (ZB.out.below hb)
  replace B := Lib.hid (below_to B.out hb B.out.size)
  replace SZ := Lib.hid (And.intro SZ.out (show W11.heap.size ≤ W12.heap.size from hb.size))
  obtain ⟨Ax0, cx0, ex0, _, _⟩ := o0.rd
  obtain ⟨Ax1, cx1, ex1, _, _⟩ := o1.rd
  subst ex0
  subst ex1
  clear hb
  have LXA := Lib.hid (OwI.lies o0)
  have XA := Lib.hid o0
  clear o0
  have LXB := Lib.hid (OwI.lies o1)
  have XB := Lib.hid o1
  clear o1
  have DXA := Lib.hid od
  clear od
  go_upto_region 10 with (fail)
  refine name_wp ?_
  intro W13 hW
  have hb : Below W12.heap.size W12 W13 := by rw [hW]; repeat (first | exact Below.refl _ _ | apply below_alloc | apply below_drew1)
  replace c1 : W13.cell? ⟨w.heap.size, 0, none⟩ = some u0 := cell_below (w := W12) c1 hb
  replace c2 : W13.cell? ⟨w.heap.size, 1, none⟩ = some u1 := cell_below (w := W12) c2 hb
  replace c3 : W13.cell? ⟨w.heap.size + 1, 0, none⟩ = some v0 := cell_below (w := W12) c3 hb
  replace c4 : W13.cell? ⟨w.heap.size + 1, 1, none⟩ = some v1 := cell_below (w := W12) c4 hb
  replace c5 : W13.cell? ⟨bz, 0, none⟩ = some (.slice Az0 r0.length cz0) := cell_below (w := W12) c5 hb
  replace c6 : W13.cell? ⟨bz, 1, none⟩ = some (.slice Az1 r1.length cz1) := cell_below (w := W12) c6 hb
  replace ZA := Lib.hid (ZA.out.below hb)
  replace ZB := Lib.hid (ZB.out.below hb)
  replace XA := Lib.hid (XA.out.below hb)
  replace XB := Lib.hid (XB.out.below hb)
  replace B := Lib.hid (below_to B.out hb B.out.size)
  replace SZ := Lib.hid (And.intro SZ.out (show W12.heap.size ≤ W13.heap.size from hb.size))
  have hlt : W12.heap.size + 1 ≤ W13.heap.size := by rw [hW]; simp
  replace SZ := Lib.hid (And.intro SZ.out hlt)
  clear hlt
  have c7 : W13.cell? ⟨W12.heap.size, 0, none⟩ = some (.slice Ax0 f0.length cx0) := by rw [hW]; simp
  have c8 : W13.cell? ⟨W12.heap.size, 1, none⟩ = some (.slice Ax1 f1.length cx1) := by rw [hW]; simp
  clear hW hb
  go_wp2_with fail
  refine (toM_any v0 v1 g0 g1 _ (H2.out.below B.out) (H3.out.below B.out) l2 l3).mono ?_
  rintro e W14 ⟨y0, y1, rfl, o0, o1, od, hb⟩
  replace c1 : W14.cell? ⟨w.heap.size, 0, none⟩ = some u0 := cell_below (w := W13) c1 hb
  replace c2 : W14.cell? ⟨w.heap.size, 1, none⟩ = some u1 := cell_below (w := W13) c2 hb
  replace c3 : W14.cell? ⟨w.heap.size + 1, 0, none⟩ = some v0 := cell_below (w := W13) c3 hb
  replace c4 : W14.cell? ⟨w.heap.size + 1, 1, none⟩ = some v1 := cell_below (w := W13) c4 hb
  replace c5 : W14.cell? ⟨bz, 0, none⟩ = some (.slice Az0 r0.length cz0) := cell_below (w := W13) c5 hb
  replace c6 : W14.cell? ⟨bz, 1, none⟩ = some (.slice Az1 r1.length cz1) := cell_below (w := W13) c6 hb
  replace c7 : W14.cell? ⟨W12.heap.size, 0, none⟩ = some (.slice Ax0 f0.length cx0) := cell_below (w := W13) c7 hb
  replace c8 : W14.cell? ⟨W12.heap.size, 1, none⟩ = some (.slice Ax1 f1.length cx1) := cell_below (w := W13) c8 hb
  replace ZA := Lib.hid (ZA.out.below hb)
  replace ZB := Lib.hid (ZB.out.below hb)
  replace XA := Lib.hid (XA.out.below hb)
  replace XB := Lib.hid (XB.out.below hb)
  replace B := Lib.hid (below_to B.out hb B.out.size)
  replace SZ := Lib.hid (And.intro SZ.out (show W13.heap.size ≤ W14.heap.size from hb.size))
  obtain ⟨Ay0, cy0, ey0, _, _⟩ := o0.rd
  obtain ⟨Ay1, cy1, ey1, _, _⟩ := o1.rd
  subst ey0
  subst ey1
  clear hb
  have LYA := Lib.hid (OwI.lies o0)
  have YA := Lib.hid o0
  clear o0
  have LYB := Lib.hid (OwI.lies o1)
  have YB := Lib.hid o1
  clear o1
  have DYA := Lib.hid od
  clear od
  go_upto_region 11 with (fail)
  refine name_wp ?_
  intro W15 hW
  have hb : Below W14.heap.size W14 W15 := by rw [hW]; repeat (first | exact Below.refl _ _ | apply below_alloc | apply below_drew1)
  replace c1 : W15.cell? ⟨w.heap.size, 0, none⟩ = some u0 := cell_below (w := W14) c1 hb
  replace c2 : W15.cell? ⟨w.heap.size, 1, none⟩ = some u1 := cell_below (w := W14) c2 hb
  replace c3 : W15.cell? ⟨w.heap.size + 1, 0, none⟩ = some v0 := cell_below (w := W14) c3 hb
  replace c4 : W15.cell? ⟨w.heap.size + 1, 1, none⟩ = some v1 := cell_below (w := W14) c4 hb
  replace c5 : W15.cell? ⟨bz, 0, none⟩ = some (.slice Az0 r0.length cz0) := cell_below (w := W14) c5 hb
  replace c6 : W15.cell? ⟨bz, 1, none⟩ = some (.slice Az1 r1.length cz1) := cell_below (w := W14) c6 hb
  replace c7 : W15.cell? ⟨W12.heap.size, 0, none⟩ = some (.slice Ax0 f0.length cx0) := cell_below (w := W14) c7 hb
  replace c8 : W15.cell? ⟨W12.heap.size, 1, none⟩ = some (.slice Ax1 f1.length cx1) := cell_below (w := W14) c8 hb
  replace ZA := Lib.hid (ZA.out.below hb)
  replace ZB := Lib.hid (ZB.out.below hb)
  replace XA := Lib.hid (XA.out.below hb)
  replace XB := Lib.hid (XB.out.below hb)
  replace YA := Lib.hid (YA.out.below hb)
  replace YB := Lib.hid (YB.out.below hb)
  replace B := Lib.hid (below_to B.out hb B.out.size)
  replace SZ := Lib.hid (And.intro SZ.out (show W14.heap.size ≤ W15.heap.size from hb.size))
  have hlt : W14.heap.size + 1 ≤ W15.heap.size := by rw [hW]; simp
  replace SZ := Lib.hid (And.intro SZ.out hlt)
  clear hlt
  have c9 : W15.cell? ⟨W14.heap.size, 0, none⟩ = some (.slice Ay0 g0.length cy0) := by rw [hW]; simp
  have c10 : W15.cell? ⟨W14.heap.size, 1, none⟩ = some (.slice Ay1 g1.length cy1) := by rw [hW]; simp
  clear hW hb
  go_wp2_with fail
  refine (implC_any (.slice Ax0 f0.length cx0) (.slice Ax1 f1.length cx1) (.slice Ay0 g0.length cy0) (.slice Ay1 g1.length cy1) f0 f1 g0 g1 r0 r1 rb HR.out _ XA.out.rd XB.out.rd YA.out.rd YB.out.rd l0 l1 l2 l3).mono ?_
  rintro e W16 ⟨g0', g1', rfl, o0, o1, od, hb⟩
  replace c1 : W16.cell? ⟨w.heap.size, 0, none⟩ = some u0 := cell_below (w := W15) c1 hb
  replace c2 : W16.cell? ⟨w.heap.size, 1, none⟩ = some u1 := cell_below (w := W15) c2 hb
  replace c3 : W16.cell? ⟨w.heap.size + 1, 0, none⟩ = some v0 := cell_below (w := W15) c3 hb
  replace c4 : W16.cell? ⟨w.heap.size + 1, 1, none⟩ = some v1 := cell_below (w := W15) c4 hb
  replace c5 : W16.cell? ⟨bz, 0, none⟩ = some (.slice Az0 r0.length cz0) := cell_below (w := W15) c5 hb
  replace c6 : W16.cell? ⟨bz, 1, none⟩ = some (.slice Az1 r1.length cz1) := cell_below (w := W15) c6 hb
  replace c7 : W16.cell? ⟨W12.heap.size, 0, none⟩ = some (.slice Ax0 f0.length cx0) := cell_below (w := W15) c7 hb
  replace c8 : W16.cell? ⟨W12.heap.size, 1, none⟩ = some (.slice Ax1 f1.length cx1) := cell_below (w := W15) c8 hb
  replace c9 : W16.cell? ⟨W14.heap.size, 0, none⟩ = some (.slice Ay0 g0.length cy0) := cell_below (w := W15) c9 hb
  replace c10 : W16.cell? ⟨W14.heap.size, 1, none⟩ = some (.slice Ay1 g1.length cy1) := cell_below (w := W15) c10 hb
  replace ZA := Lib.hid (ZA.out.below hb)
  replace ZB := Lib.hid (ZB.out.below hb)
  replace XA := Lib.hid (XA.out.below hb)
  replace XB := Lib.hid (XB.out.below hb)
  replace YA := Lib.hid (YA.out.below hb)
  replace YB := Lib.hid (YB.out.below hb)
  replace B := Lib.hid (below_to B.out hb B.out.size)
  replace SZ := Lib.hid (And.intro SZ.out (show W15.heap.size ≤ W16.heap.size from hb.size))
  obtain ⟨Ag0, cg0, eg0, _, _⟩ := o0.rd
  obtain ⟨Ag1, cg1, eg1, _, _⟩ := o1.rd
  subst eg0
  subst eg1
  clear hb
  have LGA := Lib.hid (OwI.lies o0)
  have GA := Lib.hid o0
  clear o0
  have LGB := Lib.hid (OwI.lies o1)
  have GB := Lib.hid o1
  clear o1
  have DGA := Lib.hid od
  clear od
  go_upto_region 12 with (fail)
  refine name_wp ?_
  intro W17 hW
  have hb : Below W16.heap.size W16 W17 := by rw [hW]; repeat (first | exact Below.refl _ _ | apply below_alloc | apply below_drew1)
  replace c1 : W17.cell? ⟨w.heap.size, 0, none⟩ = some u0 := cell_below (w := W16) c1 hb
  replace c2 : W17.cell? ⟨w.heap.size, 1, none⟩ = some u1 := cell_below (w := W16) c2 hb
  replace c3 : W17.cell? ⟨w.heap.size + 1, 0, none⟩ = some v0 := cell_below (w := W16) c3 hb
  replace c4 : W17.cell? ⟨w.heap.size + 1, 1, none⟩ = some v1 := cell_below (w := W16) c4 hb
  replace c5 : W17.cell? ⟨bz, 0, none⟩ = some (.slice Az0 r0.length cz0) := cell_below (w := W16) c5 hb
  replace c6 : W17.cell? ⟨bz, 1, none⟩ = some (.slice Az1 r1.length cz1) := cell_below (w := W16) c6 hb
  replace c7 : W17.cell? ⟨W12.heap.size, 0, none⟩ = some (.slice Ax0 f0.length cx0) := cell_below (w := W16) c7 hb
  replace c8 : W17.cell? ⟨W12.heap.size, 1, none⟩ = some (.slice Ax1 f1.length cx1) := cell_below (w := W16) c8 hb
  replace c9 : W17.cell? ⟨W14.heap.size, 0, none⟩ = some (.slice Ay0 g0.length cy0) := cell_below (w := W16) c9 hb
  replace c10 : W17.cell? ⟨W14.heap.size, 1, none⟩ = some (.slice Ay1 g1.length cy1) := cell_below (w := W16) c10 hb
  replace ZA := Lib.hid (ZA.out.below hb)
  replace ZB := Lib.hid (ZB.out.below hb)
  replace XA := Lib.hid (XA.out.below hb)
  replace XB := Lib.hid (XB.out.below hb)
  replace YA := Lib.hid (YA.out.below hb)
  replace YB := Lib.hid (YB.out.below hb)
  replace GA := Lib.hid (GA.out.below hb)
  replace GB := Lib.hid (GB.out.below hb)
  replace B := Lib.hid (below_to B.out hb B.out.size)
  replace SZ := Lib.hid (And.intro SZ.out (show W16.heap.size ≤ W17.heap.size from hb.size))
  have hlt : W16.heap.size + 1 ≤ W17.heap.size := by rw [hW]; simp
  replace SZ := Lib.hid (And.intro SZ.out hlt)
  clear hlt
  have c11 : W17.cell? ⟨W16.heap.size, 0, none⟩ = some (.slice Ag0 r0.length cg0) := by rw [hW]; simp
  have c12 : W17.cell? ⟨W16.heap.size, 1, none⟩ = some (.slice Ag1 r1.length cg1) := by rw [hW]; simp
  clear hW hb
  go_wp2_with fail
  refine (eqM_any (.slice Ag0 r0.length cg0) (.slice Ag1 r1.length cg1) (.slice Az0 r0.length cz0) (.slice Az1 r1.length cz1) r0 r1 _ GA.out.rd GB.out.rd ZA.out.rd ZB.out.rd L0 L1).mono ?_
  rintro e W18 ⟨rfl, hb⟩
  replace c1 : W18.cell? ⟨w.heap.size, 0, none⟩ = some u0 := cell_below (w := W17) c1 hb
  replace c2 : W18.cell? ⟨w.heap.size, 1, none⟩ = some u1 := cell_below (w := W17) c2 hb
  replace c3 : W18.cell? ⟨w.heap.size + 1, 0, none⟩ = some v0 := cell_below (w := W17) c3 hb
  replace c4 : W18.cell? ⟨w.heap.size + 1, 1, none⟩ = some v1 := cell_below (w := W17) c4 hb
  replace c5 : W18.cell? ⟨bz, 0, none⟩ = some (.slice Az0 r0.length cz0) := cell_below (w := W17) c5 hb
  replace c6 : W18.cell? ⟨bz, 1, none⟩ = some (.slice Az1 r1.length cz1) := cell_below (w := W17) c6 hb
  replace c7 : W18.cell? ⟨W12.heap.size, 0, none⟩ = some (.slice Ax0 f0.length cx0) := cell_below (w := W17) c7 hb
  replace c8 : W18.cell? ⟨W12.heap.size, 1, none⟩ = some (.slice Ax1 f1.length cx1) := cell_below (w := W17) c8 hb
  replace c9 : W18.cell? ⟨W14.heap.size, 0, none⟩ = some (.slice Ay0 g0.length cy0) := cell_below (w := W17) c9 hb
  replace c10 : W18.cell? ⟨W14.heap.size, 1, none⟩ = some (.slice Ay1 g1.length cy1) := cell_below (w := W17) c10 hb
  replace c11 : W18.cell? ⟨W16.heap.size, 0, none⟩ = some (.slice Ag0 r0.length cg0) := cell_below (w := W17) c11 hb
  replace c12 : W18.cell? ⟨W16.heap.size, 1, none⟩ = some (.slice Ag1 r1.length cg1) := cell_below (w := W17) c12 hb
  replace ZA := Lib.hid (ZA.out.below hb)
  replace ZB := Lib.hid (ZB.out.below hb)
  replace XA := Lib.hid (XA.out.below hb)
  replace XB := Lib.hid (XB.out.below hb)
  replace YA := Lib.hid (YA.out.below hb)
  replace YB := Lib.hid (YB.out.below hb)
  replace GA := Lib.hid (GA.out.below hb)
  replace GB := Lib.hid (GB.out.below hb)
  replace B := Lib.hid (below_to B.out hb B.out.size)
  replace SZ := Lib.hid (And.intro SZ.out (show W17.heap.size ≤ W18.heap.size from hb.size))
  clear hb
  go_upto_region 14 with (fail)
  refine name_wp ?_
  intro W19 hW
  have hb : Below W18.heap.size W18 W19 := by rw [hW]; repeat (first | exact Below.refl _ _ | apply below_alloc | apply below_drew1)
  replace c1 : W19.cell? ⟨w.heap.size, 0, none⟩ = some u0 := cell_below (w := W18) c1 hb
  replace c2 : W19.cell? ⟨w.heap.size, 1, none⟩ = some u1 := cell_below (w := W18) c2 hb
  replace c3 : W19.cell? ⟨w.heap.size + 1, 0, none⟩ = some v0 := cell_below (w := W18) c3 hb
  replace c4 : W19.cell? ⟨w.heap.size + 1, 1, none⟩ = some v1 := cell_below (w := W18) c4 hb
  replace c5 : W19.cell? ⟨bz, 0, none⟩ = some (.slice Az0 r0.length cz0) := cell_below (w := W18) c5 hb
  replace c6 : W19.cell? ⟨bz, 1, none⟩ = some (.slice Az1 r1.length cz1) := cell_below (w := W18) c6 hb
  replace c7 : W19.cell? ⟨W12.heap.size, 0, none⟩ = some (.slice Ax0 f0.length cx0) := cell_below (w := W18) c7 hb
  replace c8 : W19.cell? ⟨W12.heap.size, 1, none⟩ = some (.slice Ax1 f1.length cx1) := cell_below (w := W18) c8 hb
  replace c9 : W19.cell? ⟨W14.heap.size, 0, none⟩ = some (.slice Ay0 g0.length cy0) := cell_below (w := W18) c9 hb
  replace c10 : W19.cell? ⟨W14.heap.size, 1, none⟩ = some (.slice Ay1 g1.length cy1) := cell_below (w := W18) c10 hb
  replace c11 : W19.cell? ⟨W16.heap.size, 0, none⟩ = some (.slice Ag0 r0.length cg0) := cell_below (w := W18) c11 hb
  replace c12 : W19.cell? ⟨W16.heap.size, 1, none⟩ = some (.slice Ag1 r1.length cg1) := cell_below (w := W18) c12 hb
  replace ZA := Lib.hid (ZA.out.below hb)
  replace ZB := Lib.hid (ZB.out.below hb)
  replace XA := Lib.hid (XA.out.below hb)
  replace XB := Lib.hid (XB.out.below hb)
  replace YA := Lib.hid (YA.out.below hb)
  replace YB := Lib.hid (YB.out.below hb)
  replace GA := Lib.hid (GA.out.below hb)
  replace GB := Lib.hid (GB.out.below hb)
  replace B := Lib.hid (below_to B.out hb B.out.size)
  replace SZ := Lib.hid (And.intro SZ.out (show W18.heap.size ≤ W19.heap.size from hb.size))
  clear hW hb
  go_cut [58] (fun t wx => t = .bool false ∧ Below W19.heap.size W19 wx)
  case first =>
    go_region_held3 (fun w' => w'.cell? ⟨W12.heap.size, 0, none⟩ = some (.slice Ax0 f0.length cx0) ∧ w'.cell? ⟨W12.heap.size, 1, none⟩ = some (.slice Ax1 f1.length cx1) ∧ w'.cell? ⟨w.heap.size, 0, none⟩ = some u0 ∧ w'.cell? ⟨w.heap.size, 1, none⟩ = some u1)
      (exact ⟨cell_below c7 (by repeat (first | exact BW | exact Below.refl _ _ | apply below_alloc | apply below_drew1 | refine below_set ?_ (by omega))), cell_below c8 (by repeat (first | exact BW | exact Below.refl _ _ | apply below_alloc | apply below_drew1 | refine below_set ?_ (by omega))), cell_below c1 (by repeat (first | exact BW | exact Below.refl _ _ | apply below_alloc | apply below_drew1 | refine below_set ?_ (by omega))), cell_below c2 (by repeat (first | exact BW | exact Below.refl _ _ | apply below_alloc | apply below_drew1 | refine below_set ?_ (by omega)))⟩)
      (first
        | (go_at_call 36; refine name_calls ?_; intro W20q hWq; have hq : Below W19.heap.size W19 W20q := (by rw [hWq]; repeat (first | exact Below.refl _ _ | apply below_alloc | apply below_drew1 | apply pw_below_drewN)); have BW : Below W19.heap.size W19 W20q := hq; have zs0 : W19.heap.size ≤ W20q.heap.size := BW.size; clear hWq hq; (with_reducible refine (toM_any u0 u1 f0 f1 _ (H0.out.below (below_to B.out BW B.out.size)) (H1.out.below (below_to B.out BW B.out.size)) l0 l1).mono ?_); rintro e W21 ⟨x0, x1, rfl, o0, o1, od, hb⟩; replace BW : Below W19.heap.size W19 W21 := below_to BW hb BW.size; have BWS : W19.heap.size ≤ W21.heap.size := BW.size; have O0 := Lib.hid o0; have O1 := Lib.hid o1; clear o0 o1 od; clear hb)
        | (go_at_call 38; refine name_calls ?_; intro W22q hWq; have hq : Below W21.heap.size W21 W22q := (by rw [hWq]; repeat (first | exact Below.refl _ _ | apply below_alloc | apply below_drew1 | apply pw_below_drewN)); replace BW : Below W19.heap.size W19 W22q := below_to BW hq BW.size; have zs1 : W19.heap.size ≤ W22q.heap.size := BW.size; replace O0 := Lib.hid (O0.out.below hq); replace O1 := Lib.hid (O1.out.below hq); clear hWq hq; (with_reducible refine (eqM_any (.slice Ax0 f0.length cx0) (.slice Ax1 f1.length cx1) x0 x1 f0 f1 _ (XA.out.below BW).rd (XB.out.below BW).rd O0.out.rd O1.out.rd l0 l1).mono ?_); rintro e W23 ⟨rfl, hb⟩; replace BW : Below W19.heap.size W19 W23 := below_to BW hb BW.size; replace BWS : W19.heap.size ≤ W23.heap.size := BW.size; replace O0 := Lib.hid (O0.out.below hb); replace O1 := Lib.hid (O1.out.below hb); clear hb))
    all_goals go_wp2_with fail
    all_goals go_meet
    all_goals exact ⟨rfl, BW⟩
  case rest =>
  obtain ⟨rfl, hb⟩ := hcut
  obtain ⟨W24, rfl⟩ : ∃ W', W' = wc := ⟨_, rfl⟩
  replace c1 : W24.cell? ⟨w.heap.size, 0, none⟩ = some u0 := cell_below (w := W19) c1 hb
  replace c2 : W24.cell? ⟨w.heap.size, 1, none⟩ = some u1 := cell_below (w := W19) c2 hb
  replace c3 : W24.cell? ⟨w.heap.size + 1, 0, none⟩ = some v0 := cell_below (w := W19) c3 hb
  replace c4 : W24.cell? ⟨w.heap.size + 1, 1, none⟩ = some v1 := cell_below (w := W19) c4 hb
  replace c5 : W24.cell? ⟨bz, 0, none⟩ = some (.slice Az0 r0.length cz0) := cell_below (w := W19) c5 hb
  replace c6 : W24.cell? ⟨bz, 1, none⟩ = some (.slice Az1 r1.length cz1) := cell_below (w := W19) c6 hb
  replace c7 : W24.cell? ⟨W12.heap.size, 0, none⟩ = some (.slice Ax0 f0.length cx0) := cell_below (w := W19) c7 hb
  replace c8 : W24.cell? ⟨W12.heap.size, 1, none⟩ = some (.slice Ax1 f1.length cx1) := cell_below (w := W19) c8 hb
  replace c9 : W24.cell? ⟨W14.heap.size, 0, none⟩ = some (.slice Ay0 g0.length cy0) := cell_below (w := W19) c9 hb
  replace c10 : W24.cell? ⟨W14.heap.size, 1, none⟩ = some (.slice Ay1 g1.length cy1) := cell_below (w := W19) c10 hb
  replace c11 : W24.cell? ⟨W16.heap.size, 0, none⟩ = some (.slice Ag0 r0.length cg0) := cell_below (w := W19) c11 hb
  replace c12 : W24.cell? ⟨W16.heap.size, 1, none⟩ = some (.slice Ag1 r1.length cg1) := cell_below (w := W19) c12 hb
  replace ZA := Lib.hid (ZA.out.below hb)
  replace ZB := Lib.hid (ZB.out.below hb)
  replace XA := Lib.hid (XA.out.below hb)
  replace XB := Lib.hid (XB.out.below hb)
  replace YA := Lib.hid (YA.out.below hb)
  replace YB := Lib.hid (YB.out.below hb)
  replace GA := Lib.hid (GA.out.below hb)
  replace GB := Lib.hid (GB.out.below hb)
  replace B := Lib.hid (below_to B.out hb B.out.size)
  replace SZ := Lib.hid (And.intro SZ.out (show W19.heap.size ≤ W24.heap.size from hb.size))
  clear hb
  go_upto_region 16 with (fail)
  refine name_wp ?_
  intro W25 hW
  have hb : Below W24.heap.size W24 W25 := by rw [hW]; repeat (first | exact Below.refl _ _ | apply below_alloc | apply below_drew1)
  replace c1 : W25.cell? ⟨w.heap.size, 0, none⟩ = some u0 := cell_below (w := W24) c1 hb
  replace c2 : W25.cell? ⟨w.heap.size, 1, none⟩ = some u1 := cell_below (w := W24) c2 hb
  replace c3 : W25.cell? ⟨w.heap.size + 1, 0, none⟩ = some v0 := cell_below (w := W24) c3 hb
  replace c4 : W25.cell? ⟨w.heap.size + 1, 1, none⟩ = some v1 := cell_below (w := W24) c4 hb
  replace c5 : W25.cell? ⟨bz, 0, none⟩ = some (.slice Az0 r0.length cz0) := cell_below (w := W24) c5 hb
  replace c6 : W25.cell? ⟨bz, 1, none⟩ = some (.slice Az1 r1.length cz1) := cell_below (w := W24) c6 hb
  replace c7 : W25.cell? ⟨W12.heap.size, 0, none⟩ = some (.slice Ax0 f0.length cx0) := cell_below (w := W24) c7 hb
  replace c8 : W25.cell? ⟨W12.heap.size, 1, none⟩ = some (.slice Ax1 f1.length cx1) := cell_below (w := W24) c8 hb
  replace c9 : W25.cell? ⟨W14.heap.size, 0, none⟩ = some (.slice Ay0 g0.length cy0) := cell_below (w := W24) c9 hb
  replace c10 : W25.cell? ⟨W14.heap.size, 1, none⟩ = some (.slice Ay1 g1.length cy1) := cell_below (w := W24) c10 hb
  replace c11 : W25.cell? ⟨W16.heap.size, 0, none⟩ = some (.slice Ag0 r0.length cg0) := cell_below (w := W24) c11 hb
  replace c12 : W25.cell? ⟨W16.heap.size, 1, none⟩ = some (.slice Ag1 r1.length cg1) := cell_below (w := W24) c12 hb
  replace ZA := Lib.hid (ZA.out.below hb)
  replace ZB := Lib.hid (ZB.out.below hb)
  replace XA := Lib.hid (XA.out.below hb)
  replace XB := Lib.hid (XB.out.below hb)
  replace YA := Lib.hid (YA.out.below hb)
  replace YB := Lib.hid (YB.out.below hb)
  replace GA := Lib.hid (GA.out.below hb)
  replace GB := Lib.hid (GB.out.below hb)
  replace B := Lib.hid (below_to B.out hb B.out.size)
  replace SZ := Lib.hid (And.intro SZ.out (show W24.heap.size ≤ W25.heap.size from hb.size))
  clear hW hb
  go_cut [63] (fun t wx => t = .bool false ∧ Below W25.heap.size W25 wx)
  case first =>
    go_region_held3 (fun w' => w'.cell? ⟨W14.heap.size, 0, none⟩ = some (.slice Ay0 g0.length cy0) ∧ w'.cell? ⟨W14.heap.size, 1, none⟩ = some (.slice Ay1 g1.length cy1) ∧ w'.cell? ⟨w.heap.size + 1, 0, none⟩ = some v0 ∧ w'.cell? ⟨w.heap.size + 1, 1, none⟩ = some v1)
      (exact ⟨cell_below c9 (by repeat (first | exact BW | exact Below.refl _ _ | apply below_alloc | apply below_drew1 | refine below_set ?_ (by omega))), cell_below c10 (by repeat (first | exact BW | exact Below.refl _ _ | apply below_alloc | apply below_drew1 | refine below_set ?_ (by omega))), cell_below c3 (by repeat (first | exact BW | exact Below.refl _ _ | apply below_alloc | apply below_drew1 | refine below_set ?_ (by omega))), cell_below c4 (by repeat (first | exact BW | exact Below.refl _ _ | apply below_alloc | apply below_drew1 | refine below_set ?_ (by omega)))⟩)
      (first
        | (go_at_call 36; refine name_calls ?_; intro W26q hWq; have hq : Below W25.heap.size W25 W26q := (by rw [hWq]; repeat (first | exact Below.refl _ _ | apply below_alloc | apply below_drew1 | apply pw_below_drewN)); have BW : Below W25.heap.size W25 W26q := hq; have zs0 : W25.heap.size ≤ W26q.heap.size := BW.size; clear hWq hq; (with_reducible refine (toM_any v0 v1 g0 g1 _ (H2.out.below (below_to B.out BW B.out.size)) (H3.out.below (below_to B.out BW B.out.size)) l2 l3).mono ?_); rintro e W27 ⟨x0, x1, rfl, o0, o1, od, hb⟩; replace BW : Below W25.heap.size W25 W27 := below_to BW hb BW.size; have BWS : W25.heap.size ≤ W27.heap.size := BW.size; have O0 := Lib.hid o0; have O1 := Lib.hid o1; clear o0 o1 od; clear hb)
        | (go_at_call 38; refine name_calls ?_; intro W28q hWq; have hq : Below W27.heap.size W27 W28q := (by rw [hWq]; repeat (first | exact Below.refl _ _ | apply below_alloc | apply below_drew1 | apply pw_below_drewN)); replace BW : Below W25.heap.size W25 W28q := below_to BW hq BW.size; have zs1 : W25.heap.size ≤ W28q.heap.size := BW.size; replace O0 := Lib.hid (O0.out.below hq); replace O1 := Lib.hid (O1.out.below hq); clear hWq hq; (with_reducible refine (eqM_any (.slice Ay0 g0.length cy0) (.slice Ay1 g1.length cy1) x0 x1 g0 g1 _ (YA.out.below BW).rd (YB.out.below BW).rd O0.out.rd O1.out.rd l2 l3).mono ?_); rintro e W29 ⟨rfl, hb⟩; replace BW : Below W25.heap.size W25 W29 := below_to BW hb BW.size; replace BWS : W25.heap.size ≤ W29.heap.size := BW.size; replace O0 := Lib.hid (O0.out.below hb); replace O1 := Lib.hid (O1.out.below hb); clear hb))
    all_goals go_wp2_with fail
    all_goals go_meet
    all_goals exact ⟨rfl, BW⟩
  case rest =>
  obtain ⟨rfl, hb⟩ := hcut
  obtain ⟨W30, rfl⟩ : ∃ W', W' = wc := ⟨_, rfl⟩
  replace c1 : W30.cell? ⟨w.heap.size, 0, none⟩ = some u0 := cell_below (w := W25) c1 hb
  replace c2 : W30.cell? ⟨w.heap.size, 1, none⟩ = some u1 := cell_below (w := W25) c2 hb
  replace c3 : W30.cell? ⟨w.heap.size + 1, 0, none⟩ = some v0 := cell_below (w := W25) c3 hb
  replace c4 : W30.cell? ⟨w.heap.size + 1, 1, none⟩ = some v1 := cell_below (w := W25) c4 hb
  replace c5 : W30.cell? ⟨bz, 0, none⟩ = some (.slice Az0 r0.length cz0) := cell_below (w := W25) c5 hb
  replace c6 : W30.cell? ⟨bz, 1, none⟩ = some (.slice Az1 r1.length cz1) := cell_below (w := W25) c6 hb
  replace c7 : W30.cell? ⟨W12.heap.size, 0, none⟩ = some (.slice Ax0 f0.length cx0) := cell_below (w := W25) c7 hb
  replace c8 : W30.cell? ⟨W12.heap.size, 1, none⟩ = some (.slice Ax1 f1.length cx1) := cell_below (w := W25) c8 hb
  replace c9 : W30.cell? ⟨W14.heap.size, 0, none⟩ = some (.slice Ay0 g0.length cy0) := cell_below (w := W25) c9 hb
  replace c10 : W30.cell? ⟨W14.heap.size, 1, none⟩ = some (.slice Ay1 g1.length cy1) := cell_below (w := W25) c10 hb
  replace c11 : W30.cell? ⟨W16.heap.size, 0, none⟩ = some (.slice Ag0 r0.length cg0) := cell_below (w := W25) c11 hb
  replace c12 : W30.cell? ⟨W16.heap.size, 1, none⟩ = some (.slice Ag1 r1.length cg1) := cell_below (w := W25) c12 hb
  replace ZA := Lib.hid (ZA.out.below hb)
  replace ZB := Lib.hid (ZB.out.below hb)
  replace XA := Lib.hid (XA.out.below hb)
  replace XB := Lib.hid (XB.out.below hb)
  replace YA := Lib.hid (YA.out.below hb)
  replace YB := Lib.hid (YB.out.below hb)
  replace GA := Lib.hid (GA.out.below hb)
  replace GB := Lib.hid (GB.out.below hb)
  replace B := Lib.hid (below_to B.out hb B.out.size)
  replace SZ := Lib.hid (And.intro SZ.out (show W25.heap.size ≤ W30.heap.size from hb.size))
  clear hb
  go_wp2_with fail
  refine (markM_any (.slice Ax0 f0.length cx0) (.slice Ax1 f1.length cx1) f0 f1 1 w _ B.out (XA.out.lower (by have z_ := SZ.out; omega)) (XB.out.lower (by have z_ := SZ.out; omega)) DXA.out (by omega) (by omega) l0 l1).mono ?_
  rintro e W31 ⟨rfl, o0, o1, hb, hk⟩
  clear c7 c8
  replace c1 : W31.cell? ⟨w.heap.size, 0, none⟩ = some u0 := cell_kept (w := W30) c1 hk (not_or' (lies_off (b := w.heap.size) LXA.out (by have z_ := SZ.out; omega)) (lies_off (b := w.heap.size) LXB.out (by have z_ := SZ.out; omega)))
  replace c2 : W31.cell? ⟨w.heap.size, 1, none⟩ = some u1 := cell_kept (w := W30) c2 hk (not_or' (lies_off (b := w.heap.size) LXA.out (by have z_ := SZ.out; omega)) (lies_off (b := w.heap.size) LXB.out (by have z_ := SZ.out; omega)))
  replace c3 : W31.cell? ⟨w.heap.size + 1, 0, none⟩ = some v0 := cell_kept (w := W30) c3 hk (not_or' (lies_off (b := w.heap.size + 1) LXA.out (by have z_ := SZ.out; omega)) (lies_off (b := w.heap.size + 1) LXB.out (by have z_ := SZ.out; omega)))
  replace c4 : W31.cell? ⟨w.heap.size + 1, 1, none⟩ = some v1 := cell_kept (w := W30) c4 hk (not_or' (lies_off (b := w.heap.size + 1) LXA.out (by have z_ := SZ.out; omega)) (lies_off (b := w.heap.size + 1) LXB.out (by have z_ := SZ.out; omega)))
  replace c5 : W31.cell? ⟨bz, 0, none⟩ = some (.slice Az0 r0.length cz0) := cell_kept (w := W30) c5 hk (not_or' (lies_off (b := bz) LXA.out (by have z_ := SZ.out; omega)) (lies_off (b := bz) LXB.out (by have z_ := SZ.out; omega)))
  replace c6 : W31.cell? ⟨bz, 1, none⟩ = some (.slice Az1 r1.length cz1) := cell_kept (w := W30) c6 hk (not_or' (lies_off (b := bz) LXA.out (by have z_ := SZ.out; omega)) (lies_off (b := bz) LXB.out (by have z_ := SZ.out; omega)))
  replace c9 : W31.cell? ⟨W14.heap.size, 0, none⟩ = some (.slice Ay0 g0.length cy0) := cell_kept (w := W30) c9 hk (not_or' (lies_off (b := W14.heap.size) LXA.out (by have z_ := SZ.out; omega)) (lies_off (b := W14.heap.size) LXB.out (by have z_ := SZ.out; omega)))
  replace c10 : W31.cell? ⟨W14.heap.size, 1, none⟩ = some (.slice Ay1 g1.length cy1) := cell_kept (w := W30) c10 hk (not_or' (lies_off (b := W14.heap.size) LXA.out (by have z_ := SZ.out; omega)) (lies_off (b := W14.heap.size) LXB.out (by have z_ := SZ.out; omega)))
  replace c11 : W31.cell? ⟨W16.heap.size, 0, none⟩ = some (.slice Ag0 r0.length cg0) := cell_kept (w := W30) c11 hk (not_or' (lies_off (b := W16.heap.size) LXA.out (by have z_ := SZ.out; omega)) (lies_off (b := W16.heap.size) LXB.out (by have z_ := SZ.out; omega)))
  replace c12 : W31.cell? ⟨W16.heap.size, 1, none⟩ = some (.slice Ag1 r1.length cg1) := cell_kept (w := W30) c12 hk (not_or' (lies_off (b := W16.heap.size) LXA.out (by have z_ := SZ.out; omega)) (lies_off (b := W16.heap.size) LXB.out (by have z_ := SZ.out; omega)))
  replace ZA := Lib.hid (ZA.out.step (fun k_ h_ hlt => hk.2 k_ hlt (not_or' (lies_apart LZA.out LXA.out (by have z_ := SZ.out; omega) k_ h_) (lies_apart LZA.out LXB.out (by have z_ := SZ.out; omega) k_ h_))))
  replace ZB := Lib.hid (ZB.out.step (fun k_ h_ hlt => hk.2 k_ hlt (not_or' (lies_apart LZB.out LXA.out (by have z_ := SZ.out; omega) k_ h_) (lies_apart LZB.out LXB.out (by have z_ := SZ.out; omega) k_ h_))))
  replace YA := Lib.hid (YA.out.step (fun k_ h_ hlt => hk.2 k_ hlt (not_or' (lies_apart LYA.out LXA.out (by have z_ := SZ.out; omega) k_ h_) (lies_apart LYA.out LXB.out (by have z_ := SZ.out; omega) k_ h_))))
  replace YB := Lib.hid (YB.out.step (fun k_ h_ hlt => hk.2 k_ hlt (not_or' (lies_apart LYB.out LXA.out (by have z_ := SZ.out; omega) k_ h_) (lies_apart LYB.out LXB.out (by have z_ := SZ.out; omega) k_ h_))))
  replace GA := Lib.hid (GA.out.step (fun k_ h_ hlt => hk.2 k_ hlt (not_or' (lies_apart LGA.out LXA.out (by have z_ := SZ.out; omega) k_ h_) (lies_apart LGA.out LXB.out (by have z_ := SZ.out; omega) k_ h_))))
  replace GB := Lib.hid (GB.out.step (fun k_ h_ hlt => hk.2 k_ hlt (not_or' (lies_apart LGB.out LXA.out (by have z_ := SZ.out; omega) k_ h_) (lies_apart LGB.out LXB.out (by have z_ := SZ.out; omega) k_ h_))))
  replace B := Lib.hid hb
  replace SZ := Lib.hid (And.intro SZ.out (show W30.heap.size ≤ W31.heap.size from hk.1))
  clear XA XB
  clear o0 o1 hb hk
  go_wp2_with fail
  refine (markM_any (.slice Ay0 g0.length cy0) (.slice Ay1 g1.length cy1) g0 g1 (1 + f0.length + f1.length) w _ B.out (YA.out.lower (by have z_ := SZ.out; omega)) (YB.out.lower (by have z_ := SZ.out; omega)) DYA.out (by omega) (by omega) l2 l3).mono ?_
  rintro e W32 ⟨rfl, o0, o1, hb, hk⟩
  clear c9 c10
  replace c1 : W32.cell? ⟨w.heap.size, 0, none⟩ = some u0 := cell_kept (w := W31) c1 hk (not_or' (lies_off (b := w.heap.size) LYA.out (by have z_ := SZ.out; omega)) (lies_off (b := w.heap.size) LYB.out (by have z_ := SZ.out; omega)))
  replace c2 : W32.cell? ⟨w.heap.size, 1, none⟩ = some u1 := cell_kept (w := W31) c2 hk (not_or' (lies_off (b := w.heap.size) LYA.out (by have z_ := SZ.out; omega)) (lies_off (b := w.heap.size) LYB.out (by have z_ := SZ.out; omega)))
  replace c3 : W32.cell? ⟨w.heap.size + 1, 0, none⟩ = some v0 := cell_kept (w := W31) c3 hk (not_or' (lies_off (b := w.heap.size + 1) LYA.out (by have z_ := SZ.out; omega)) (lies_off (b := w.heap.size + 1) LYB.out (by have z_ := SZ.out; omega)))
  replace c4 : W32.cell? ⟨w.heap.size + 1, 1, none⟩ = some v1 := cell_kept (w := W31) c4 hk (not_or' (lies_off (b := w.heap.size + 1) LYA.out (by have z_ := SZ.out; omega)) (lies_off (b := w.heap.size + 1) LYB.out (by have z_ := SZ.out; omega)))
  replace c5 : W32.cell? ⟨bz, 0, none⟩ = some (.slice Az0 r0.length cz0) := cell_kept (w := W31) c5 hk (not_or' (lies_off (b := bz) LYA.out (by have z_ := SZ.out; omega)) (lies_off (b := bz) LYB.out (by have z_ := SZ.out; omega)))
  replace c6 : W32.cell? ⟨bz, 1, none⟩ = some (.slice Az1 r1.length cz1) := cell_kept (w := W31) c6 hk (not_or' (lies_off (b := bz) LYA.out (by have z_ := SZ.out; omega)) (lies_off (b := bz) LYB.out (by have z_ := SZ.out; omega)))
  replace c11 : W32.cell? ⟨W16.heap.size, 0, none⟩ = some (.slice Ag0 r0.length cg0) := cell_kept (w := W31) c11 hk (not_or' (lies_off (b := W16.heap.size) LYA.out (by have z_ := SZ.out; omega)) (lies_off (b := W16.heap.size) LYB.out (by have z_ := SZ.out; omega)))
  replace c12 : W32.cell? ⟨W16.heap.size, 1, none⟩ = some (.slice Ag1 r1.length cg1) := cell_kept (w := W31) c12 hk (not_or' (lies_off (b := W16.heap.size) LYA.out (by have z_ := SZ.out; omega)) (lies_off (b := W16.heap.size) LYB.out (by have z_ := SZ.out; omega)))
  replace ZA := Lib.hid (ZA.out.step (fun k_ h_ hlt => hk.2 k_ hlt (not_or' (lies_apart LZA.out LYA.out (by have z_ := SZ.out; omega) k_ h_) (lies_apart LZA.out LYB.out (by have z_ := SZ.out; omega) k_ h_))))
  replace ZB := Lib.hid (ZB.out.step (fun k_ h_ hlt => hk.2 k_ hlt (not_or' (lies_apart LZB.out LYA.out (by have z_ := SZ.out; omega) k_ h_) (lies_apart LZB.out LYB.out (by have z_ := SZ.out; omega) k_ h_))))
  replace GA := Lib.hid (GA.out.step (fun k_ h_ hlt => hk.2 k_ hlt (not_or' (lies_apart LGA.out LYA.out (by have z_ := SZ.out; omega) k_ h_) (lies_apart LGA.out LYB.out (by have z_ := SZ.out; omega) k_ h_))))
  replace GB := Lib.hid (GB.out.step (fun k_ h_ hlt => hk.2 k_ hlt (not_or' (lies_apart LGB.out LYA.out (by have z_ := SZ.out; omega) k_ h_) (lies_apart LGB.out LYB.out (by have z_ := SZ.out; omega) k_ h_))))
  replace B := Lib.hid hb
  replace SZ := Lib.hid (And.intro SZ.out (show W31.heap.size ≤ W32.heap.size from hk.1))
  clear YA YB
  clear o0 o1 hb hk
  go_wp2_with fail
  refine (eqM_any (.slice Ag0 r0.length cg0) (.slice Ag1 r1.length cg1) (.slice Az0 r0.length cz0) (.slice Az1 r1.length cz1) r0 r1 _ GA.out.rd GB.out.rd ZA.out.rd ZB.out.rd L0 L1).mono ?_
  rintro e W33 ⟨rfl, hb⟩
  replace c1 : W33.cell? ⟨w.heap.size, 0, none⟩ = some u0 := cell_below (w := W32) c1 hb
  replace c2 : W33.cell? ⟨w.heap.size, 1, none⟩ = some u1 := cell_below (w := W32) c2 hb
  replace c3 : W33.cell? ⟨w.heap.size + 1, 0, none⟩ = some v0 := cell_below (w := W32) c3 hb
  replace c4 : W33.cell? ⟨w.heap.size + 1, 1, none⟩ = some v1 := cell_below (w := W32) c4 hb
  replace c5 : W33.cell? ⟨bz, 0, none⟩ = some (.slice Az0 r0.length cz0) := cell_below (w := W32) c5 hb
  replace c6 : W33.cell? ⟨bz, 1, none⟩ = some (.slice Az1 r1.length cz1) := cell_below (w := W32) c6 hb
  replace c11 : W33.cell? ⟨W16.heap.size, 0, none⟩ = some (.slice Ag0 r0.length cg0) := cell_below (w := W32) c11 hb
  replace c12 : W33.cell? ⟨W16.heap.size, 1, none⟩ = some (.slice Ag1 r1.length cg1) := cell_below (w := W32) c12 hb
  replace ZA := Lib.hid (ZA.out.below hb)
  replace ZB := Lib.hid (ZB.out.below hb)
  replace GA := Lib.hid (GA.out.below hb)
  replace GB := Lib.hid (GB.out.below hb)
  replace B := Lib.hid (below_to B.out hb B.out.size)
  replace SZ := Lib.hid (And.intro SZ.out (show W32.heap.size ≤ W33.heap.size from hb.size))
  clear hb
  go_wp2_with fail
  refine (markM_any (.slice Ag0 r0.length cg0) (.slice Ag1 r1.length cg1) r0 r1 1 w _ B.out (GA.out.lower (by have z_ := SZ.out; omega)) (GB.out.lower (by have z_ := SZ.out; omega)) DGA.out (by omega) (by omega) L0 L1).mono ?_
  rintro e W34 ⟨rfl, o0, o1, hb, hk⟩
  replace c1 : W34.cell? ⟨w.heap.size, 0, none⟩ = some u0 := cell_kept (w := W33) c1 hk (not_or' (lies_off (b := w.heap.size) LGA.out (by have z_ := SZ.out; omega)) (lies_off (b := w.heap.size) LGB.out (by have z_ := SZ.out; omega)))
  replace c2 : W34.cell? ⟨w.heap.size, 1, none⟩ = some u1 := cell_kept (w := W33) c2 hk (not_or' (lies_off (b := w.heap.size) LGA.out (by have z_ := SZ.out; omega)) (lies_off (b := w.heap.size) LGB.out (by have z_ := SZ.out; omega)))
  replace c3 : W34.cell? ⟨w.heap.size + 1, 0, none⟩ = some v0 := cell_kept (w := W33) c3 hk (not_or' (lies_off (b := w.heap.size + 1) LGA.out (by have z_ := SZ.out; omega)) (lies_off (b := w.heap.size + 1) LGB.out (by have z_ := SZ.out; omega)))
  replace c4 : W34.cell? ⟨w.heap.size + 1, 1, none⟩ = some v1 := cell_kept (w := W33) c4 hk (not_or' (lies_off (b := w.heap.size + 1) LGA.out (by have z_ := SZ.out; omega)) (lies_off (b := w.heap.size + 1) LGB.out (by have z_ := SZ.out; omega)))
  replace c5 : W34.cell? ⟨bz, 0, none⟩ = some (.slice Az0 r0.length cz0) := cell_kept (w := W33) c5 hk (not_or' (lies_off (b := bz) LGA.out (by have z_ := SZ.out; omega)) (lies_off (b := bz) LGB.out (by have z_ := SZ.out; omega)))
  replace c6 : W34.cell? ⟨bz, 1, none⟩ = some (.slice Az1 r1.length cz1) := cell_kept (w := W33) c6 hk (not_or' (lies_off (b := bz) LGA.out (by have z_ := SZ.out; omega)) (lies_off (b := bz) LGB.out (by have z_ := SZ.out; omega)))
  replace c11 : W34.cell? ⟨W16.heap.size, 0, none⟩ = some (.slice Ag0 r0.length cg0) := cell_kept (w := W33) c11 hk (not_or' (lies_off (b := W16.heap.size) LGA.out (by have z_ := SZ.out; omega)) (lies_off (b := W16.heap.size) LGB.out (by have z_ := SZ.out; omega)))
  replace c12 : W34.cell? ⟨W16.heap.size, 1, none⟩ = some (.slice Ag1 r1.length cg1) := cell_kept (w := W33) c12 hk (not_or' (lies_off (b := W16.heap.size) LGA.out (by have z_ := SZ.out; omega)) (lies_off (b := W16.heap.size) LGB.out (by have z_ := SZ.out; omega)))
  replace ZA := Lib.hid (ZA.out.step (fun k_ h_ hlt => hk.2 k_ hlt (not_or' (lies_apart LZA.out LGA.out (by have z_ := SZ.out; omega) k_ h_) (lies_apart LZA.out LGB.out (by have z_ := SZ.out; omega) k_ h_))))
  replace ZB := Lib.hid (ZB.out.step (fun k_ h_ hlt => hk.2 k_ hlt (not_or' (lies_apart LZB.out LGA.out (by have z_ := SZ.out; omega) k_ h_) (lies_apart LZB.out LGB.out (by have z_ := SZ.out; omega) k_ h_))))
  replace B := Lib.hid hb
  replace SZ := Lib.hid (And.intro SZ.out (show W33.heap.size ≤ W34.heap.size from hk.1))
  replace GA := Lib.hid o0
  replace GB := Lib.hid o1
  clear o0 o1 hb hk
  go_wp2_with fail
  refine (heldM_any (.slice Ag0 r0.length cg0) (.slice Ag1 r1.length cg1) r0.length r1.length 1 _ GA.out.rd GB.out.rd (by omega) (by omega) L0 L1).mono ?_
  rintro e W35 ⟨rfl, hb⟩
  replace c1 : W35.cell? ⟨w.heap.size, 0, none⟩ = some u0 := cell_below (w := W34) c1 hb
  replace c2 : W35.cell? ⟨w.heap.size, 1, none⟩ = some u1 := cell_below (w := W34) c2 hb
  replace c3 : W35.cell? ⟨w.heap.size + 1, 0, none⟩ = some v0 := cell_below (w := W34) c3 hb
  replace c4 : W35.cell? ⟨w.heap.size + 1, 1, none⟩ = some v1 := cell_below (w := W34) c4 hb
  replace c5 : W35.cell? ⟨bz, 0, none⟩ = some (.slice Az0 r0.length cz0) := cell_below (w := W34) c5 hb
  replace c6 : W35.cell? ⟨bz, 1, none⟩ = some (.slice Az1 r1.length cz1) := cell_below (w := W34) c6 hb
  replace c11 : W35.cell? ⟨W16.heap.size, 0, none⟩ = some (.slice Ag0 r0.length cg0) := cell_below (w := W34) c11 hb
  replace c12 : W35.cell? ⟨W16.heap.size, 1, none⟩ = some (.slice Ag1 r1.length cg1) := cell_below (w := W34) c12 hb
  replace ZA := Lib.hid (ZA.out.below hb)
  replace ZB := Lib.hid (ZB.out.below hb)
  replace GA := Lib.hid (GA.out.below hb)
  replace GB := Lib.hid (GB.out.below hb)
  replace B := Lib.hid (below_to B.out hb B.out.size)
  replace SZ := Lib.hid (And.intro SZ.out (show W34.heap.size ≤ W35.heap.size from hb.size))
  clear hb
  go_upto_region 31 with (fail)
  refine name_wp ?_
  intro W36 hW
  have hb : Below W35.heap.size W35 W36 := by rw [hW]; repeat (first | exact Below.refl _ _ | apply below_alloc | apply below_drew1)
  replace c1 : W36.cell? ⟨w.heap.size, 0, none⟩ = some u0 := cell_below (w := W35) c1 hb
  replace c2 : W36.cell? ⟨w.heap.size, 1, none⟩ = some u1 := cell_below (w := W35) c2 hb
  replace c3 : W36.cell? ⟨w.heap.size + 1, 0, none⟩ = some v0 := cell_below (w := W35) c3 hb
  replace c4 : W36.cell? ⟨w.heap.size + 1, 1, none⟩ = some v1 := cell_below (w := W35) c4 hb
  replace c5 : W36.cell? ⟨bz, 0, none⟩ = some (.slice Az0 r0.length cz0) := cell_below (w := W35) c5 hb
  replace c6 : W36.cell? ⟨bz, 1, none⟩ = some (.slice Az1 r1.length cz1) := cell_below (w := W35) c6 hb
  replace c11 : W36.cell? ⟨W16.heap.size, 0, none⟩ = some (.slice Ag0 r0.length cg0) := cell_below (w := W35) c11 hb
  replace c12 : W36.cell? ⟨W16.heap.size, 1, none⟩ = some (.slice Ag1 r1.length cg1) := cell_below (w := W35) c12 hb
  replace ZA := Lib.hid (ZA.out.below hb)
  replace ZB := Lib.hid (ZB.out.below hb)
  replace GA := Lib.hid (GA.out.below hb)
  replace GB := Lib.hid (GB.out.below hb)
  replace B := Lib.hid (below_to B.out hb B.out.size)
  replace SZ := Lib.hid (And.intro SZ.out (show W35.heap.size ≤ W36.heap.size from hb.size))
  clear hW hb
  go_cut [15, 16] (fun s t wx => t = .bool rb ∧ GotM W36 wx s r0 r1)
  case first =>
    go_region_held3 (fun w' => w'.cell? ⟨w.heap.size, 0, none⟩ = some u0 ∧ w'.cell? ⟨w.heap.size, 1, none⟩ = some u1 ∧ w'.cell? ⟨w.heap.size + 1, 0, none⟩ = some v0 ∧ w'.cell? ⟨w.heap.size + 1, 1, none⟩ = some v1)
      (exact ⟨cell_below c1 (by repeat (first | exact BW | exact Below.refl _ _ | apply below_alloc | apply below_drew1 | refine below_set ?_ (by omega))), cell_below c2 (by repeat (first | exact BW | exact Below.refl _ _ | apply below_alloc | apply below_drew1 | refine below_set ?_ (by omega))), cell_below c3 (by repeat (first | exact BW | exact Below.refl _ _ | apply below_alloc | apply below_drew1 | refine below_set ?_ (by omega))), cell_below c4 (by repeat (first | exact BW | exact Below.refl _ _ | apply below_alloc | apply below_drew1 | refine below_set ?_ (by omega)))⟩)
      (first
        | (go_at_call 36; refine name_calls ?_; intro W37q hWq; have hq : Below W36.heap.size W36 W37q := (by rw [hWq]; repeat (first | exact Below.refl _ _ | apply below_alloc | apply below_drew1 | apply pw_below_drewN)); have BW : Below W36.heap.size W36 W37q := hq; have zs0 : W36.heap.size ≤ W36.heap.size := (by first | exact Nat.le_refl _ | exact BWS); (first | have e0_ := laid_cell hWq (j := 0) (v := .slice none 0 0) rfl | have e0_ := laid_cell' hWq (j := 0) (v := .slice none 0 0) rfl | skip); (first | have f0_ := laid_free hWq 0 | have f0_ := laid_free' hWq 0 | skip); (first | have e1_ := laid_cell hWq (j := 1) (v := .slice none 0 0) rfl | have e1_ := laid_cell' hWq (j := 1) (v := .slice none 0 0) rfl | skip); (first | have f1_ := laid_free hWq 1 | have f1_ := laid_free' hWq 1 | skip); clear hWq hq; (with_reducible refine (toM_any u0 u1 f0 f1 _ (H0.out.below (below_to B.out BW B.out.size)) (H1.out.below (below_to B.out BW B.out.size)) l0 l1).mono ?_); rintro e W38 ⟨x0, x1, rfl, o0, o1, od, hb⟩; replace BW : Below W36.heap.size W36 W38 := below_to BW hb BW.size; have BWS : W36.heap.size ≤ W38.heap.size := BW.size; (try replace f0_ := (hb.frozen (cell_lt e0_)).trans f0_); (try replace e0_ := cell_below e0_ hb); (try replace f1_ := (hb.frozen (cell_lt e1_)).trans f1_); (try replace e1_ := cell_below e1_ hb); have O0 := Lib.hid o0; have O1 := Lib.hid o1; clear o0 o1 od; clear hb)
        | (go_at_call 36; refine name_calls ?_; intro W39q hWq; have hq : Below W38.heap.size W38 W39q := (by rw [hWq]; repeat (first | exact Below.refl _ _ | apply below_alloc | apply below_drew1 | apply pw_below_drewN)); replace BW : Below W36.heap.size W36 W39q := below_to BW hq BW.size; have zs1 : W36.heap.size ≤ W38.heap.size := (by first | exact Nat.le_refl _ | exact BWS); replace O0 := Lib.hid (O0.out.below hq); replace O1 := Lib.hid (O1.out.below hq); (try replace f0_ := (hq.frozen (cell_lt e0_)).trans f0_); (try replace e0_ := cell_below e0_ hq); (first | have e0_ := laid_cell hWq (j := 0) (v := .slice none 0 0) rfl | have e0_ := laid_cell' hWq (j := 0) (v := .slice none 0 0) rfl | skip); (first | have f0_ := laid_free hWq 0 | have f0_ := laid_free' hWq 0 | skip); (try replace f1_ := (hq.frozen (cell_lt e1_)).trans f1_); (try replace e1_ := cell_below e1_ hq); (first | have e1_ := laid_cell hWq (j := 1) (v := .slice none 0 0) rfl | have e1_ := laid_cell' hWq (j := 1) (v := .slice none 0 0) rfl | skip); (first | have f1_ := laid_free hWq 1 | have f1_ := laid_free' hWq 1 | skip); clear hWq hq; (with_reducible refine (toM_any v0 v1 g0 g1 _ (H2.out.below (below_to B.out BW B.out.size)) (H3.out.below (below_to B.out BW B.out.size)) l2 l3).mono ?_); rintro e W40 ⟨y0, y1, rfl, o0, o1, od, hb⟩; replace BW : Below W36.heap.size W36 W40 := below_to BW hb BW.size; replace BWS : W36.heap.size ≤ W40.heap.size := BW.size; replace O0 := Lib.hid (O0.out.below hb); replace O1 := Lib.hid (O1.out.below hb); (try replace f0_ := (hb.frozen (cell_lt e0_)).trans f0_); (try replace e0_ := cell_below e0_ hb); (try replace f1_ := (hb.frozen (cell_lt e1_)).trans f1_); (try replace e1_ := cell_below e1_ hb); have O2 := Lib.hid o0; have O3 := Lib.hid o1; clear o0 o1 od; clear hb)
        | (go_at_call 37; refine name_calls ?_; intro W41q hWq; have hq : Below W40.heap.size W40 W41q := (by rw [hWq]; repeat (first | exact Below.refl _ _ | apply below_alloc | apply below_drew1 | apply pw_below_drewN)); replace BW : Below W36.heap.size W36 W41q := below_to BW hq BW.size; have zs2 : W36.heap.size ≤ W40.heap.size := (by first | exact Nat.le_refl _ | exact BWS); replace O0 := Lib.hid (O0.out.below hq); replace O1 := Lib.hid (O1.out.below hq); replace O2 := Lib.hid (O2.out.below hq); replace O3 := Lib.hid (O3.out.below hq); (try replace f0_ := (hq.frozen (cell_lt e0_)).trans f0_); (try replace e0_ := cell_below e0_ hq); (first | have e0_ := laid_cell hWq (j := 0) (v := .slice none 0 0) rfl | have e0_ := laid_cell' hWq (j := 0) (v := .slice none 0 0) rfl | skip); (first | have f0_ := laid_free hWq 0 | have f0_ := laid_free' hWq 0 | skip); (try replace f1_ := (hq.frozen (cell_lt e1_)).trans f1_); (try replace e1_ := cell_below e1_ hq); (first | have e1_ := laid_cell hWq (j := 1) (v := .slice none 0 0) rfl | have e1_ := laid_cell' hWq (j := 1) (v := .slice none 0 0) rfl | skip); (first | have f1_ := laid_free hWq 1 | have f1_ := laid_free' hWq 1 | skip); (first | have bl_ := cell_lt e0_ | skip); have hq0 : W36.heap.size ≤ W41q.heap.size := BW.size; clear hWq hq; (with_reducible refine (implC_any x0 x1 y0 y1 f0 f1 g0 g1 r0 r1 rb HR.out _ O0.out.rd O1.out.rd O2.out.rd O3.out.rd l0 l1 l2 l3).mono ?_); rintro e W42 ⟨z0, z1, rfl, p0, p1, pd, hb⟩; replace BW : Below W36.heap.size W36 W42 := below_to BW hb BW.size; replace BWS : W36.heap.size ≤ W42.heap.size := BW.size; replace O0 := Lib.hid (O0.out.below hb); replace O1 := Lib.hid (O1.out.below hb); replace O2 := Lib.hid (O2.out.below hb); replace O3 := Lib.hid (O3.out.below hb); (try replace f0_ := (hb.frozen (cell_lt e0_)).trans f0_); (try replace e0_ := cell_below e0_ hb); (try replace f1_ := (hb.frozen (cell_lt e1_)).trans f1_); (try replace e1_ := cell_below e1_ hb); obtain ⟨Az0, cz0, ez0, _, _⟩ := p0.rd; obtain ⟨Az1, cz1, ez1, _, _⟩ := p1.rd; subst ez0; subst ez1; have Z0 := Lib.hid p0; have Z1 := Lib.hid p1; have ZD := Lib.hid pd; clear p0 p1 pd O0 O1 O2 O3; clear hb))
    all_goals go_wp2_with fail
    all_goals go_meet
    all_goals first | exact ⟨rfl, GotM.laid BW Z0.out Z1.out ZD.out hq0⟩ | exact ⟨rfl, GotM.put BW Z0.out Z1.out ZD.out hq0 e0_ e1_ bl_ (by omega)⟩
  case rest =>
  obtain ⟨rfl, bh, Ah0, ch0, Ah1, ch1, rfl, hbox, c13, c14, o0, o1, od, on0, on1, hb⟩ := hcut
  obtain ⟨W43, rfl⟩ : ∃ W', W' = wc := ⟨_, rfl⟩
  replace c1 : W43.cell? ⟨w.heap.size, 0, none⟩ = some u0 := cell_below (w := W36) c1 hb
  replace c2 : W43.cell? ⟨w.heap.size, 1, none⟩ = some u1 := cell_below (w := W36) c2 hb
  replace c3 : W43.cell? ⟨w.heap.size + 1, 0, none⟩ = some v0 := cell_below (w := W36) c3 hb
  replace c4 : W43.cell? ⟨w.heap.size + 1, 1, none⟩ = some v1 := cell_below (w := W36) c4 hb
  replace c5 : W43.cell? ⟨bz, 0, none⟩ = some (.slice Az0 r0.length cz0) := cell_below (w := W36) c5 hb
  replace c6 : W43.cell? ⟨bz, 1, none⟩ = some (.slice Az1 r1.length cz1) := cell_below (w := W36) c6 hb
  replace c11 : W43.cell? ⟨W16.heap.size, 0, none⟩ = some (.slice Ag0 r0.length cg0) := cell_below (w := W36) c11 hb
  replace c12 : W43.cell? ⟨W16.heap.size, 1, none⟩ = some (.slice Ag1 r1.length cg1) := cell_below (w := W36) c12 hb
  replace ZA := Lib.hid (ZA.out.below hb)
  replace ZB := Lib.hid (ZB.out.below hb)
  replace GA := Lib.hid (GA.out.below hb)
  replace GB := Lib.hid (GB.out.below hb)
  replace B := Lib.hid (below_to B.out hb B.out.size)
  replace SZ := Lib.hid (And.intro SZ.out (show W36.heap.size ≤ W43.heap.size from hb.size))
  replace SZ := Lib.hid (And.intro SZ.out (And.intro hbox (cell_lt c13)))
  have LHA := Lib.hid (OwI.lies o0)
  have HA := Lib.hid o0
  clear o0
  have LHB := Lib.hid (OwI.lies o1)
  have HB := Lib.hid o1
  clear o1
  have DHA := Lib.hid od
  have NHA := Lib.hid (And.intro on0 on1)
  clear od on0 on1 hbox hb
  go_wp2_with fail
  refine (eqM_any (.slice Ah0 r0.length ch0) (.slice Ah1 r1.length ch1) (.slice Az0 r0.length cz0) (.slice Az1 r1.length cz1) r0 r1 _ HA.out.rd HB.out.rd ZA.out.rd ZB.out.rd L0 L1).mono ?_
  rintro e W44 ⟨rfl, hb⟩
  replace c1 : W44.cell? ⟨w.heap.size, 0, none⟩ = some u0 := cell_below (w := W43) c1 hb
  replace c2 : W44.cell? ⟨w.heap.size, 1, none⟩ = some u1 := cell_below (w := W43) c2 hb
  replace c3 : W44.cell? ⟨w.heap.size + 1, 0, none⟩ = some v0 := cell_below (w := W43) c3 hb
  replace c4 : W44.cell? ⟨w.heap.size + 1, 1, none⟩ = some v1 := cell_below (w := W43) c4 hb
  replace c5 : W44.cell? ⟨bz, 0, none⟩ = some (.slice Az0 r0.length cz0) := cell_below (w := W43) c5 hb
  replace c6 : W44.cell? ⟨bz, 1, none⟩ = some (.slice Az1 r1.length cz1) := cell_below (w := W43) c6 hb
  replace c11 : W44.cell? ⟨W16.heap.size, 0, none⟩ = some (.slice Ag0 r0.length cg0) := cell_below (w := W43) c11 hb
  replace c12 : W44.cell? ⟨W16.heap.size, 1, none⟩ = some (.slice Ag1 r1.length cg1) := cell_below (w := W43) c12 hb
  replace c13 : W44.cell? ⟨bh, 0, none⟩ = some (.slice Ah0 r0.length ch0) := cell_below (w := W43) c13 hb
  replace c14 : W44.cell? ⟨bh, 1, none⟩ = some (.slice Ah1 r1.length ch1) := cell_below (w := W43) c14 hb
  replace ZA := Lib.hid (ZA.out.below hb)
  replace ZB := Lib.hid (ZB.out.below hb)
  replace GA := Lib.hid (GA.out.below hb)
  replace GB := Lib.hid (GB.out.below hb)
  replace HA := Lib.hid (HA.out.below hb)
  replace HB := Lib.hid (HB.out.below hb)
  replace B := Lib.hid (below_to B.out hb B.out.size)
  replace SZ := Lib.hid (And.intro SZ.out (show W43.heap.size ≤ W44.heap.size from hb.size))
  clear hb
  go_wp2_with fail
  refine (heldM_any (.slice Ag0 r0.length cg0) (.slice Ag1 r1.length cg1) r0.length r1.length 1 _ GA.out.rd GB.out.rd (by omega) (by omega) L0 L1).mono ?_
  rintro e W45 ⟨rfl, hb⟩
  replace c1 : W45.cell? ⟨w.heap.size, 0, none⟩ = some u0 := cell_below (w := W44) c1 hb
  replace c2 : W45.cell? ⟨w.heap.size, 1, none⟩ = some u1 := cell_below (w := W44) c2 hb
  replace c3 : W45.cell? ⟨w.heap.size + 1, 0, none⟩ = some v0 := cell_below (w := W44) c3 hb
  replace c4 : W45.cell? ⟨w.heap.size + 1, 1, none⟩ = some v1 := cell_below (w := W44) c4 hb
  replace c5 : W45.cell? ⟨bz, 0, none⟩ = some (.slice Az0 r0.length cz0) := cell_below (w := W44) c5 hb
  replace c6 : W45.cell? ⟨bz, 1, none⟩ = some (.slice Az1 r1.length cz1) := cell_below (w := W44) c6 hb
  replace c11 : W45.cell? ⟨W16.heap.size, 0, none⟩ = some (.slice Ag0 r0.length cg0) := cell_below (w := W44) c11 hb
  replace c12 : W45.cell? ⟨W16.heap.size, 1, none⟩ = some (.slice Ag1 r1.length cg1) := cell_below (w := W44) c12 hb
  replace c13 : W45.cell? ⟨bh, 0, none⟩ = some (.slice Ah0 r0.length ch0) := cell_below (w := W44) c13 hb
  replace c14 : W45.cell? ⟨bh, 1, none⟩ = some (.slice Ah1 r1.length ch1) := cell_below (w := W44) c14 hb
  replace ZA := Lib.hid (ZA.out.below hb)
  replace ZB := Lib.hid (ZB.out.below hb)
  replace GA := Lib.hid (GA.out.below hb)
  replace GB := Lib.hid (GB.out.below hb)
  replace HA := Lib.hid (HA.out.below hb)
  replace HB := Lib.hid (HB.out.below hb)
  replace B := Lib.hid (below_to B.out hb B.out.size)
  replace SZ := Lib.hid (And.intro SZ.out (show W44.heap.size ≤ W45.heap.size from hb.size))
  clear hb
  go_wp2_with fail
  go_ret
  exact ⟨rfl, B.out⟩

theorem szM_eq (m0 m1 : List Int) (a : Int) (h0 : m0.length ≤ 9223372036854775807) (h1 : m1.length ≤ 9223372036854775807) (ha : 0 ≤ a) (hal : a ≤ 1048576) :
    ∃ r, laws_szMorphism.f m0 m1 a = some r ∧ r ≤ 1048576 ∧ (0 ≤ r → m0.length ≤ 1048576 ∧ m1.length ≤ 1048576) := by
  unfold laws_szMorphism.f laws_szIntS.f
  rw [wrap_id (by omega) (by omega)]
  by_cases c0 : a - (m0.length : Int) < 0
  · rw [if_pos c0]
    exact ⟨-1, rfl, by omega, fun h => by omega⟩
  · rw [if_neg c0]
    simp only [Option.bind_some]
    rw [if_neg c0, wrap_id (by omega) (by omega)]
    by_cases c1 : a - (m0.length : Int) - (m1.length : Int) < 0
    · rw [if_pos c1]
      exact ⟨-1, rfl, by omega, fun h => by omega⟩
    · rw [if_neg c1]
      simp only [Option.bind_some]
      rw [if_neg c1]
      exact ⟨_, rfl, by omega, fun _ => by omega⟩
theorem rd_len {w : World} {v : Value} {l : List Int} (h : RdI w v l) : l.length ≤ 9223372036854775807 := by
  obtain ⟨A, c, e, hc, hr⟩ := h
  exact hr.2.1

set_option maxHeartbeats 4000000 in
set_option maxRecDepth 100000 in
theorem law_any (u0 u1 v0 v1 : Value) (f0 f1 g0 g1 : List Int) (w : World) (h0 : RdI w u0 f0) (h1 : RdI w u1 f1) (h2 : RdI w v0 g0) (h3 : RdI w v1 g1) :
    Calls Try.prog 8 #[.agg #[u0, u1], .agg #[v0, v1]] w fun e w' => e = .returned (.bool true) ∧ Below w.heap.size w w' := by
  obtain ⟨a1, hs1, hb1, hl1⟩ := szM_eq f0 f1 1048576 (rd_len h0) (rd_len h1) (by omega) (by omega)
  by_cases ha1 : 0 ≤ a1
  · obtain ⟨a2, hs2, hb2, hl2⟩ := szM_eq g0 g1 a1 (rd_len h2) (rd_len h3) ha1 hb1
    by_cases ha2 : 0 ≤ a2
    · exact law_small u0 u1 v0 v1 f0 f1 g0 g1 w h0 h1 h2 h3 a1 a2 hs1 hs2 ha1 ha2 (hl1 ha1).1 (hl1 ha1).2 (hl2 ha2).1 (hl2 ha2).2
    · have H0 := Lib.hid h0
      have H1 := Lib.hid h1
      have H2 := Lib.hid h2
      have H3 := Lib.hid h3
      have S1 := Lib.hid hs1
      have S2 := Lib.hid hs2
      have hn : a2 < 0 := by omega
      clear h0 h1 h2 h3 hs1 hs2 hl1 hl2 ha2
      go_enter Try.func8, Try.ntmps8
      go_wp2_with fail
      refine name_calls ?_
      intro W1 hW
      have hb : Below w.heap.size w W1 := by rw [hW]; repeat (first | exact Below.refl _ _ | apply below_alloc)
      have c3 : W1.cell? ⟨w.heap.size + 1, 0, none⟩ = some v0 := by rw [hW]; simp
      have c4 : W1.cell? ⟨w.heap.size + 1, 1, none⟩ = some v1 := by rw [hW]; simp
      have B := Lib.hid hb
      clear hW hb
      refine (szM_any u0 u1 f0 f1 _ _ (H0.out.below B.out) (H1.out.below B.out) a1 S1.out).mono ?_
      rintro e W2 ⟨rfl, hb⟩
      replace c3 := cell_below c3 hb
      replace c4 := cell_below c4 hb
      replace B := Lib.hid (below_to B.out hb B.out.size)
      clear hb
      go_wp2_with fail
      refine (szM_any v0 v1 g0 g1 _ _ (H2.out.below B.out) (H3.out.below B.out) a2 S2.out).mono ?_
      rintro e W3 ⟨rfl, hb⟩
      replace B := Lib.hid (below_to B.out hb B.out.size)
      clear hb
      go_wp2_with fail
      go_ret
      exact ⟨rfl, B.out⟩
  · have H0 := Lib.hid h0
    have H1 := Lib.hid h1
    have S1 := Lib.hid hs1
    have hn : a1 < 0 := by omega
    clear h0 h1 hs1 hl1 ha1
    go_enter Try.func8, Try.ntmps8
    go_wp2_with fail
    refine name_calls ?_
    intro W1 hW
    have hb : Below w.heap.size w W1 := by rw [hW]; repeat (first | exact Below.refl _ _ | apply below_alloc)
    have B := Lib.hid hb
    clear hW hb
    refine (szM_any u0 u1 f0 f1 _ _ (H0.out.below B.out) (H1.out.below B.out) a1 S1.out).mono ?_
    rintro e W2 ⟨rfl, hb⟩
    replace B := Lib.hid (below_to B.out hb B.out.size)
    clear hb
    go_wp2_with fail
    go_ret
    exact ⟨rfl, B.out⟩

end Go.Proofs.Ytfnkobcmhbdcoaa.LawCompose
