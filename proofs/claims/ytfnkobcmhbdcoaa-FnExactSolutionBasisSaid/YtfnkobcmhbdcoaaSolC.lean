/- SolutionBasis: the reference's. -/
import Derived.Test.YtfnkobcmhbdcoaaSolA
import Derived.Test.YtfnkobcmhbdcoaaSolB
namespace Go.Proofs.Ytfnkobcmhbdcoaa.SolC
open Go.RowKit Go.Proofs.YtfnkobcmhbdcoaaW.PrintWords Go.Proofs.YtfnkobcmhbdcoaaW.PrintLast Go.Proofs.YtfnkobcmhbdcoaaW.PrintMore Go.Proofs.Ytfnkobcmhbdcoaa.Base Go.Proofs.Ytfnkobcmhbdcoaa.XTypes Go.Proofs.Ytfnkobcmhbdcoaa.XInts Go.Proofs.Ytfnkobcmhbdcoaa.XProb Go.Proofs.Ytfnkobcmhbdcoaa.XSum Go.Proofs.Ytfnkobcmhbdcoaa.Problem Go.Proofs.Ytfnkobcmhbdcoaa.PureInts Go.Proofs.Ytfnkobcmhbdcoaa.PureSum Go.Proofs.Ytfnkobcmhbdcoaa.Typed Go.Proofs.Ytfnkobcmhbdcoaa.Trees Go.Proofs.Ytfnkobcmhbdcoaa.MarkT Go.Proofs.Ytfnkobcmhbdcoaa.Rows2 Go.Proofs.Ytfnkobcmhbdcoaa.GathR Go.Proofs.Ytfnkobcmhbdcoaa.Dio Go.Proofs.Ytfnkobcmhbdcoaa.DioL Go.Proofs.Ytfnkobcmhbdcoaa.PureDio Go.Proofs.Ytfnkobcmhbdcoaa.SolA Go.Proofs.Ytfnkobcmhbdcoaa.SolB
set_option linter.unusedVariables false
set_option linter.unusedSimpArgs false
set_option linter.unnecessarySimpa false

theorem specProblem_any (va vb : Value) (a b : List Int) (w : World) (ha : RdI w va a) (hb : RdI w vb b) (hla : a.length ≤ 1048576) (hlb : b.length ≤ 1048576) :
    Calls Try.prog 17 #[va, vb] w fun e w' => e = .returned (.bool (probB a b)) ∧ Below w.heap.size w w' := by
  obtain ⟨A0, c0, rfl, hc0, hr0⟩ := ha
  obtain ⟨A1, c1, rfl, hc1, hr1⟩ := hb
  obtain ⟨k, hk⟩ := (specProblem_ev a b (by omega) (by omega)).rounds
  refine (spec_IsProblem.calls k A0 c0 a A1 c1 b _ w hr0 hc0 hr1 hc1 hk).mono ?_
  rintro e w' ⟨rfl, ⟨n, rfl⟩⟩
  exact ⟨rfl, pw_below_drewN (Below.refl _ _) _⟩
theorem below_n (n : Nat) (A : Option Addr) (c : Nat) (y : List Int) (A' : Option Addr) (c' : Nat) (x : List Int) (w : World) (hy : y.length = n) (hx : x.length = n) (hn : n ≤ 1048576) (hr : Kd.C (Kd.int .i64) w A y.length y) (hc : n ≤ c) (hr' : Kd.C (Kd.int .i64) w A' x.length x) (hc' : n ≤ c') :
    Calls Try.prog 72 #[.slice A n c, .slice A' n c'] w fun e w' => e = .returned (.bool (below y x)) ∧ Drawn0 w w' := by
  obtain ⟨k, hk⟩ := (sbelow_ev y x (by omega) (by omega)).rounds
  have h := spec_l34Below.calls k A c y A' c' x _ w hr (by omega) hr' (by omega) hk
  rw [hy, hx] at h
  exact h
set_option maxHeartbeats 4000000 in
set_option maxRecDepth 100000 in
theorem spec_basis (a b : List Int) (va vb : Value) (w : World) (ha : RdI w va a) (hb : RdI w vb b) (hla : a.length ≤ 1048576) (hlb : b.length ≤ 1048576) :
    Calls Try.prog 47 #[va, vb] w fun e w' => ∃ v, e = .returned (.tuple #[v, .bool (basisB a b)]) ∧ RdSS w' v (basisL a b) ∧ Below w.heap.size w w' := by
  have HRA := Lib.hid ha
  have HRB := Lib.hid hb
  clear ha hb
  go_enter Try.func47, Try.ntmps47
  go_wp2_with fail
  refine (specProblem_any _ _ a b _ HRA.out HRB.out hla hlb).mono ?_
  rintro e w1 ⟨rfl, b1⟩
  have B1 := Lib.hid b1
  clear b1
  cases hp : probB a b with
  | false =>
    have hb0 : basisB a b = false := by simp [basisB, hp]
    have HB0 := Lib.hid hb0
    clear hp hb0
    go_wp2_with fail
    go_ret2
    refine ⟨.slice none 0 0, by rw [HB0.out]; rfl, ?_, B1.out⟩
    simp only [basisL, HB0.out]
    exact ⟨none, 0, rfl, Nat.le_refl _, rfl, by simp, fun h => by simp at h⟩
  | true =>
    obtain ⟨hfa, hfb, h0, h1, h5⟩ := probB_len hp
    have fa := fac_of hfa
    have fb := fac_of hfb
    have HP := Lib.hid (And.intro hp (And.intro fa fb))
    have hL := basis_eq fa fb h0 h1
    have hLl : (allR a b).length ≤ 7776 := by
      rw [← ext_nil]
      refine Nat.le_trans (ext_len fa fb (a.length + b.length) [] (by simp)) ?_
      exact (show 6 ^ (a.length + b.length) ≤ 6 ^ 5 from Nat.pow_le_pow_right (by omega) h5)
    have hLn := nodup_allR a b
    have hLm : ∀ x ∈ allR a b, x.length = a.length + b.length := fun x hx => by
      rw [allR_eq fa fb] at hx
      exact (mem_allP.1 (List.mem_filter.1 hx).1).1.1
    have hbB : basisB a b = decide ((least (allR a b)).length ≤ 40) := by simp [basisB, hp, hL]
    have hbL : basisL a b = if decide ((least (allR a b)).length ≤ 40) = true then least (allR a b) else [] := by unfold basisL; rw [hbB, hL]
    have hext := ext_nil a b
    clear hp hfa hfb fa fb hL
    have HBB := Lib.hid (And.intro hbB hbL)
    clear hbB hbL
    generalize hL : allR a b = L at *
    have HL := Lib.hid (And.intro hL hext)
    have HLE := Lib.hid (And.intro hLn hLm)
    clear hL hLn hLm hext
    go_wp2_with fail
    refine (spec_all a b HP.out.2.1 HP.out.2.2 h5 va vb w HRA.out HRB.out (a.length + b.length) [] _ _ [] [] w1 (by simp) (by simp) (fun i hi => by simp at hi) B1.out (OwI.of (ok := fun _ => True) (Kd.R_nil _ _ _ _ _)) (Ga.nil _ _) (fun k hk => by cases hk) ?_).mono ?_
    · have : 6 ^ (a.length + b.length) ≤ 6 ^ 5 := Nat.pow_le_pow_right (by omega) h5
      simp
      omega
    rintro e w3 ⟨⟨v7, vs, rfl, hg3, _, _⟩, hb3, _⟩
    rw [List.nil_append, HL.out.2] at hg3
    have HB3 := Lib.hid hb3
    clear hb3
    obtain ⟨A7, c7, e7, _, _⟩ := hg3.rd
    subst e7
    generalize hm : L.length = m at *
    have HM := Lib.hid hm
    have HG3 := Lib.hid hg3
    obtain ⟨W, hW⟩ : ∃ W, W = w3.alloc (.cells #[] 24) := ⟨_, rfl⟩
    have bW : Below w3.heap.size w3 W := by rw [hW]; exact below_alloc (Below.refl _ _) _
    have gW := Ga.new (B := w.heap.size) (n := w3.heap.size) (W := W) HB3.out.size (by rw [hW]; exact blk_new _ _)
    have HW := Lib.hid (And.intro (HG3.out.below bW) (below_to HB3.out bW HB3.out.size))
    have HN3 := Lib.hid (show ∀ k, Value.ownBlock (.slice (some ⟨w3.heap.size, 0, none⟩) 0 0) = some k → k ∉ blks vs ∧ Value.ownBlock (.slice A7 m c7) ≠ some k from fun k hk => by
      have e : w3.heap.size = k := by simpa [Value.ownBlock] using hk
      exact ⟨fun hs => by have := HG3.out.lt k hs; omega, fun ho => by have := HG3.out.out_lt ho; omega⟩)
    have HGW := Lib.hid gW
    clear bW gW hm hg3
    generalize hn : a.length + b.length = n at *
    have HN := Lib.hid hn
    clear hn
    go_wp2_with fail
    rw [← hW]
    clear hW
    go_loopw [7, 8] (fun vo i wr => ∃ j : Nat, j ≤ m ∧ i = .int .i64 j ∧ ∃ vso, Aside0 (Ga w.heap.size vo ((L.take j).filter (leastB L)) vso wr) ∧ Aside0 (∀ k ∈ blks vso, k ∈ blks (vs.take j)) ∧ Aside0 (∀ k, vo.ownBlock = some k → k ∉ blks vs ∧ Value.ownBlock (.slice A7 m c7) ≠ some k) ∧ Aside0 (Ga w.heap.size (.slice A7 m c7) L vs wr ∧ Below w.heap.size w wr)) (fun _ i _ => m - (intOf i).toNat)
    case atStart => exact ⟨0, Nat.zero_le _, rfl, [], ⟨by simpa using HGW.out⟩, ⟨fun k hk => by simp [blks] at hk⟩, ⟨HN3.out⟩, ⟨HW.out⟩⟩
    case round =>
      obtain ⟨j, hj, rfl, vso, hO, hI, hA, hG⟩ := hrel
      by_cases hlt : j < m
      · have hjl : j < L.length := by rw [HM.out]; exact hlt
        have hxl : (L.getD j []).length = n := HLE.out.2 _ (by simp [hjl])
        obtain ⟨g, cap, u, hv, hcap, hu, hcellj, hx⟩ := hG.out.1.cell hjl
        rw [HM.out] at hv hcap
        injection hv with eA _ ec
        subst eA
        subst ec
        obtain ⟨A9, c9, e9, hc9, hC9⟩ := hx.rd
        rw [hxl] at e9 hc9
        subst e9
        have HX := Lib.hid (And.intro hx (And.intro hu (And.intro hjl hxl)))
        have HCJ := Lib.hid hcellj
        have HC9 := Lib.hid (And.intro hc9 hC9)
        clear hx hu hxl hjl hcellj hc9 hC9
        go_wp2_with fail
        obtain ⟨wo, hwo⟩ : ∃ wo : World, wo = wr := ⟨_, rfl⟩
        rw [← hwo] at hO hG HX HCJ HC9 ⊢
        clear hwo
        go_loopw [9, 10] (fun l q wr2 => ∃ k : Nat, k ≤ m ∧ q = .int .i64 k ∧ l = .bool (lsT L j k) ∧ Aside0 (Below wo.heap.size wo wr2)) (fun _ q _ => m - (intOf q).toNat)
        case atStart => exact ⟨0, Nat.zero_le _, rfl, rfl, ⟨Below.refl _ _⟩⟩
        case round =>
          obtain ⟨k, hk, rfl, rfl, hB2⟩ := hrel
          by_cases hlt2 : k < m
          · have hkl : k < L.length := by rw [HM.out]; exact hlt2
            have hyl : (L.getD k []).length = n := HLE.out.2 _ (by simp [hkl])
            obtain ⟨g', cap', u', hv', _, _, hcellk, hy⟩ := (hG.out.1.below hB2.out).cell hkl
            rw [HM.out] at hv'
            injection hv' with eA' _ ec'
            injection eA' with eA'
            injection eA' with eg _ _
            subst eg
            subst ec'
            obtain ⟨A9', c9', e9', hc9', hC9'⟩ := hy.rd
            rw [hyl] at e9' hc9'
            subst e9'
            have HY := Lib.hid (And.intro hy (And.intro hkl hyl))
            have HC9' := Lib.hid (And.intro hc9' hC9')
            have hcellj := cell_below HCJ.out hB2.out
            have hst := lsT_succ L j k
            clear hy hyl hkl hc9' hC9'
            cases hls : lsT L j k with
            | false =>
              rw [hls, Bool.false_and] at hst
              have HST := Lib.hid hst
              clear hst hls
              go_wp2_with fail
              go_quiet (fail)
              go_wp2_with fail
              go_roundw
              case rel => exact ⟨k + 1, by omega, by go_num, by rw [HST.out], ⟨hB2.out.trans ((pw_below_drewN (Below.refl _ _) _).mono hB2.out.size)⟩⟩
              case measure => simp [intOf]; omega
            | true =>
              rw [hls, Bool.true_and] at hst
              by_cases hkj : k = j
              · have hjk : ((k : Int) == (j : Int)) = true := by simp [hkj]
                have e : lsT L j (k + 1) = true := by rw [hst]; simp [hkj]
                have HST := Lib.hid e
                clear hst hls e hkj
                go_wp2_with fail
                go_quiet (fail)
                go_wp2_with fail
                go_roundw
                case rel => exact ⟨k + 1, by omega, by go_num, by rw [HST.out], ⟨hB2.out.trans ((pw_below_drewN (Below.refl _ _) _).mono hB2.out.size)⟩⟩
                case measure => simp [intOf]; omega
              · have hjk : ((k : Int) == (j : Int)) = false := by rw [beq_eq_false_iff_ne]; omega
                have e : lsT L j (k + 1) = !below (L.getD k []) (L.getD j []) := by rw [hst]; simp [hkj]
                have HE := Lib.hid e
                have hcl := HC9'.out.1
                have HRx := Lib.hid (Kd.C_below HC9.out.2 hB2.out)
                clear hst hls e hcl hkj
                have hn6 : n ≤ 1048576 := by omega
                obtain ⟨be, hbe⟩ : ∃ be, be = below (L.getD k []) (L.getD j []) := ⟨_, rfl⟩
                rw [← hbe] at HE
                have HBE := Lib.hid hbe
                clear hbe
                cases be with
                | true =>
                  go_wp2_with fail
                  go_quiet ((go_at_call 72; (with_reducible refine (below_n n _ _ (L.getD k []) _ _ (L.getD j []) _ HY.out.2.2 HX.out.2.2.2 hn6 ?s1 HC9'.out.1 ?s2 HC9.out.1).mono ?_); (case s1 => repeat (first | exact HC9'.out.2 | (with_reducible refine Kd.C_drewN ?_ _) | (with_reducible refine Kd.C_drew ?_))); (case s2 => repeat (first | exact HRx.out | (with_reducible refine Kd.C_drewN ?_ _) | (with_reducible refine Kd.C_drew ?_))); rw [← HBE.out]; rintro e w' ⟨rfl, ⟨nd, rfl⟩⟩; (first | exact ⟨rfl, _, World.drewN_drewN _ _ _⟩ | exact ⟨rfl, _, Eq.trans (World.drewN_drewN _ _ _) (congrArg (World.drewN _) (Nat.add_assoc _ _ _))⟩)))
                  go_wp2_with fail
                  go_roundw
                  case rel => exact ⟨k + 1, by omega, by go_num, by rw [HE.out]; rfl, ⟨hB2.out.trans ((pw_below_drewN (Below.refl _ _) _).mono hB2.out.size)⟩⟩
                  case measure => simp [intOf]; omega
                | false =>
                  go_wp2_with fail
                  go_quiet ((go_at_call 72; (with_reducible refine (below_n n _ _ (L.getD k []) _ _ (L.getD j []) _ HY.out.2.2 HX.out.2.2.2 hn6 ?s1 HC9'.out.1 ?s2 HC9.out.1).mono ?_); (case s1 => repeat (first | exact HC9'.out.2 | (with_reducible refine Kd.C_drewN ?_ _) | (with_reducible refine Kd.C_drew ?_))); (case s2 => repeat (first | exact HRx.out | (with_reducible refine Kd.C_drewN ?_ _) | (with_reducible refine Kd.C_drew ?_))); rw [← HBE.out]; rintro e w' ⟨rfl, ⟨nd, rfl⟩⟩; (first | exact ⟨rfl, _, World.drewN_drewN _ _ _⟩ | exact ⟨rfl, _, Eq.trans (World.drewN_drewN _ _ _) (congrArg (World.drewN _) (Nat.add_assoc _ _ _))⟩)))
                  go_wp2_with fail
                  go_roundw
                  case rel => exact ⟨k + 1, by omega, by go_num, by rw [HE.out]; rfl, ⟨hB2.out.trans ((pw_below_drewN (Below.refl _ _) _).mono hB2.out.size)⟩⟩
                  case measure => simp [intOf]; omega
          · obtain rfl : k = m := by omega
            have hfull := lsT_full HLE.out.1 HX.out.2.2.1
            rw [HM.out] at hfull
            have htk : L.take (j + 1) = L.take j ++ [L.getD j []] := by
              have hjl := HX.out.2.2.1
              rw [List.take_succ_eq_append_getElem hjl]
              simp [hjl]
            have hst : (L.take (j + 1)).filter (leastB L) = (L.take j).filter (leastB L) ++ (if lsT L j k = true then [L.getD j []] else []) := by
              rw [htk, List.filter_append, hfull]
              congr 1
              generalize L.getD j [] = y
              cases hq : leastB L y <;> simp [hq]
            have hvt : ∀ q, q ∈ blks (vs.take j) → q ∈ blks (vs.take (j + 1)) := fun q hq => by
              have hjv : j < vs.length := (List.getElem?_eq_some_iff.1 HX.out.2.1).1
              rw [List.take_succ_eq_append_getElem hjv, blks_append]
              exact List.mem_append_left _ hq
            have HVT := Lib.hid hvt
            clear hfull htk hvt
            cases hls : lsT L j k with
            | true =>
              rw [hls, if_pos rfl] at hst
              have HST := Lib.hid hst
              have hcellj := cell_below HCJ.out hB2.out
              have hO2 := hO.out.below hB2.out
              have hG2 := hG.out.1.below hB2.out
              have hb2 := below_to hG.out.2 hB2.out hG.out.2.size
              have hx2 := HX.out.1.below hB2.out
              have hmem := hG.out.1.mem HX.out.2.1
              have hfu : ∀ q, Fp (.slice A9 n c9) q → w.heap.size ≤ q ∧ q ∉ blks vso ∧ u7.ownBlock ≠ some q := fun q hq => by
                have h1 := hmem q (own_iff.2 hq)
                exact ⟨hG.out.1.far q h1.1, fun hs => h1.2 (hI.out q hs), fun ho => (hA.out q ho).1 h1.1⟩
              have hgo := Kd.raw_any hO2.out
              have HO2 := Lib.hid hO2
              have HG2' := Lib.hid (And.intro hG2 hb2)
              have HX2 := Lib.hid hx2
              have HFU := Lib.hid hfu
              have HGO := Lib.hid hgo
              have HVL := Lib.hid hO2.len
              have HFL := Lib.hid (show ((L.take j).filter (leastB L)).length ≤ 7776 from Nat.le_trans (List.length_filter_le _ _) (by rw [List.length_take, HM.out]; omega))
              clear hst hls hO2 hG2 hb2 hx2 hmem hfu hgo
              go_wp2_with (first | ((with_reducible refine gate_builtin (b := .append) (xs := #[.tmp 50, .tmp 55]) rfl ?_); at_builtin; refine Kd.R_append (Kd.raw 1) (w0 := w) w.heap.size rfl (.tmp 50) (.tmp 55) 27 24 (.slice none 0 0) 24 rfl Try.underlying27 info24 rfl (by decide) (by omega) u7 (vso.map fun v => [v]) [.slice A9 n c9] [.slice A9 n c9] (fun _ => True) (fun _ => False) rfl rfl ?aP (fun _ hk => hk.elim) (fun _ _ => trivial) ?aO ?aB ?aS ?aL ?_; (case aP => exact ⟨rfl, rfl, fun u hu => by rw [List.mem_singleton.1 hu]; rfl⟩); (case aB => exact HG2'.out.2); (case aO => exact HGO.out); (case aS => exact HG2'.out.2.size); (case aL => rw [List.length_map]; have := HVL.out; have := HFL.out; omega); intro v6 w6 ho6 hb6 hg6 hat6; have HB6 := Lib.hid hb6; have HG6 := Lib.hid (Ga.push HO2.out (nx := L.getD j []) HX2.out HFU.out ho6 hg6 hat6); have HX6 := Lib.hid (And.intro hg6 hat6); clear ho6 hb6 hg6 hat6))
              go_roundw
              case rel =>
                refine ⟨j + 1, by omega, by go_num, vso ++ [.slice A9 n c9], ⟨by rw [HST.out]; exact HG6.out⟩, ⟨fun q hq => ?_⟩, ⟨fun q hq => ?_⟩, ⟨HG2'.out.1.grown HX6.out.1 (fun q hq => hA.out q hq), HB6.out⟩⟩
                · rw [blks_append, blks_one] at hq
                  rcases List.mem_append.1 hq with hq | hq
                  · exact HVT.out q (hI.out q hq)
                  · have hjv := HX.out.2.1
                    have hjl : j < vs.length := (List.getElem?_eq_some_iff.1 hjv).1
                    rw [List.take_succ_eq_append_getElem hjl, blks_append, (List.getElem?_eq_some_iff.1 hjv).2, blks_one]
                    exact List.mem_append_right _ hq
                · rcases HX6.out.2 with hat | ⟨b', hb', hle⟩
                  · rw [hat] at hq
                    exact hA.out q hq
                  · rw [hb'] at hq
                    injection hq with hq
                    exact ⟨fun hs => by have := HG2'.out.1.lt q hs; omega, fun ho => by have := HG2'.out.1.out_lt ho; omega⟩
              case measure => simp [intOf]; omega
            | false =>
              rw [hls, if_neg (by decide), List.append_nil] at hst
              have HST := Lib.hid hst
              have HO2 := Lib.hid (hO.out.below hB2.out)
              have HG2' := Lib.hid (And.intro (hG.out.1.below hB2.out) (below_to hG.out.2 hB2.out hG.out.2.size))
              clear hst hls
              go_wp2_with fail
              go_roundw
              case rel => exact ⟨j + 1, by omega, by go_num, vso, ⟨by rw [HST.out]; exact HO2.out⟩, ⟨fun q hq => HVT.out q (hI.out q hq)⟩, hA, ⟨HG2'.out⟩⟩
              case measure => simp [intOf]; omega
      · obtain rfl : j = m := by omega
        have hlo : (L.take j).filter (leastB L) = least L := by rw [List.take_of_length_le (by rw [HM.out]; exact Nat.le_refl _)]; rfl
        have ho := hO.out
        rw [hlo] at ho
        obtain ⟨A10, c10, e10, _, _⟩ := ho.rd
        have HO := Lib.hid (And.intro ho hG.out.2)
        have HBB' := Lib.hid HBB.out
        clear hO hI hA hG hlo ho
        generalize hq : least L = Q at *
        generalize hql : Q.length = q at *
        subst e10
        have HQ := Lib.hid (And.intro hq hql)
        clear hq
        by_cases h40 : 40 < q
        · have hfin : basisB a b = false ∧ basisL a b = [] := by
            have := HBB.out
            have hd : decide (q ≤ 40) = false := by simp; omega
            rw [hd] at this
            exact ⟨this.1, by rw [this.2]; rfl⟩
          have HF := Lib.hid hfin
          clear hfin hql
          go_wp2_with fail
          go_ret2
          exact ⟨.slice none 0 0, by rw [HF.out.1]; rfl, by rw [HF.out.2]; exact ⟨none, 0, rfl, Nat.le_refl _, rfl, by simp, fun h => by simp at h⟩, HO.out.2⟩
        · have hfin : basisB a b = true ∧ basisL a b = Q := by
            have := HBB.out
            have hd : decide (q ≤ 40) = true := by simp; omega
            rw [hd] at this
            exact ⟨this.1, by rw [this.2]; rfl⟩
          have HF := Lib.hid hfin
          clear hfin hql
          go_wp2_with fail
          go_ret2
          exact ⟨_, by rw [HF.out.1]; rfl, by rw [HF.out.2]; exact HO.out.1.rd, HO.out.2⟩
end Go.Proofs.Ytfnkobcmhbdcoaa.SolC
