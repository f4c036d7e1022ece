/- SolutionBasis: the program's, whose rows are its own. -/
import Derived.Test.YtfnkobcmhbdcoaaGath
import Derived.Test.YtfnkobcmhbdcoaaPureDio
namespace Go.Proofs.Ytfnkobcmhbdcoaa.SolB
open Go.RowKit Go.Proofs.YtfnkobcmhbdcoaaW.PrintWords Go.Proofs.YtfnkobcmhbdcoaaW.PrintLast Go.Proofs.YtfnkobcmhbdcoaaW.PrintMore Go.Proofs.Ytfnkobcmhbdcoaa.Base Go.Proofs.Ytfnkobcmhbdcoaa.XTypes Go.Proofs.Ytfnkobcmhbdcoaa.XInts Go.Proofs.Ytfnkobcmhbdcoaa.XProb Go.Proofs.Ytfnkobcmhbdcoaa.XSum Go.Proofs.Ytfnkobcmhbdcoaa.Problem Go.Proofs.Ytfnkobcmhbdcoaa.PureInts Go.Proofs.Ytfnkobcmhbdcoaa.PureSum Go.Proofs.Ytfnkobcmhbdcoaa.Typed Go.Proofs.Ytfnkobcmhbdcoaa.Trees Go.Proofs.Ytfnkobcmhbdcoaa.MarkT Go.Proofs.Ytfnkobcmhbdcoaa.Rows2 Go.Proofs.Ytfnkobcmhbdcoaa.GathR Go.Proofs.Ytfnkobcmhbdcoaa.Dio Go.Proofs.Ytfnkobcmhbdcoaa.DioL Go.Proofs.Ytfnkobcmhbdcoaa.PureDio
set_option linter.unusedVariables false
set_option linter.unusedSimpArgs false
set_option linter.unnecessarySimpa false

/-- What SolutionBasis answers. -/
def basisB (a b : List Int) : Bool := probB a b && decide ((least (allP a b)).length ≤ 40)
def basisL (a b : List Int) : List (List Int) := if basisB a b = true then least (allP a b) else []
set_option maxHeartbeats 2000000 in
set_option maxRecDepth 100000 in
theorem impl_basis (a b : List Int) (A0 : Option Addr) (c0 : Nat) (A1 : Option Addr) (c1 : Nat) (w : World) (hr0 : Kd.C (Kd.int .i64) w A0 a.length a) (hc0 : a.length ≤ c0) (hr1 : Kd.C (Kd.int .i64) w A1 b.length b) (hc1 : b.length ≤ c1) (hla : a.length ≤ 1048576) (hlb : b.length ≤ 1048576) :
    Calls Try.prog 48 #[.slice A0 a.length c0, .slice A1 b.length c1] w fun e w' => ∃ v S, e = .returned (.tuple #[v, .bool (basisB a b)]) ∧ OwSS w' v (basisL a b) S ∧ (∀ k ∈ S, w.heap.size ≤ k) ∧ Below w.heap.size w w' := by
  have HR0 := Lib.hid hr0
  have HR1 := Lib.hid hr1
  have HC0 := Lib.hid hc0
  have HC1 := Lib.hid hc1
  clear hr0 hr1 hc0 hc1
  go_enter Try.func48, Try.ntmps48
  go_wp2_with fail
  refine (Problem.problem_any _ _ a _ _ b _ HR0.out HC0.out HR1.out HC1.out (by omega)).mono ?_
  rintro e w1 ⟨rfl, b1⟩
  have B1 := Lib.hid b1
  clear b1
  cases hp : probB a b with
  | false =>
    have hb0 : basisB a b = false := by simp [basisB, hp]
    have HB0 := Lib.hid hb0
    clear hp hb0
    go_wp2_with fail
    go_ret2
    refine ⟨.slice none 0 0, [], by rw [HB0.out]; rfl, ?_, (fun k hk => by cases hk), B1.out⟩
    simp only [basisL, HB0.out]
    exact .inl ⟨rfl, rfl, rfl⟩
  | true =>
    obtain ⟨hfa, hfb, h0, h1, h5⟩ := probB_len hp
    have HP := Lib.hid (And.intro hp (And.intro hfa hfb))
    clear hp hfa hfb
    obtain ⟨V, hV⟩ : ∃ V, V = w1.alloc (.cells #[] 24) := ⟨_, rfl⟩
    have bV : Below w.heap.size w V := by rw [hV]; exact below_alloc B1.out _
    have gV := Ga.new (B := w.heap.size) (n := w1.heap.size) (W := V) B1.out.size (by rw [hV]; exact blk_new _ _)
    have hVs : V.heap.size = w1.heap.size + 1 := by rw [hV]; simp
    have BV := Lib.hid bV
    have GV := Lib.hid gV
    clear bV gV
    go_wp2_with (first | ((with_reducible refine gate_dst (N := 26) rfl ?_); rw [← hV]; refine Kd.R_make (Kd.int .i64) (w0 := w) w.heap.size 3 rfl (N := 26) rfl 24 _ _ rfl ((a.length : Int) + b.length) rfl rfl Try.underlying24 (.int .i64 0) 8 info_int rfl (by decide) (by omega) 0 (ok := fun _ => True) (okp := fun _ => True) rfl (fun _ hk => hk) trivial (by omega) (by omega) BV.out BV.out.size ?_; intro v8 w2 ho hb hg hat; have HO := Lib.hid ho; have HB := Lib.hid hb; have HG := Lib.hid hg; have HAT := Lib.hid hat; clear ho hb hg hat))
    obtain ⟨T, hT, hRun⟩ := run_lex (a.length + b.length)
    have hTl : T.length ≤ 7775 := by
      have h6 := lexB_len (a.length + b.length)
      rw [hT, List.length_cons] at h6
      have : 6 ^ (a.length + b.length) ≤ 6 ^ 5 := Nat.pow_le_pow_right (by omega) h5
      omega
    have hall := allP_tail hT
    have HT := Lib.hid (And.intro hRun hall)
    clear hT hRun hall
    have en : ((a.length : Int) + b.length).toNat = a.length + b.length := by omega
    have ho8 := HO.out
    rw [en] at ho8
    have HO8 := Lib.hid (OwI.of ho8)
    obtain ⟨A8, c8, e8, _, _⟩ := HO8.out.rd
    rw [List.length_replicate] at e8
    subst e8
    have ha7 := HAT.out
    have hf8 : ∀ k, Fp (.slice A8 (a.length + b.length) c8) k → V.heap.size ≤ k := fun k hk => by
      obtain ⟨b', hb', hle⟩ := ha7
      unfold Fp at hk
      rw [hb'] at hk
      injection hk with hk
      omega
    have hne8 : ∃ k, Value.ownBlock (.slice A8 (a.length + b.length) c8) = some k := ⟨_, ha7.choose_spec.1⟩
    have HF8 := Lib.hid (And.intro hf8 hne8)
    have hG2 := GV.out.grown HG.out (fun k hk => by cases hk)
    have HG2 := Lib.hid hG2
    have FA := Lib.hid (And.intro (fac_of HP.out.2.1) (fac_of HP.out.2.2))
    clear en ho8 ha7 hf8 hne8 hG2 HO HAT HG GV
    generalize hn : a.length + b.length = n at *
    have HN := Lib.hid hn
    clear hn
    go_loopg [7] (T.length) (fun q v wr => ∃ dn td c vs, Aside0 (T = dn ++ td ∧ Run c td ∧ q = td.length ∧ (∀ x ∈ c, 0 ≤ x ∧ x ≤ 5) ∧ c.length = n) ∧ Aside0 (OwI w.heap.size wr (.slice A8 n c8) c) ∧ Aside0 (Ga w.heap.size v (dn.filter (fun x => bal a b x == 0)) vs wr) ∧ Aside0 (Below w.heap.size w wr) ∧ Aside0 (∀ k, Fp (.slice A8 n c8) k → k ∉ blks vs ∧ v.ownBlock ≠ some k))
    case atStart =>
      refine ⟨[], T, List.replicate n 0, [], ⟨rfl, HT.out.1, rfl, fun x hx => ?_, by simp⟩, ⟨HO8.out⟩, ⟨HG2.out⟩, ⟨HB.out⟩, ⟨fun k hk => ⟨by simp [blks], fun e => ?_⟩⟩⟩
      · have := List.eq_of_mem_replicate hx; omega
      · have h1 := HF8.out.1 k hk
        have : w1.heap.size = k := by simpa [Value.ownBlock] using e
        omega
    case round =>
      obtain ⟨dn, td, c, vs, hS, hC, hG, hB, hA⟩ := hrel
      cases td with
      | cons d rest =>
        have hnx : nextR c 0 = (true, d) := by
          have h := hS.out.2.1.1
          simp [nextR, h]
        have hd5 := nextL_in c d hS.out.2.2.2.1 hS.out.2.1.1
        have hdl : d.length = n := by rw [nextL_len c d hS.out.2.1.1]; exact hS.out.2.2.2.2
        have HD := Lib.hid (And.intro hd5 hdl)
        have HNX := Lib.hid hnx
        clear hnx hd5 hdl
        go_wp2_with fail
        refine (next_any _ c w _ hB.out hC.out (by have := hS.out.2.2.2.2; omega) hS.out.2.2.2.1 _ _ HNX.out).mono ?_
        rintro e w3 ⟨rfl, ho3, hb3, hk3⟩
        have HO3 := Lib.hid ho3
        have HB3 := Lib.hid hb3
        have HG3 := Lib.hid (hG.out.kept hk3 hA.out)
        have HZ3 := Lib.hid hk3.1
        clear ho3 hb3 hk3
        go_wp2_with fail
        refine (balance_any _ _ _ a b d _ ⟨A0, c0, rfl, HC0.out, Kd.C_below HR0.out HB3.out⟩ ⟨A1, c1, rfl, HC1.out, Kd.C_below HR1.out HB3.out⟩ HO3.out.rd FA.out.1 FA.out.2 (by rw [HN.out]; exact h5) (by rw [HN.out]; exact HD.out.2) (fun i hi => by have := gt_in HD.out.1 hi; omega)).mono ?_
        rintro e w4 ⟨rfl, b4⟩
        have HO4 := Lib.hid (HO3.out.below b4)
        have HZ4 := Lib.hid (Nat.le_trans HZ3.out b4.size)
        have HB4 := Lib.hid (below_to HB3.out b4 HB3.out.size)
        have HG4 := Lib.hid (HG3.out.below b4)
        clear b4 HO3 HB3 HG3
        have hlen := (List.length_filter_le (fun x => bal a b x == 0) dn)
        have hdn : dn.length ≤ 7775 := by
          have h := congrArg List.length hS.out.1
          rw [List.length_append] at h
          omega
        have HLEN := Lib.hid (show (dn.filter (fun x => bal a b x == 0)).length ≤ 7775 by omega)
        clear hlen hdn
        cases hbal : (bal a b d == 0) with
        | true =>
          have hst : (dn ++ [d]).filter (fun x => bal a b x == 0) = dn.filter (fun x => bal a b x == 0) ++ [d] := by simp [hbal]
          have HST := Lib.hid hst
          have hb0 : bal a b d = 0 := by simpa using hbal
          clear hst hbal
          go_wp2_with fail
          refine (clone_rd _ d _ HO4.out.rd (by have := HD.out.2; omega) HF8.out.2).mono ?_
          rintro e w5 ⟨u, rfl, ou, b5⟩
          obtain ⟨A9, c9, rfl, _, _⟩ := ou.rd
          have HU := Lib.hid ou
          have HO5 := Lib.hid (HO4.out.below b5)
          have HB5 := Lib.hid (below_to HB4.out b5 HB4.out.size)
          have HG5 := Lib.hid (HG4.out.below b5)
          have hfu : ∀ k, Fp (.slice A9 d.length c9) k → w.heap.size ≤ k ∧ k ∉ blks vs ∧ u7.ownBlock ≠ some k := fun k hk => by
            have h1 := ou.lt hk
            exact ⟨by have := HB4.out.size; omega, fun hs => by have := HG4.out.lt k hs; omega, fun ho => by have := HG4.out.out_lt ho; omega⟩
          have hgo : Kd.R (Kd.raw 1) 24 w5 w.heap.size (fun _ => True) u7 (vs.map fun v => [v]) := Kd.raw_any HG5.out.out
          have HFU := Lib.hid hfu
          have HGO := Lib.hid hgo
          have HVL := Lib.hid HG5.out.len
          have HZ5 := Lib.hid (Nat.le_trans HZ4.out b5.size)
          clear ou b5 hfu hgo HO4 HB4 HG4
          go_wp2_with (first | ((with_reducible refine gate_builtin (b := .append) (xs := #[.tmp 34, .tmp 37]) rfl ?_); at_builtin; refine Kd.R_append (Kd.raw 1) (w0 := w) w.heap.size rfl (.tmp 34) (.tmp 37) 27 24 (.slice none 0 0) 24 rfl Try.underlying27 info24 rfl (by decide) (by omega) u7 (vs.map fun v => [v]) [.slice A9 d.length c9] [.slice A9 d.length c9] (fun _ => True) (fun _ => False) rfl rfl ?aP (fun _ hk => hk.elim) (fun _ _ => trivial) ?aO ?aB ?aS ?aL ?_; (case aP => exact ⟨rfl, rfl, fun u hu => by rw [List.mem_singleton.1 hu]; rfl⟩); (case aB => exact HB5.out); (case aO => exact HGO.out); (case aS => exact HB5.out.size); (case aL => rw [List.length_map]; have := HVL.out; have := HLEN.out; omega); intro v6 w6 ho6 hb6 hg6 hat6; have HB6 := Lib.hid hb6; have HG6 := Lib.hid (Ga.push HG5.out (nx := d) HU.out HFU.out ho6 hg6 hat6); have HX6 := Lib.hid (And.intro hg6 hat6); clear ho6 hb6 hg6 hat6))
          go_roundg rest.length
          case measure => rw [hS.out.2.2.1]; simp
          case rel =>
            refine ⟨dn ++ [d], rest, d, vs ++ [.slice A9 d.length c9], ⟨by rw [hS.out.1]; simp, hS.out.2.1.2, rfl, HD.out.1, HD.out.2⟩, ⟨HO5.out.step (fun k hk hlt => HX6.out.1.block k hlt (fun e => (hA.out k hk).2 e.symm))⟩, ⟨by rw [HST.out]; exact HG6.out⟩, ⟨HB6.out⟩, ⟨fun k hk => ⟨?_, ?_⟩⟩⟩
            · rw [blks_append, blks_one]
              intro hs
              rcases List.mem_append.1 hs with hs | hs
              · exact (hA.out k hk).1 hs
              · have h1 := HU.out.lt (own_iff.1 hs)
                have h2 := hC.out.lt hk
                have := HZ4.out
                omega
            · intro e
              have h2 := hC.out.lt hk
              rcases HX6.out.2 with hat | ⟨b', hb', hle⟩
              · rw [hat] at e
                exact (hA.out k hk).2 e
              · rw [hb'] at e
                injection e with e
                have := HZ5.out
                omega
        | false =>
          have hst : (dn ++ [d]).filter (fun x => bal a b x == 0) = dn.filter (fun x => bal a b x == 0) := by simp [hbal]
          have HST := Lib.hid hst
          have hb0 : ¬ bal a b d = 0 := by simpa using hbal
          clear hst
          go_wp2_with fail
          go_roundg rest.length
          case measure => rw [hS.out.2.2.1]; simp
          case rel => exact ⟨dn ++ [d], rest, d, vs, ⟨by rw [hS.out.1]; simp, hS.out.2.1.2, rfl, HD.out.1, HD.out.2⟩, ⟨HO4.out⟩, ⟨by rw [HST.out]; exact HG4.out⟩, ⟨HB4.out⟩, hA⟩
      | nil =>
        have hdn : dn = T := by have h := hS.out.1; rw [List.append_nil] at h; exact h.symm
        have hnx : nextR c 0 = (false, List.replicate c.length 0) := by
          have h : nextL c = none := hS.out.2.1
          simp [nextR, h]
        have HNX := Lib.hid hnx
        clear hnx
        go_wp2_with fail
        refine (next_any _ c w _ hB.out hC.out (by have := hS.out.2.2.2.2; omega) hS.out.2.2.2.1 _ _ HNX.out).mono ?_
        rintro e w3 ⟨rfl, ho3, hb3, hk3⟩
        have HB3 := Lib.hid hb3
        have hg3 := hG.out.kept hk3 hA.out
        rw [hdn, ← HT.out.2] at hg3
        have hLn := nodup_allP a b
        have hLl : (allP a b).length ≤ 7775 := by rw [HT.out.2]; exact Nat.le_trans (List.length_filter_le _ _) hTl
        have hLm : ∀ x ∈ allP a b, x.length = n := fun x hx => by
          have := (mem_allP.1 hx).1.1
          have := HN.out
          omega
        have hLeast : least (allP a b) = (allP a b).filter (leastB (allP a b)) := rfl
        have hbB : basisB a b = decide ((least (allP a b)).length ≤ 40) := by simp [basisB, HP.out.1]
        have hbL : basisL a b = if decide ((least (allP a b)).length ≤ 40) = true then least (allP a b) else [] := by unfold basisL; rw [hbB]
        have HBB := Lib.hid (And.intro hbB hbL)
        clear hbB hbL
        generalize hL : allP a b = L at *
        have HL := Lib.hid hL
        have HLE := Lib.hid (And.intro hLn (And.intro hLm hLeast))
        clear hL hLn hLm hLeast hdn ho3 hb3 hk3 hS hC hG hB hA
        obtain ⟨A7, c7, e7, _, _⟩ := hg3.rd
        subst e7
        generalize hm : L.length = m at *
        have HM := Lib.hid hm
        have HG3 := Lib.hid hg3
        obtain ⟨W, hW⟩ : ∃ W, W = w3.alloc (.cells #[] 24) := ⟨_, rfl⟩
        have bW : Below w3.heap.size w3 W := by rw [hW]; exact below_alloc (Below.refl _ _) _
        have gW := Ga.new (B := w.heap.size) (n := w3.heap.size) (W := W) HB3.out.size (by rw [hW]; exact blk_new _ _)
        have HW := Lib.hid (And.intro (HG3.out.below bW) (below_to HB3.out bW HB3.out.size))
        have HN3 := Lib.hid (show ∀ k, Value.ownBlock (.slice (some ⟨w3.heap.size, 0, none⟩) 0 0) = some k → k ∉ blks vs ∧ Value.ownBlock (.slice A7 m c7) ≠ some k from fun k hk => by
          have e : w3.heap.size = k := by simpa [Value.ownBlock] using hk
          exact ⟨fun hs => by have := HG3.out.lt k hs; omega, fun ho => by have := HG3.out.out_lt ho; omega⟩)
        have HGW := Lib.hid gW
        clear bW gW hm hg3
        go_wp2_with fail
        rw [← hW]
        clear hW
        go_loopw [9, 42] (fun vo i wr => ∃ j : Nat, j ≤ m ∧ i = .int .i64 j ∧ ∃ vso, Aside0 (Ga w.heap.size vo ((L.take j).filter (leastB L)) vso wr) ∧ Aside0 (∀ k ∈ blks vso, k ∈ blks (vs.take j)) ∧ Aside0 (∀ k, vo.ownBlock = some k → k ∉ blks vs ∧ Value.ownBlock (.slice A7 m c7) ≠ some k) ∧ Aside0 (Ga w.heap.size (.slice A7 m c7) L vs wr ∧ Below w.heap.size w wr)) (fun _ i _ => m - (intOf i).toNat)
        case atStart => exact ⟨0, Nat.zero_le _, rfl, [], ⟨by simpa using HGW.out⟩, ⟨fun k hk => by simp [blks] at hk⟩, ⟨HN3.out⟩, ⟨HW.out⟩⟩
        case round =>
          obtain ⟨j, hj, rfl, vso, hO, hI, hA, hG⟩ := hrel
          by_cases hlt : j < m
          · have hjl : j < L.length := by rw [HM.out]; exact hlt
            have hxl : (L.getD j []).length = n := HLE.out.2.1 _ (by simp [hjl])
            obtain ⟨g, cap, u, hv, hcap, hu, hcell, hx⟩ := hG.out.1.cell hjl
            rw [HM.out] at hv hcap
            injection hv with eA _ ec
            subst eA
            subst ec
            obtain ⟨A9, c9, e9, _, _⟩ := hx.rd
            rw [hxl] at e9
            subst e9
            have HX := Lib.hid (And.intro hx (And.intro hu (And.intro hjl hxl)))
            clear hx hu hxl hjl
            have hcellB : ∀ wr2, Below wr.heap.size wr wr2 → True := fun _ _ => trivial
            clear hcellB
            go_wp2_with fail
            clear hcell
            obtain ⟨wo, hwo⟩ : ∃ wo : World, wo = wr := ⟨_, rfl⟩
            rw [← hwo] at hO hG HX ⊢
            clear hwo
            go_loopw [12, 49] (fun l q wr2 => ∃ k : Nat, k ≤ m ∧ q = .int .i64 k ∧ l = .bool (lsT L j k) ∧ Aside0 (Below wo.heap.size wo wr2)) (fun _ q _ => m - (intOf q).toNat)
            case atStart => exact ⟨0, Nat.zero_le _, rfl, rfl, ⟨Below.refl _ _⟩⟩
            case round =>
              obtain ⟨k, hk, rfl, rfl, hB2⟩ := hrel
              by_cases hlt2 : k < m
              · have hkl : k < L.length := by rw [HM.out]; exact hlt2
                have hyl : (L.getD k []).length = n := HLE.out.2.1 _ (by simp [hkl])
                obtain ⟨g', cap', u', hv', _, _, hcell, hy⟩ := (hG.out.1.below hB2.out).cell hkl
                rw [HM.out] at hv'
                injection hv' with eA' _ ec'
                injection eA' with eA'
                injection eA' with eg _ _
                subst eg
                subst ec'
                obtain ⟨A9', c9', e9', _, _⟩ := hy.rd
                rw [hyl] at e9'
                subst e9'
                have HY := Lib.hid (And.intro hy (And.intro hkl hyl))
                have hst := lsT_succ L j k
                clear hy hyl hkl
                cases hls : lsT L j k with
                | false =>
                  rw [hls, Bool.false_and] at hst
                  have HST := Lib.hid hst
                  clear hst hls
                  go_wp2_with fail
                  go_roundw
                  case rel => exact ⟨k + 1, by omega, by go_num, by rw [HST.out], hB2⟩
                  case measure => simp [intOf]; omega
                | true =>
                  rw [hls, Bool.true_and] at hst
                  by_cases hkj : k = j
                  · have hjk : ((j : Int) == (k : Int)) = true := by simp [hkj]
                    have e : lsT L j (k + 1) = true := by rw [hst]; simp [hkj]
                    have HST := Lib.hid e
                    clear hst hls e hkj
                    go_wp2_with fail
                    go_roundw
                    case rel => exact ⟨k + 1, by omega, by go_num, by rw [HST.out], hB2⟩
                    case measure => simp [intOf]; omega
                  · have hjk : ((j : Int) == (k : Int)) = false := by rw [beq_eq_false_iff_ne]; omega
                    have e : lsT L j (k + 1) = !below (L.getD k []) (L.getD j []) := by rw [hst]; simp [hkj]
                    clear hst hls
                    go_wp2_with fail
                    refine (nowhere_any _ _ _ _ _ (by have h := HY.out.1.rd; exact h) ((HX.out.1.below hB2.out).rd) (by rw [HY.out.2.2, HX.out.2.2.2]; exact Nat.le_refl _) (by rw [HY.out.2.2]; omega)).mono ?_
                    rintro e' w4 ⟨rfl, b4⟩
                    have HB4 := Lib.hid (below_to hB2.out b4 hB2.out.size)
                    clear b4 hcell hjk
                    cases hbe : below (L.getD k []) (L.getD j []) with
                    | true =>
                      have HST := Lib.hid (show lsT L j (k + 1) = false by rw [e, hbe]; rfl)
                      clear e hbe
                      go_wp2_with fail
                      go_roundw
                      case rel => exact ⟨k + 1, by omega, by go_num, by rw [HST.out], ⟨HB4.out⟩⟩
                      case measure => simp [intOf]; omega
                    | false =>
                      have HST := Lib.hid (show lsT L j (k + 1) = true by rw [e, hbe]; rfl)
                      clear e hbe
                      go_wp2_with fail
                      go_roundw
                      case rel => exact ⟨k + 1, by omega, by go_num, by rw [HST.out], ⟨HB4.out⟩⟩
                      case measure => simp [intOf]; omega
              · obtain rfl : k = m := by omega
                have hfull := lsT_full HLE.out.1 HX.out.2.2.1
                rw [HM.out] at hfull
                have htk : L.take (j + 1) = L.take j ++ [L.getD j []] := by
                  have hjl := HX.out.2.2.1
                  rw [List.take_succ_eq_append_getElem hjl]
                  simp [hjl]
                have hst : (L.take (j + 1)).filter (leastB L) = (L.take j).filter (leastB L) ++ (if lsT L j k = true then [L.getD j []] else []) := by
                  rw [htk, List.filter_append, hfull]
                  congr 1
                  generalize L.getD j [] = y
                  cases hq : leastB L y <;> simp [hq]
                have hvt : ∀ q, q ∈ blks (vs.take j) → q ∈ blks (vs.take (j + 1)) := fun q hq => by
                  have hjv : j < vs.length := (List.getElem?_eq_some_iff.1 HX.out.2.1).1
                  rw [List.take_succ_eq_append_getElem hjv, blks_append]
                  exact List.mem_append_left _ hq
                have HVT := Lib.hid hvt
                clear hfull htk hvt
                cases hls : lsT L j k with
                | true =>
                  rw [hls, if_pos rfl] at hst
                  have HST := Lib.hid hst
                  have hO2 := hO.out.below hB2.out
                  have hG2 := hG.out.1.below hB2.out
                  have hb2 := below_to hG.out.2 hB2.out hG.out.2.size
                  have hx2 := HX.out.1.below hB2.out
                  have hmem := hG.out.1.mem HX.out.2.1
                  have hfu : ∀ q, Fp (.slice A9 n c9) q → w.heap.size ≤ q ∧ q ∉ blks vso ∧ u9.ownBlock ≠ some q := fun q hq => by
                    have h1 := hmem q (own_iff.2 hq)
                    exact ⟨hG.out.1.far q h1.1, fun hs => h1.2 (hI.out q hs), fun ho => (hA.out q ho).1 h1.1⟩
                  have hgo := Kd.raw_any hO2.out
                  have HO2 := Lib.hid hO2
                  have HG2' := Lib.hid (And.intro hG2 hb2)
                  have HX2 := Lib.hid hx2
                  have HFU := Lib.hid hfu
                  have HGO := Lib.hid hgo
                  have HVL := Lib.hid hO2.len
                  have HFL := Lib.hid (show ((L.take j).filter (leastB L)).length ≤ 7775 from Nat.le_trans (List.length_filter_le _ _) (by rw [List.length_take, HM.out]; omega))
                  clear hst hls hO2 hG2 hb2 hx2 hmem hfu hgo
                  go_wp2_with (first | ((with_reducible refine gate_builtin (b := .append) (xs := #[.tmp 68, .tmp 70]) rfl ?_); at_builtin; refine Kd.R_append (Kd.raw 1) (w0 := w) w.heap.size rfl (.tmp 68) (.tmp 70) 27 24 (.slice none 0 0) 24 rfl Try.underlying27 info24 rfl (by decide) (by omega) u9 (vso.map fun v => [v]) [.slice A9 n c9] [.slice A9 n c9] (fun _ => True) (fun _ => False) rfl rfl ?aP (fun _ hk => hk.elim) (fun _ _ => trivial) ?aO ?aB ?aS ?aL ?_; (case aP => exact ⟨rfl, rfl, fun u hu => by rw [List.mem_singleton.1 hu]; rfl⟩); (case aB => exact HG2'.out.2); (case aO => exact HGO.out); (case aS => exact HG2'.out.2.size); (case aL => rw [List.length_map]; have := HVL.out; have := HFL.out; omega); intro v6 w6 ho6 hb6 hg6 hat6; have HB6 := Lib.hid hb6; have HG6 := Lib.hid (Ga.push HO2.out (nx := L.getD j []) HX2.out HFU.out ho6 hg6 hat6); have HX6 := Lib.hid (And.intro hg6 hat6); clear ho6 hb6 hg6 hat6))
                  go_roundw
                  case rel =>
                    refine ⟨j + 1, by omega, by go_num, vso ++ [.slice A9 n c9], ⟨by rw [HST.out]; exact HG6.out⟩, ⟨fun q hq => ?_⟩, ⟨fun q hq => ?_⟩, ⟨HG2'.out.1.grown HX6.out.1 (fun q hq => hA.out q hq), HB6.out⟩⟩
                    · rw [blks_append, blks_one] at hq
                      rcases List.mem_append.1 hq with hq | hq
                      · exact HVT.out q (hI.out q hq)
                      · have hjv := HX.out.2.1
                        have hjl : j < vs.length := (List.getElem?_eq_some_iff.1 hjv).1
                        rw [List.take_succ_eq_append_getElem hjl, blks_append, (List.getElem?_eq_some_iff.1 hjv).2, blks_one]
                        exact List.mem_append_right _ hq
                    · rcases HX6.out.2 with hat | ⟨b', hb', hle⟩
                      · rw [hat] at hq
                        exact hA.out q hq
                      · rw [hb'] at hq
                        injection hq with hq
                        exact ⟨fun hs => by have := HG2'.out.1.lt q hs; omega, fun ho => by have := HG2'.out.1.out_lt ho; omega⟩
                  case measure => simp [intOf]; omega
                | false =>
                  rw [hls, if_neg (by decide), List.append_nil] at hst
                  have HST := Lib.hid hst
                  have HO2 := Lib.hid (hO.out.below hB2.out)
                  have HG2' := Lib.hid (And.intro (hG.out.1.below hB2.out) (below_to hG.out.2 hB2.out hG.out.2.size))
                  clear hst hls
                  go_wp2_with fail
                  go_roundw
                  case rel => exact ⟨j + 1, by omega, by go_num, vso, ⟨by rw [HST.out]; exact HO2.out⟩, ⟨fun q hq => HVT.out q (hI.out q hq)⟩, hA, ⟨HG2'.out⟩⟩
                  case measure => simp [intOf]; omega
          · obtain rfl : j = m := by omega
            have hlo : (L.take j).filter (leastB L) = least L := by rw [List.take_of_length_le (by rw [HM.out]; exact Nat.le_refl _)]; rfl
            have ho := hO.out
            rw [hlo] at ho
            obtain ⟨A10, c10, e10, _, _⟩ := ho.rd
            have HO := Lib.hid (And.intro ho hG.out.2)
            have HBB' := Lib.hid HBB.out
            clear hO hI hA hG hlo ho
            generalize hq : least L = Q at *
            generalize hql : Q.length = q at *
            subst e10
            have HQ := Lib.hid (And.intro hq hql)
            clear hq
            by_cases h40 : 40 < q
            · have hfin : basisB a b = false ∧ basisL a b = [] := by
                have := HBB.out
                have hd : decide (q ≤ 40) = false := by simp; omega
                rw [hd] at this
                exact ⟨this.1, by rw [this.2]; rfl⟩
              have HF := Lib.hid hfin
              clear hfin hql
              go_wp2_with fail
              go_ret2
              exact ⟨.slice none 0 0, [], by rw [HF.out.1]; rfl, by rw [HF.out.2]; exact .inl ⟨rfl, rfl, rfl⟩, (fun k hk => by cases hk), HO.out.2⟩
            · have hfin : basisB a b = true ∧ basisL a b = Q := by
                have := HBB.out
                have hd : decide (q ≤ 40) = true := by simp; omega
                rw [hd] at this
                exact ⟨this.1, by rw [this.2]; rfl⟩
              have HF := Lib.hid hfin
              clear hfin hql
              go_wp2_with fail
              go_ret2
              obtain ⟨S', hs1, hs2⟩ := HO.out.1.owss
              exact ⟨_, S', by rw [HF.out.1]; rfl, by rw [HF.out.2]; exact hs1, hs2, HO.out.2⟩
end Go.Proofs.Ytfnkobcmhbdcoaa.SolB
