/- spec.IsSolution: what it comes to. -/
import Derived.Test.YtfnkobcmhbdcoaaPureSum
namespace Go.Proofs.Ytfnkobcmhbdcoaa.Solution
open Go.RowKit Go.Proofs.YtfnkobcmhbdcoaaW.PrintWords Go.Proofs.YtfnkobcmhbdcoaaW.PrintLast Go.Proofs.Ytfnkobcmhbdcoaa.Base Go.Proofs.Ytfnkobcmhbdcoaa.XTypes Go.Proofs.Ytfnkobcmhbdcoaa.XInts Go.Proofs.Ytfnkobcmhbdcoaa.XProb Go.Proofs.Ytfnkobcmhbdcoaa.XSum Go.Proofs.Ytfnkobcmhbdcoaa.Problem Go.Proofs.Ytfnkobcmhbdcoaa.PureInts Go.Proofs.Ytfnkobcmhbdcoaa.PureSum

theorem boundB_bad {l : List Int} {k : Nat} (hk : k < l.length) (h : (decide (0 ≤ rd l (k : Int)) && decide (rd l (k : Int) ≤ 1000)) = false) : boundB l = false := by
  unfold boundB
  rw [List.all_eq_false]
  refine ⟨l[k], List.getElem_mem _, ?_⟩
  rw [rd_nat hk] at h
  rw [h]
  decide
theorem boundB_good {l : List Int} (h : ∀ k : Nat, k < l.length → (decide (0 ≤ rd l (k : Int)) && decide (rd l (k : Int) ≤ 1000)) = true) : boundB l = true := by
  unfold boundB
  rw [List.all_eq_true]
  intro x hx
  obtain ⟨k, hk, rfl⟩ := List.mem_iff_getElem.1 hx
  have := h k hk
  rw [rd_nat hk] at this
  exact this

set_option maxHeartbeats 1000000 in
set_option maxRecDepth 100000 in
theorem specSolution_any (A0 : Option Addr) (c0 : Nat) (a : List Int) (A1 : Option Addr) (c1 : Nat) (b : List Int) (A2 : Option Addr) (c2 : Nat) (x : List Int) (w : World) (hr0 : Kd.C (Kd.int .i64) w A0 a.length a) (hc0 : a.length ≤ c0) (hr1 : Kd.C (Kd.int .i64) w A1 b.length b) (hc1 : b.length ≤ c1)
    (hr2 : Kd.C (Kd.int .i64) w A2 x.length x) (hc2 : x.length ≤ c2) (ha : a.length ≤ 1099511627776) (hb : b.length ≤ 1099511627776) (hx : x.length ≤ 1099511627776) :
    Calls Try.prog 32 #[.slice A0 a.length c0, .slice A1 b.length c1, .slice A2 x.length c2] w fun e w' => e = .returned (.bool (solB a b x)) ∧ Drawn0 w w' := by
  have HR0 := Lib.hid hr0
  have HR1 := Lib.hid hr1
  have HR2 := Lib.hid hr2
  have HC0 := Lib.hid hc0
  have HC1 := Lib.hid hc1
  have HC2 := Lib.hid hc2
  clear hr0 hr1 hr2 hc0 hc1 hc2
  obtain ⟨k, hk⟩ := (specProblem_ev a b ha hb).rounds
  have HK := Lib.hid hk
  clear hk
  go_enter Try.func32, Try.ntmps32
  cases hp : probB a b with
  | false =>
    have hfin : solB a b x = false := by unfold solB; rw [hp]; rfl
    have HF := Lib.hid hfin
    have HP := Lib.hid hp
    clear hfin hp
    go_wp2_with fail
    refine (spec_IsProblem.calls k _ _ a _ _ b _ _ HR0.out HC0.out HR1.out HC1.out HK.out).mono ?_
    rintro e w' ⟨rfl, ⟨n, rfl⟩⟩
    rw [HP.out]
    go_wp2_with fail
    go_ret
    exact ⟨by rw [HF.out]; rfl, ⟨_, rfl⟩⟩
  | true =>
    obtain ⟨hfa, hfb, hl0, hl1, hl5⟩ := probB_len hp
    have HP := Lib.hid hp
    have HFA := Lib.hid hfa
    have HFB := Lib.hid hfb
    clear hp hfa hfb
    by_cases hlen : x.length = a.length + b.length
    · go_wp2_with fail
      refine (spec_IsProblem.calls k _ _ a _ _ b _ _ HR0.out HC0.out HR1.out HC1.out HK.out).mono ?_
      rintro e w' ⟨rfl, ⟨n, rfl⟩⟩
      rw [HP.out]
      have hl : ((x.length : Int) != (a.length : Int) + b.length) = false := by rw [hlen]; simp
      have HLEN := Lib.hid hlen
      clear hlen
      go_wp2_with fail
      go_loopw [7] (fun i wr => ∃ k m : Nat, k ≤ x.length ∧ i = .int .i64 k ∧ wr = w.drewN m ∧ Aside0 (∀ j : Nat, j < k → (decide (0 ≤ rd x (j : Int)) && decide (rd x (j : Int) ≤ 1000)) = true)) (fun i _ => x.length - (intOf i).toNat)
      case atStart => exact ⟨0, n, Nat.zero_le _, rfl, rfl, ⟨fun j hj => absurd hj (Nat.not_lt_zero _)⟩⟩
      case round =>
        obtain ⟨i, m, hk, rfl, rfl, hgood⟩ := hrel
        by_cases hlt : i < x.length
        · obtain ⟨ad, rfl, hcell⟩ := Kd.at_int (Kd.C_drewN HR2.out m) (i : Int) (by omega) (by omega)
          simp only [Int.toNat_natCast] at hcell
          generalize hy : rd x (i : Int) = y at *
          have HY := Lib.hid hy
          clear hy
          go_wp2_with fail
          refine (spec_l1In.calls y 0 1000 _ _ (l1In_eq y 0 1000)).mono ?_
          rintro e w' ⟨rfl, ⟨n1, rfl⟩⟩
          cases hb : (decide (0 ≤ y) && decide (y ≤ 1000)) with
          | true =>
            have HB := Lib.hid hb
            clear hb
            go_wp2_with fail
            go_roundw
            case rel => exact ⟨i + 1, m + n1, by omega, by go_num, rfl, ⟨fun j hj => by
              by_cases e : j = i
              · subst e; rw [HY.out]; exact HB.out
              · exact hgood.out j (by omega)⟩⟩
            case measure => simp [intOf]; omega
          | false =>
            have hfin : solB a b x = false := by
              unfold solB
              rw [boundB_bad hlt (by rw [HY.out]; exact hb)]
              simp
            have HF := Lib.hid hfin
            clear hfin hb
            go_wp2_with fail
            go_ret
            exact ⟨by rw [HF.out]; rfl, ⟨_, rfl⟩⟩
        · obtain rfl : i = x.length := by omega
          have hbx := boundB_good hgood.out
          have hxl : x.length = a.length + b.length := HLEN.out
          have s1 : Small a (x.take a.length) := small_of HFA.out (by omega) (fun i hi => by
            have h := boundB_at hbx (i := i) (by omega)
            rw [rd_nat (by simp; omega)]
            rw [rd_nat (by omega)] at h
            simpa using h)
          have s2 : Small b (x.drop a.length) := small_of HFB.out (by omega) (fun i hi => by
            have h := boundB_at hbx (i := a.length + i) (by omega)
            rw [rd_nat (by simp; omega)]
            rw [rd_nat (by omega)] at h
            simpa using h)
          obtain ⟨k1, hk1⟩ := (l34Sum_ev a (x.take a.length) (by simp; omega) s1).rounds
          obtain ⟨k2, hk2⟩ := (l34Sum_ev b (x.drop a.length) (by simp; omega) s2).rounds
          have hfin : solB a b x = decide (dot a (x.take a.length) = dot b (x.drop a.length)) := by
            unfold solB
            rw [HP.out, hbx]
            simp [hxl]
          generalize dot a (x.take a.length) = d1 at *
          generalize dot b (x.drop a.length) = d2 at *
          have HF := Lib.hid hfin
          have HK1 := Lib.hid hk1
          have HK2 := Lib.hid hk2
          obtain ⟨i0, hi0, _, hsz, _⟩ := info_parts info_int
          obtain ⟨hcut1, hA1, hC1⟩ := print_take_of (P := Try.prog) (Value.int .i64) 0 24 3 .i64 Try.underlying24 hi0 hsz A2 c2 x (a.length : Int) (by omega) (by omega) HC2.out
          obtain ⟨A3, hcut2, hA2, hC2⟩ := print_drop_of (P := Try.prog) (Value.int .i64) 0 24 3 .i64 Try.underlying24 hi0 hsz A2 c2 x (a.length : Int) (by omega) (by omega) HC2.out
          simp only [Int.toNat_natCast] at hcut1 hA1 hC1 hcut2 hA2 hC2
          have HRa := Lib.hid (Kd.C_of_reads (h1 := fun _ => rfl) (hA1 _ (Kd.reads_of_C HR2.out)))
          have HRb := Lib.hid (Kd.C_of_reads (h1 := fun _ => rfl) (hA2 _ (Kd.reads_of_C HR2.out)))
          have HCa := Lib.hid hC1
          have HCb := Lib.hid hC2
          clear hfin hk1 hk2 hA1 hC1 hA2 hC2 hi0 hsz s1 s2 hbx hgood
          generalize hya : x.take a.length = ya at *
          generalize hyb : x.drop a.length = yb at *
          have HYa := Lib.hid hya
          have HYb := Lib.hid hyb
          clear hya hyb hxl hlt hk hl
          go_wp2_with fail
          go_quiet (first | (go_at_call 63; (with_reducible refine (spec_l34Sum.calls k1 _ _ a _ _ ya _ _ ?s1 ?s2 ?s3 ?s4 HK1.out).mono ?_); (case s1 => repeat (first | exact HR0.out | (with_reducible refine Kd.C_drewN ?_ _) | (with_reducible refine Kd.C_drew ?_))); (case s2 => exact HC0.out); (case s3 => repeat (first | exact HRa.out | (with_reducible refine Kd.C_drewN ?_ _) | (with_reducible refine Kd.C_drew ?_))); (case s4 => exact HCa.out); rintro e w' ⟨rfl, ⟨nd, rfl⟩⟩; (first | exact ⟨rfl, _, World.drewN_drewN _ _ _⟩ | exact ⟨rfl, _, Eq.trans (World.drewN_drewN _ _ _) (congrArg (World.drewN _) (Nat.add_assoc _ _ _))⟩)) | (go_at_call 63; (with_reducible refine (spec_l34Sum.calls k2 _ _ b _ _ yb _ _ ?s1 ?s2 ?s3 ?s4 HK2.out).mono ?_); (case s1 => repeat (first | exact HR1.out | (with_reducible refine Kd.C_drewN ?_ _) | (with_reducible refine Kd.C_drew ?_))); (case s2 => exact HC1.out); (case s3 => repeat (first | exact HRb.out | (with_reducible refine Kd.C_drewN ?_ _) | (with_reducible refine Kd.C_drew ?_))); (case s4 => exact HCb.out); rintro e w' ⟨rfl, ⟨nd, rfl⟩⟩; (first | exact ⟨rfl, _, World.drewN_drewN _ _ _⟩ | exact ⟨rfl, _, Eq.trans (World.drewN_drewN _ _ _) (congrArg (World.drewN _) (Nat.add_assoc _ _ _))⟩)))
          go_wp2_with fail
          go_ret
          refine ⟨?_, ⟨_, World.drewN_drewN _ _ _⟩⟩
          rw [HF.out]
          by_cases e : d1 = d2 <;> simp [e]
    · have hfin : solB a b x = false := by unfold solB; simp [hlen]
      have HF := Lib.hid hfin
      clear hfin
      have hl : ((x.length : Int) != (a.length : Int) + b.length) = true := by simp; omega
      clear hlen
      go_wp2_with fail
      refine (spec_IsProblem.calls k _ _ a _ _ b _ _ HR0.out HC0.out HR1.out HC1.out HK.out).mono ?_
      rintro e w' ⟨rfl, ⟨n, rfl⟩⟩
      rw [HP.out]
      go_wp2_with fail
      go_ret
      exact ⟨by rw [HF.out]; rfl, ⟨_, rfl⟩⟩

/-- As the printed texts call it. -/
def spec_IsSolution.f (l0 l1 l2 : List Int) : Option Bool := if l0.length ≤ 1099511627776 ∧ l1.length ≤ 1099511627776 ∧ l2.length ≤ 1099511627776 then some (solB l0 l1 l2) else none
theorem spec_IsSolution.calls (A0 : Option Addr) (c0 : Nat) (l0 : List Int) (A1 : Option Addr) (c1 : Nat) (l1 : List Int) (A2 : Option Addr) (c2 : Nat) (l2 : List Int) (r : Bool) (w : World) (hr0 : Kd.C (Kd.int .i64) w A0 l0.length l0) (hc0 : l0.length ≤ c0) (hr1 : Kd.C (Kd.int .i64) w A1 l1.length l1) (hc1 : l1.length ≤ c1) (hr2 : Kd.C (Kd.int .i64) w A2 l2.length l2) (hc2 : l2.length ≤ c2) (h : spec_IsSolution.f l0 l1 l2 = some r) :
    Calls Try.prog 32 #[.slice A0 l0.length c0, .slice A1 l1.length c1, .slice A2 l2.length c2] w fun e w' => e = .returned (.bool r) ∧ Drawn0 w w' := by
  unfold spec_IsSolution.f at h
  split at h
  · rename_i hh
    obtain rfl := Option.some.inj h
    exact specSolution_any A0 c0 l0 A1 c1 l1 A2 c2 l2 w hr0 hc0 hr1 hc1 hr2 hc2 hh.1 hh.2.1 hh.2.2
  · cases h
end Go.Proofs.Ytfnkobcmhbdcoaa.Solution
