/- slices.Grow of nil and slices.Concat at []int. -/
import Derived.Test.YtfnkobcmhbdcoaaBase
namespace Go.Proofs.Ytfnkobcmhbdcoaa.Concat
open Go.RowKit Go.Proofs.YtfnkobcmhbdcoaaW.PrintWords Go.Proofs.YtfnkobcmhbdcoaaW.PrintLast Go.Proofs.YtfnkobcmhbdcoaaW.PrintMore Go.Proofs.Ytfnkobcmhbdcoaa.Base
set_option linter.unusedVariables false
set_option linter.unusedSimpArgs false
set_option linter.unnecessarySimpa false

set_option maxHeartbeats 1000000 in
set_option maxRecDepth 100000 in
theorem grow_nil (n : Int) (h0 : 0 ≤ n) (h1 : n ≤ 1099511627776) (w : World) :
    Calls Try.prog 78 #[.slice none 0 0, .int .i64 n] w fun e w' => ∃ v, e = .returned v ∧ Kd.R (Kd.int .i64) 3 w' w.heap.size (fun _ => True) v [] ∧ Below w.heap.size w w' := by
  by_cases hz : 0 < n
  · go_enter Try.func78, Try.ntmps78
    go_wp2_with (first | ((with_reducible refine gate_builtin (b := .append) (xs := #[.tmp 20, .tmp 21]) rfl ?_); refine Kd.R_append_zeros (Kd.int .i64) (w0 := w) w.heap.size rfl (.tmp 20) (.tmp 21) 24 3 3 (.int .i64 0) 8 rfl Try.underlying24 Try.underlying3 info_int rfl (by decide) (by decide) (.slice none 0 0) [] 0 n (fun _ => True) rfl rfl rfl (fun _ _ => trivial) (Kd.R_nil _ _ _ _ _) h0 (Below.refl _ _) (Nat.le_refl _) (by simp; omega) ?_; intro v1 w1 ho hb _ _; obtain ⟨A1, c1, hv1⟩ := Kd.R_slice ho; have HV := Lib.hid hv1; have HO := Lib.hid ho; have HB := Lib.hid hb; clear ho hb hv1; rw [HV.out]))
    go_ret
    refine ⟨.slice A1 0 c1, rfl, ?_, HB.out⟩
    have h1 := HO.out
    rw [HV.out] at h1
    exact Kd.R_take (m := 0) h1 (Nat.zero_le _)
  · obtain rfl : n = 0 := by omega
    go_enter Try.func78, Try.ntmps78
    go_wp2
    go_ret
    exact ⟨_, rfl, Kd.R_nil _ _ _ _ _, Below.refl _ _⟩


theorem sum_take_succ (xss : List (List Int)) (k : Nat) (h : k < xss.length) : ((xss.take (k + 1)).map List.length).sum = ((xss.take k).map List.length).sum + (rdr xss (k : Int)).length := by
  rw [List.take_succ_eq_append_getElem h, List.map_append, List.sum_append]
  simp [rdr, List.getD_eq_getElem?_getD, h]
theorem sum_take_le (xss : List (List Int)) (k : Nat) : ((xss.take k).map List.length).sum ≤ (xss.map List.length).sum := by
  conv => rhs; rw [← List.take_append_drop k xss]
  rw [List.map_append, List.sum_append]
  omega
theorem flatten_take_succ (xss : List (List Int)) (k : Nat) (h : k < xss.length) : (xss.take (k + 1)).flatten = (xss.take k).flatten ++ rdr xss (k : Int) := by
  rw [List.take_succ_eq_append_getElem h, List.flatten_append]
  simp [rdr, List.getD_eq_getElem?_getD, h]

set_option maxHeartbeats 1000000 in
set_option maxRecDepth 100000 in
theorem concat_any (A : Option Addr) (c : Nat) (xss : List (List Int)) (w : World) (hr : Kd.C (Kd.slice 3 (Kd.int .i64)) w A xss.length xss) (hlen : (xss.map List.length).sum ≤ 1099511627776) (hl : xss.length ≤ 1099511627776) :
    Calls Try.prog 58 #[.slice A xss.length c] w fun e w' => ∃ v, e = .returned v ∧ Kd.R (Kd.int .i64) 3 w' w.heap.size (fun _ => True) v xss.flatten ∧ Below w.heap.size w w' := by
  have HR := Lib.hid hr
  clear hr
  go_enter Try.func58, Try.ntmps58
  go_wp2_with fail
  go_loop [3, 11] (fun s i => ∃ k : Nat, k ≤ xss.length ∧ i = .int .i64 k ∧ s = .int .i64 (((xss.take k).map List.length).sum : Nat)) (fun _ i => xss.length - (intOf i).toNat)
  case atStart => exact ⟨0, Nat.zero_le _, rfl, by simp⟩
  case round =>
    obtain ⟨k, hk, rfl, rfl⟩ := hrel
    by_cases hlt : k < xss.length
    · have hs1 := sum_take_succ xss k hlt
      have hs2 := sum_take_le xss (k + 1)
      obtain ⟨ad, A0, c0, rfl, hcell, hcap, hC⟩ := row_at HR.out (k : Int) (by omega) (by omega)
      simp only [Int.toNat_natCast] at hcell
      generalize hx : ((xss.take k).map List.length).sum = s at *
      have HX := Lib.hid hx
      have HS := Lib.hid hs1
      have hsb : s + (rdr xss k).length ≤ 1099511627776 := by omega
      clear hx hs1 hs2 hC hcap
      go_wp2_with fail
      go_round
      case rel => exact ⟨k + 1, by omega, by go_num, by rw [HS.out]; go_num⟩
      case measure => simp [intOf]; omega
    · obtain rfl : k = xss.length := by omega
      rw [List.take_length]
      generalize hx : ((xss).map List.length).sum = s at *
      have HX := Lib.hid hx
      clear hx hlt hk
      go_wp2_with fail
      refine (grow_nil s (by omega) (by omega) w).mono ?_
      rintro e w1 ⟨v1, rfl, ho1, hb1⟩
      have HO := Lib.hid ho1
      have HB := Lib.hid hb1
      clear ho1 hb1
      go_wp2_with fail
      go_loopw [6, 27] (fun v i wr => ∃ k : Nat, k ≤ xss.length ∧ i = .int .i64 k ∧ Aside0 (Kd.R (Kd.int .i64) 3 wr w.heap.size (fun _ => True) v (xss.take k).flatten) ∧ Aside0 (Below w.heap.size w wr)) (fun _ i _ => xss.length - (intOf i).toNat)
      case atStart => exact ⟨0, Nat.zero_le _, rfl, ⟨HO.out⟩, ⟨HB.out⟩⟩
      case round =>
        obtain ⟨k, hk, rfl, hO, hB⟩ := hrel
        by_cases hlt : k < xss.length
        · have hfl := Lib.hid (flatten_take_succ xss k hlt)
          have hs1 := sum_take_succ xss k hlt
          have hs2 := sum_take_le xss (k + 1)
          have hs3 : (xss.take k).flatten.length = ((xss.take k).map List.length).sum := by rw [List.length_flatten]
          have hs4 : (xss.take k).flatten.length + (rdr xss k).length ≤ 1099511627776 := by have := HX.out; omega
          obtain ⟨ad, A0, c0, rfl, hcell, hcap, hC⟩ := row_at (Kd.C_below HR.out hB.out) (k : Int) (by omega) (by omega)
          simp only [Int.toNat_natCast] at hcell
          have HC := Lib.hid hC
          have H4 := Lib.hid hs4
          clear hs1 hs2 hs3 hC hcap hs4
          go_wp2_with (first | ((with_reducible refine gate_builtin (b := .append) (xs := #[.tmp 31, .tmp 32]) rfl ?_); refine Kd.R_append_row (Value.int .i64) (0 : Int) (w0 := w) w.heap.size rfl (.tmp 31) (.tmp 32) 24 3 (.int .i64 0) 8 rfl Try.underlying24 info_int rfl (by decide) u6 (xss.take k).flatten (rdr xss k) A0 (rdr xss k).length c0 (fun _ => True) rfl rfl (fun _ _ => trivial) hO.out HC.out hB.out hB.out.size (by have := H4.out; omega) ?_; intro v1 w1 ho hb _ _; have HO := Lib.hid ho; have HB := Lib.hid hb; clear ho hb))
          go_roundw
          case rel => exact ⟨k + 1, by omega, by go_num, ⟨by rw [hfl.out]; exact HO.out⟩, ⟨HB.out⟩⟩
          case measure => simp [intOf]; omega
        · obtain rfl : k = xss.length := by omega
          rw [List.take_length] at hO
          clear hlt hk
          go_wp2_with fail
          go_ret
          exact ⟨_, rfl, hO.out, hB.out⟩

end Go.Proofs.Ytfnkobcmhbdcoaa.Concat
