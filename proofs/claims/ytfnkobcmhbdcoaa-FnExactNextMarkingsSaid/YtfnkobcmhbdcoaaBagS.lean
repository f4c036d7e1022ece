/- BagTerm: the reference's, in plain Lean. -/
import Derived.Test.YtfnkobcmhbdcoaaBagT
namespace Go.Proofs.Ytfnkobcmhbdcoaa.BagS
open Go.RowKit Go.Proofs.YtfnkobcmhbdcoaaW.PrintWords Go.Proofs.YtfnkobcmhbdcoaaW.PrintLast Go.Proofs.Ytfnkobcmhbdcoaa.Base Go.Proofs.Ytfnkobcmhbdcoaa.XTypes Go.Proofs.Ytfnkobcmhbdcoaa.XInts Go.Proofs.Ytfnkobcmhbdcoaa.PureInts Go.Proofs.Ytfnkobcmhbdcoaa.Typed Go.Proofs.Ytfnkobcmhbdcoaa.Trees Go.Proofs.Ytfnkobcmhbdcoaa.XTm Go.Proofs.Ytfnkobcmhbdcoaa.XBag Go.Proofs.Ytfnkobcmhbdcoaa.EqT Go.Proofs.Ytfnkobcmhbdcoaa.MarkT Go.Proofs.Ytfnkobcmhbdcoaa.HeldT Go.Proofs.Ytfnkobcmhbdcoaa.NumT Go.Proofs.Ytfnkobcmhbdcoaa.LawNum Go.Proofs.Ytfnkobcmhbdcoaa.BagT
set_option linter.unusedVariables false
set_option linter.unusedSimpArgs false
set_option linter.unnecessarySimpa false

abbrev Bad : Int × ByteArray × Int × List T × Bool := (0, ⟨#[]⟩, 0, [], false)
def ansB (l : List Int) : Int × ByteArray × Int × List T × Bool := (bagO l, ⟨#[]⟩, 0, bagA l, bagB l)
theorem ans_bad {l : List Int} (h : bagB l = false) : ansB l = Bad := by simp [ansB, bagO, bagA, h]
theorem ans_good {l : List Int} (h : bagB l = true) : ansB l = (joinO (upTo l l.length), ⟨#[]⟩, 0, joinA (upTo l l.length), true) := by simp [ansB, bagO, bagA, h]
theorem value_join (os : List Int) (h : os ≠ []) (h7 : os.length ≤ 7) : spec_l11Value.f 4 (os.map leaf) = some (joinO os, ⟨#[]⟩, 0, joinA os) := by
  match os, h with
  | [o], _ => simp [spec_l11Value.f, joinO, joinA, leaf, rd_T35]
  | o :: p :: os, _ =>
    unfold spec_l11Value.f
    rw [if_neg (by simp; omega)]
    simp only [Option.bind_some, List.length_nil, List.nil_append, Nat.zero_add]
    rw [if_pos (by rw [List.length_map]; simp at h7 ⊢; omega)]
    rfl
theorem bag_end (l : List Int) (h3 : l.length = 3) (hg : ∀ q : Nat, q < 3 → okN (rd l (q : Int)) = true) : Ev (fun k => spec_BagTerm.l0 k l ((upTo l 3).map leaf) 3) (ansB l) := by
  have hall : l.all okN = true := all_good (fun i hi => hg i (by omega))
  refine Ev.step (fun k => by simp only [spec_BagTerm.l0]; rfl) (Ev.neg (by omega) ?_)
  rw [List.length_map]
  by_cases h7 : (upTo l 3).length ≤ 7
  · have hb : bagB l = true := by
      unfold bagB
      rw [h3, hall]
      simp [h7]
    rw [ans_good hb, h3]
    refine Ev.neg (by omega) ?_
    cases hos : upTo l 3 with
    | nil => exact Ev.pos rfl (Ev.now _)
    | cons o os =>
      refine Ev.neg (by simp; omega) ?_
      rw [← hos, value_join (upTo l 3) (by rw [hos]; simp) h7]
      exact Ev.now _
  · have hb : bagB l = false := by
      unfold bagB
      rw [h3]
      simp [h7]
    rw [ans_bad hb]
    exact Ev.pos (by omega) (Ev.now _)
theorem bag_inner (l : List Int) (h3 : l.length = 3) (j : Nat) (hj : j < 3) (n : Nat) (hy : rd l (j : Int) = n) (hn : n ≤ 7) (hlen : (upTo l j).length ≤ 7 * j) (hnext : Ev (fun k => spec_BagTerm.l0 k l ((upTo l (j + 1)).map leaf) ((j + 1 : Nat) : Int)) (ansB l)) :
    ∀ (d k : Nat), n - k = d → k ≤ n → Ev (fun q => spec_BagTerm.l1 q l ((upTo l j ++ List.replicate k (1 + (j : Int))).map leaf) (j : Int) (k : Int)) (ansB l) := by
  intro d
  induction d with
  | zero =>
    intro k hd hk
    obtain rfl : k = n := by omega
    refine Ev.step (fun k => by simp only [spec_BagTerm.l1]; rfl) (Ev.pos (by omega) (Ev.pos (by omega) (Ev.neg (by omega) ?_)))
    rw [wrap_succ (by omega)]
    have e := upTo_succ l j
    rw [hy, Int.toNat_natCast] at e
    rw [← e]
    exact hnext
  | succ d ih =>
    intro k hd hk
    refine Ev.step (fun k => by simp only [spec_BagTerm.l1]; rfl) (Ev.pos (by omega) (Ev.pos (by omega) (Ev.pos (by omega) (Ev.pos (by rw [List.length_map, List.length_append, List.length_replicate]; omega) ?_))))
    rw [wrap_succ (by omega), wrap_id (x := 1 + (j : Int)) (by omega) (by omega)]
    have := ih (k + 1) (by omega) (by omega)
    rw [List.replicate_succ', ← List.append_assoc, List.map_append] at this
    exact this
theorem bag_outer (l : List Int) (h3 : l.length = 3) : ∀ (d j : Nat), 3 - j = d → j ≤ 3 → (∀ q : Nat, q < j → okN (rd l (q : Int)) = true) → Ev (fun k => spec_BagTerm.l0 k l ((upTo l j).map leaf) (j : Int)) (ansB l) := by
  intro d
  induction d with
  | zero =>
    intro j hd hj hg
    obtain rfl : j = 3 := by omega
    exact bag_end l h3 hg
  | succ d ih =>
    intro j hd hj hg
    refine Ev.step (fun k => by simp only [spec_BagTerm.l0]; rfl) (Ev.pos (by omega) (Ev.pos (by omega) (Ev.pos (by omega) ?_)))
    rw [l1In_eq]
    simp only [Option.bind_some]
    cases hb : (decide (0 ≤ rd l (j : Int)) && decide (rd l (j : Int) ≤ 7)) with
    | true =>
      have hb' : okN (rd l (j : Int)) = true := hb
      have hr : 0 ≤ rd l (j : Int) ∧ rd l (j : Int) ≤ 7 := by simpa using hb
      obtain ⟨n, hn⟩ : ∃ n : Nat, rd l (j : Int) = n := ⟨(rd l (j : Int)).toNat, by omega⟩
      refine Ev.pos rfl ?_
      have hnext := ih (j + 1) (by omega) (by omega) (fun q hq => by
        by_cases e : q = j
        · subst e; exact hb'
        · exact hg q (by omega))
      have := bag_inner l h3 j (by omega) n hn (by omega) (upTo_len l j hg) hnext n 0 (by omega) (by omega)
      simpa using this
    | false =>
      have : bagB l = false := bagB_bad (j := j) (by omega) hb
      rw [ans_bad this]
      exact Ev.neg (by decide) (Ev.now _)
theorem spec_bag_ev (l : List Int) : Ev (fun k => spec_BagTerm.f k l) (ansB l) := by
  unfold spec_BagTerm.f
  by_cases h3 : l.length = 3
  · refine Ev.pos (by omega) ?_
    have := bag_outer l h3 3 0 (by omega) (by omega) (fun q hq => absurd hq (Nat.not_lt_zero _))
    simpa [upTo] using this
  · have : bagB l = false := by simp [bagB, h3]
    rw [ans_bad this]
    exact Ev.neg (by omega) (Ev.now _)
theorem spec_bag (l : List Int) (v : Value) (w : World) (hr : RdI w v l) : Calls Try.prog 41 #[v] w (Shows (bagO l) (bagA l) (bagB l) w) := by
  obtain ⟨A, c, rfl, hc, hC⟩ := hr
  obtain ⟨k, hk⟩ := (spec_bag_ev l).rounds
  refine (spec_BagTerm.calls k A c l _ _ _ _ _ w hC hc hk).mono ?_
  rintro e w' ⟨va, rfl, ⟨A', c', rfl, hl, hF⟩, hb⟩
  exact ⟨_, rfl, ⟨A', c', rfl, hl, Kd.F_now hF⟩, hb⟩
end Go.Proofs.Ytfnkobcmhbdcoaa.BagS
