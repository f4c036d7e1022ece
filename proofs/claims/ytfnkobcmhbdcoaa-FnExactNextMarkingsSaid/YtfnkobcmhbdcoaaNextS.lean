/- NextMarkings: the reference's, and eqIntSS, heldIntSS, in plain Lean. -/
import Derived.Test.YtfnkobcmhbdcoaaNextI
import Derived.Test.YtfnkobcmhbdcoaaXNext2
import Derived.Test.YtfnkobcmhbdcoaaXNext3
namespace Go.Proofs.Ytfnkobcmhbdcoaa.NextS
open Go.RowKit Go.Proofs.YtfnkobcmhbdcoaaW.PrintWords Go.Proofs.YtfnkobcmhbdcoaaW.PrintLast Go.Proofs.Ytfnkobcmhbdcoaa.Base Go.Proofs.Ytfnkobcmhbdcoaa.XTypes Go.Proofs.Ytfnkobcmhbdcoaa.XInts Go.Proofs.Ytfnkobcmhbdcoaa.XNext Go.Proofs.Ytfnkobcmhbdcoaa.PureInts Go.Proofs.Ytfnkobcmhbdcoaa.Typed Go.Proofs.Ytfnkobcmhbdcoaa.Trees Go.Proofs.Ytfnkobcmhbdcoaa.MarkT Go.Proofs.Ytfnkobcmhbdcoaa.Rows2 Go.Proofs.Ytfnkobcmhbdcoaa.NextI
set_option linter.unusedVariables false
set_option linter.unusedSimpArgs false
set_option linter.unnecessarySimpa false

theorem rdL_nat {ls : List (List Int)} {i : Nat} (h : i < ls.length) : rd_L10 ls (i : Int) = ls[i] := by simp [rd_L10, h]
theorem rdL_getD (ls : List (List Int)) (r : Nat) : rd_L10 ls (r : Int) = ls.getD r [] := by simp [rd_L10]

/-! ### alike -/
theorem eqSS_loop (ls : List (List Int)) (hs : ∀ l ∈ ls, l.length ≤ 1048576) (hl : ls.length ≤ 1048576) : ∀ (d i : Nat), ls.length - i = d → i ≤ ls.length → Ev (fun k => laws_eqIntSS.l0 k ls ls (i : Int)) true := by
  intro d
  induction d with
  | zero =>
    intro i hd hi
    exact Ev.step (fun k => by simp only [laws_eqIntSS.l0]; rfl) (Ev.neg (by omega) (Ev.now _))
  | succ d ih =>
    intro i hd hi
    have hlt : i < ls.length := by omega
    refine Ev.step (fun k => by simp only [laws_eqIntSS.l0]; rfl) (Ev.pos (by omega) (Ev.pos (by omega) (Ev.pos (by omega) ?_)))
    rw [rdL_nat hlt]
    refine Ev.bind (eqIntS_ev ls[i] (by have := hs ls[i] (List.getElem_mem _); omega)) (Ev.pos rfl ?_)
    rw [wrap_succ (by omega)]
    exact ih (i + 1) (by omega) (by omega)
theorem eqSS_ev (ls : List (List Int)) (hs : ∀ l ∈ ls, l.length ≤ 1048576) (hl : ls.length ≤ 1048576) : Ev (fun k => laws_eqIntSS.f k ls ls) true := by
  unfold laws_eqIntSS.f
  exact Ev.pos rfl (eqSS_loop ls hs hl ls.length 0 (by omega) (by omega))
theorem eqSS_any (v v' : Value) (ls : List (List Int)) (w : World) (h : RdSS w v ls) (h' : RdSS w v' ls) (hs : ∀ l ∈ ls, l.length ≤ 1048576) (hl : ls.length ≤ 1048576) :
    Calls Try.prog 23 #[v, v'] w fun e w' => e = .returned (.bool true) ∧ Below w.heap.size w w' := by
  obtain ⟨A, c, rfl, hc, hr⟩ := h
  obtain ⟨A', c', rfl, hc', hr'⟩ := h'
  obtain ⟨k, hk⟩ := (eqSS_ev ls hs hl).rounds
  refine (laws_eqIntSS.calls k A c ls A' c' ls true w hr hc hr' hc' hk).mono ?_
  rintro e w' ⟨rfl, ⟨n, rfl⟩⟩
  exact ⟨rfl, pw_below_drewN (Below.refl _ _) _⟩

/-! ### held -/
theorem heldSS_loop (ls : List (List Int)) (k : Nat) (hk : k + sumL ls ≤ 4611686018427387904) (hl : ls.length ≤ 1048576) : ∀ (d i : Nat), ls.length - i = d → i ≤ ls.length →
    Ev (fun n => laws_heldIntSS.l0 n (mkSS ls k) ((k + sumL (ls.take i) : Nat) : Int) (i : Int)) ((k + sumL ls : Nat) : Int) := by
  intro d
  induction d with
  | zero =>
    intro i hd hi
    obtain rfl : i = ls.length := by omega
    refine Ev.step (fun k => by simp only [laws_heldIntSS.l0]; rfl) (Ev.neg (by rw [mkSS_len]; omega) (Ev.some_eq ?_))
    rw [List.take_length]
  | succ d ih =>
    intro i hd hi
    have hlt : i < ls.length := by omega
    have hlt' : i < (mkSS ls k).length := by rw [mkSS_len]; omega
    have e : ls = ls.take i ++ ls[i] :: ls.drop (i + 1) := by rw [List.getElem_cons_drop, List.take_append_drop]
    have hget : (mkSS ls k)[i]'hlt' = upFrom ((k + sumL (ls.take i) : Nat) : Int) ls[i].length := by
      have e2 : mkSS ls k = mkSS (ls.take i) k ++ upFrom ((k + sumL (ls.take i) : Nat) : Int) ls[i].length :: mkSS (ls.drop (i + 1)) (k + sumL (ls.take i) + ls[i].length) := by
        conv => lhs; rw [e, mkSS_append]
        simp only [mkSS]
      have e3 : (mkSS ls k)[i]? = some (upFrom ((k + sumL (ls.take i) : Nat) : Int) ls[i].length) := by
        rw [e2, List.getElem?_append_right (by rw [mkSS_len, List.length_take]; omega)]
        have : i - (mkSS (ls.take i) k).length = 0 := by rw [mkSS_len, List.length_take]; omega
        rw [this]
        rfl
      exact (List.getElem?_eq_some_iff.1 e3).2
    have hsum : sumL (ls.take (i + 1)) = sumL (ls.take i) + ls[i].length := by
      rw [List.take_succ_eq_append_getElem hlt, sumL_append]
      simp [sumL]
    have hle : sumL (ls.take i) + ls[i].length ≤ sumL ls := by
      have e4 := congrArg sumL e
      rw [sumL_append] at e4
      simp only [sumL] at e4
      omega
    refine Ev.step (fun k => by simp only [laws_heldIntSS.l0]; rfl) (Ev.pos (by rw [mkSS_len]; omega) (Ev.pos (by omega) ?_))
    rw [rdL_nat hlt', hget]
    refine Ev.bind (heldIntS_ev ((k + sumL (ls.take i) : Nat) : Int) ls[i].length (by omega) (by omega)) (Ev.neg (by omega) ?_)
    rw [wrap_succ (by omega)]
    have e5 : (((k + sumL (ls.take i) : Nat) : Int) + (ls[i].length : Int)) = ((k + sumL (ls.take (i + 1)) : Nat) : Int) := by rw [hsum]; omega
    rw [e5]
    exact ih (i + 1) (by omega) (by omega)
theorem heldSS_any (v : Value) (ls : List (List Int)) (k : Nat) (hk : k + sumL ls ≤ 4611686018427387904) (hl : ls.length ≤ 1048576) (w : World) (h : RdSS w v (mkSS ls k)) :
    Calls Try.prog 26 #[v, .int .i64 k] w fun e w' => e = .returned (.int .i64 (k + sumL ls : Nat)) ∧ Below w.heap.size w w' := by
  obtain ⟨A, c, rfl, hc, hr⟩ := h
  have hev : Ev (fun n => laws_heldIntSS.f n (mkSS ls k) (k : Int)) ((k + sumL ls : Nat) : Int) := by
    unfold laws_heldIntSS.f
    have := heldSS_loop ls k hk hl ls.length 0 (by omega) (by omega)
    simpa [sumL] using this
  obtain ⟨n, hn⟩ := hev.rounds
  refine (laws_heldIntSS.calls n A c (mkSS ls k) (k : Int) _ w hr hc hn).mono ?_
  rintro e w' ⟨rfl, ⟨n, rfl⟩⟩
  exact ⟨rfl, pw_below_drewN (Below.refl _ _) _⟩

/-! ### the reference's NextMarkings -/
theorem spec_inner (l : List Int) (h3 : l.length = 3) (r : Nat) (hr : r < 4) (res : List (List Int)) (hol : (outTo l r).length ≤ r)
    (hnext : Ev (fun k => spec_NextMarkings.l0 k l (outTo l (r + 1)) needs gives ((r + 1 : Nat) : Int)) res) : ∀ (d i : Nat), 3 - i = d → i ≤ 3 → Ev (fun k => spec_NextMarkings.l1 k l (outTo l r) needs gives (r : Int) (nextTo l r i) (i : Int)) res := by
  intro d
  induction d with
  | zero =>
    intro i hd hi
    obtain rfl : i = 3 := by omega
    refine Ev.step (fun k => by simp only [spec_NextMarkings.l1]; rfl) (Ev.neg (by omega) ?_)
    have hu : outTo l (r + 1) = if (nextTo l r 3).length = 3 then outTo l r ++ [nextTo l r 3] else outTo l r := rfl
    by_cases hL : (nextTo l r 3).length = 3
    · refine Ev.pos (by omega) (Ev.pos (by omega) ?_)
      rw [wrap_succ (by omega)]
      rw [hu, if_pos hL] at hnext
      exact hnext
    · refine Ev.neg (by omega) ?_
      rw [wrap_succ (by omega)]
      rw [hu, if_neg hL] at hnext
      exact hnext
  | succ d ih =>
    intro i hd hi
    have hn : rd_L10 needs (r : Int) = needs.getD r [] := rdL_getD _ _
    have hg : rd_L10 gives (r : Int) = gives.getD r [] := rdL_getD _ _
    have hnl : (needs.getD r []).length = 3 := by
      match r, hr with
      | 0, _ => rfl
      | 1, _ => rfl
      | 2, _ => rfl
      | 3, _ => rfl
    have hgl : (gives.getD r []).length = 3 := by
      match r, hr with
      | 0, _ => rfl
      | 1, _ => rfl
      | 2, _ => rfl
      | 3, _ => rfl
    have h4 : needs.length = 4 := rfl
    have h4' : gives.length = 4 := rfl
    have hlen := nextTo_len l r i
    refine Ev.step (fun k => by simp only [spec_NextMarkings.l1]; rfl) (Ev.pos (by omega) (Ev.pos (by omega) (Ev.pos (by omega) (Ev.pos (by omega) (Ev.pos (by omega) (Ev.pos (by rw [hn, hnl]; omega) ?_))))))
    rw [hn, hg, l1In_eq]
    simp only [Option.bind_some]
    have hu : nextTo l r (i + 1) = if may l r i = true then nextTo l r i ++ [entry l r i] else nextTo l r i := rfl
    have hi1 := ih (i + 1) (by omega) (by omega)
    cases hb : (decide (rd (needs.getD r []) (i : Int) ≤ rd l (i : Int)) && decide (rd l (i : Int) ≤ 1000)) with
    | true =>
      have hm : may l r i = true := hb
      refine Ev.pos rfl (Ev.pos (by omega) (Ev.pos (by rw [hgl]; omega) (Ev.pos (by omega) ?_)))
      rw [wrap_succ (by omega)]
      rw [hu, if_pos hm] at hi1
      exact hi1
    | false =>
      have hm : may l r i = false := hb
      refine Ev.neg (by decide) ?_
      rw [wrap_succ (by omega)]
      rw [hu, if_neg (by rw [hm]; decide)] at hi1
      exact hi1
theorem spec_outer (l : List Int) (h3 : l.length = 3) : ∀ (d r : Nat), 4 - r = d → r ≤ 4 → Ev (fun k => spec_NextMarkings.l0 k l (outTo l r) needs gives (r : Int)) (outTo l 4) := by
  intro d
  induction d with
  | zero =>
    intro r hd hr
    obtain rfl : r = 4 := by omega
    exact Ev.step (fun k => by simp only [spec_NextMarkings.l0]; rfl) (Ev.neg (by omega) (Ev.now _))
  | succ d ih =>
    intro r hd hr
    refine Ev.step (fun k => by simp only [spec_NextMarkings.l0]; rfl) (Ev.pos (by omega) ?_)
    exact spec_inner l h3 r (by omega) _ (outTo_len l r) (ih (r + 1) (by omega) (by omega)) 3 0 (by omega) (by omega)
theorem spec_ev (l : List Int) : Ev (fun k => spec_NextMarkings.f k l) (nextM l) := by
  unfold spec_NextMarkings.f nextM
  simp only [Option.bind_some]
  by_cases h3 : l.length = 3
  · rw [if_pos h3]
    exact Ev.pos (by omega) (spec_outer l h3 4 0 (by omega) (by omega))
  · rw [if_neg h3]
    exact Ev.neg (by omega) (Ev.now _)
theorem spec_next (l : List Int) (v : Value) (w : World) (hr : RdI w v l) : Calls Try.prog 21 #[v] w fun e w' => ∃ v', e = .returned v' ∧ RdSS w' v' (nextM l) ∧ Below w.heap.size w w' := by
  obtain ⟨A, c, rfl, hc, hC⟩ := hr
  obtain ⟨k, hk⟩ := (spec_ev l).rounds
  refine (spec_NextMarkings.calls k A c l _ w hC hc hk).mono ?_
  rintro e w' ⟨v', rfl, hN, hb⟩
  obtain ⟨A', c', rfl, hl, hC'⟩ := Kd.N_reads hN
  exact ⟨_, rfl, ⟨A', c', rfl, hl, hC'⟩, hb⟩
end Go.Proofs.Ytfnkobcmhbdcoaa.NextS
