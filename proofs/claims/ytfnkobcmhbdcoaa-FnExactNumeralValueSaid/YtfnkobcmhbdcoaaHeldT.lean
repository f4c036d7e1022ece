/- laws.heldTerm over what laws.markTerm has left: the plain law. -/
import Derived.Test.YtfnkobcmhbdcoaaEqT
import Derived.Test.YtfnkobcmhbdcoaaMarkT
import Derived.Test.YtfnkobcmhbdcoaaXTm3
namespace Go.Proofs.Ytfnkobcmhbdcoaa.HeldT
open Go.RowKit Go.Proofs.YtfnkobcmhbdcoaaW.PrintWords Go.Proofs.YtfnkobcmhbdcoaaW.PrintLast Go.Proofs.Ytfnkobcmhbdcoaa.Base Go.Proofs.Ytfnkobcmhbdcoaa.XTypes Go.Proofs.Ytfnkobcmhbdcoaa.PureInts Go.Proofs.Ytfnkobcmhbdcoaa.Typed Go.Proofs.Ytfnkobcmhbdcoaa.Trees Go.Proofs.Ytfnkobcmhbdcoaa.XTm Go.Proofs.Ytfnkobcmhbdcoaa.EqT Go.Proofs.Ytfnkobcmhbdcoaa.MarkT
set_option linter.unusedVariables false
set_option linter.unusedSimpArgs false
set_option linter.unnecessarySimpa false

theorem mt_ev {k : Nat} (h : k < 9223372036854775808) : Ev (fun n => laws_markText.f n (k : Int)) (mt k) := Ev.of (laws_markText.mono _) (mt_is h)
def HdL (ts : List T) : Prop := ∀ k : Nat, k + 3 * nodL ts < 9223372036854775800 → Ev (fun n => laws_heldTermS.f n (mkL ts k) (k : Int)) ((k + 3 * nodL ts : Nat) : Int)
theorem held_loop (ts : List T) (h : ∀ t ∈ ts, HdL t.f3) (k : Nat) (hk : k + 3 * nodL ts < 9223372036854775800) (hlen : ts.length < 9223372036854775800) : ∀ (d i : Nat), ts.length - i = d → i ≤ ts.length →
    Ev (fun n => laws_heldTermS.l0 n (mkL ts k) ((k + 3 * nodL (ts.take i) : Nat) : Int) (i : Int)) ((k + 3 * nodL ts : Nat) : Int) := by
  intro d
  induction d with
  | zero =>
    intro i hd hi
    obtain rfl : i = ts.length := by omega
    refine Ev.step (fun k => by simp only [laws_heldTermS.l0]; rfl) (Ev.neg (by rw [mkL_len]; omega) (Ev.some_eq ?_))
    rw [List.take_length]
  | succ d ih =>
    intro i hd hi
    have hlt : i < ts.length := by omega
    have hlt' : i < (mkL ts k).length := by rw [mkL_len]; omega
    have hsp := nodL_split hlt
    have hT := h ts[i] (List.getElem_mem _)
    have hget : (mkL ts k)[i]'hlt' = mkT ts[i] (k + 3 * nodL (ts.take i)) := by
      have e : ts = ts.take i ++ ts[i] :: ts.drop (i + 1) := by rw [List.getElem_cons_drop, List.take_append_drop]
      have e2 : mkL ts k = mkL (ts.take i) k ++ mkT ts[i] (k + 3 * nodL (ts.take i)) :: mkL (ts.drop (i + 1)) (k + 3 * nodL (ts.take i) + 3 * nod ts[i]) := by
        conv => lhs; rw [e, mkL_append]
        simp only [mkL]
      have e3 : (mkL ts k)[i]? = some (mkT ts[i] (k + 3 * nodL (ts.take i))) := by
        rw [e2, List.getElem?_append_right (by rw [mkL_len, List.length_take]; omega)]
        have : i - (mkL (ts.take i) k).length = 0 := by rw [mkL_len, List.length_take]; omega
        rw [this]
        rfl
      exact (List.getElem?_eq_some_iff.1 e3).2
    have hnx : nodL (ts.take (i + 1)) = nodL (ts.take i) + (1 + nodL ts[i].f3) := by
      rw [List.take_succ_eq_append_getElem hlt, nodL_append]
      cases ts[i]
      simp [nodL, nod]
    have hrd : rd_T35 (mkL ts k) (i : Int) = mkT ts[i] (k + 3 * nodL (ts.take i)) := by rw [rd_T hlt', hget]
    refine Ev.step (fun k => by simp only [laws_heldTermS.l0]; rfl) (Ev.pos (by rw [mkL_len]; omega) (Ev.pos (by omega) ?_))
    rw [hrd]
    generalize hq : k + 3 * nodL (ts.take i) = q at *
    generalize ts[i] = t at *
    obtain ⟨op, nm, st, us⟩ := t
    simp only [mkT]
    simp only [] at hsp hnx hT
    rw [wrap_succ (by omega), wrap_succ (by omega), wrap_succ (by omega)]
    clear hrd hget
    refine Ev.pos trivial ?_
    refine Ev.bind (mt_ev (k := q + 1) (by omega)) ?_
    refine Ev.pos (c := (mt (q + 1)).toList = (mt (q + 1)).toList) rfl ?_
    refine Ev.pos (by omega) ?_
    refine Ev.bind (hT (q + 3) (by omega)) ?_
    refine Ev.neg (by omega) ?_
    rw [wrap_succ (by omega)]
    have e : q + 3 + 3 * nodL us = k + 3 * nodL (ts.take (i + 1)) := by rw [hnx]; omega
    rw [e]
    exact ih (i + 1) (by omega) (by omega)
theorem len_nod (ts : List T) : ts.length ≤ nodL ts := by
  induction ts with
  | nil => simp [nodL]
  | cons t ts ih =>
    cases t
    simp only [List.length_cons, nodL, nod]
    omega
theorem heldL_of (ts : List T) (h : ∀ t ∈ ts, HdL t.f3) : HdL ts := by
  intro k hk
  have := len_nod ts
  refine Ev.step (fun k => by simp only [laws_heldTermS.f]; rfl) ?_
  have := held_loop ts h k hk (by omega) ts.length 0 (by omega) (by omega)
  simpa [nodL] using this
theorem heldL_all (ts : List T) : HdL ts := by
  have key : ∀ t : T, HdL t.f3 := (T.ind (P := fun t => HdL t.f3) (Q := fun ts => ∀ t ∈ ts, HdL t.f3) (fun op nm st ts ih => heldL_of ts ih) (fun t ht => by cases ht) (fun t ts iht ihs t' ht => by
    rcases List.mem_cons.1 ht with rfl | ht
    · exact iht
    · exact ihs t' ht)).1
  exact heldL_of ts (fun t _ => key t)

/-! ### the three, for a term -/
theorem held_any (op st : Int) (nm : ByteArray) (ts : List T) (k : Nat) (hk : k + 3 * nodL ts < 9223372036854775800) {va : Value} {w : World} (hr : RdL w va (mkL ts k)) :
    Calls Try.prog 31 #[.agg #[.int .i64 op, .string nm, .int .i64 st, va], .int .i64 k] w fun e w' => e = .returned (.int .i64 (k + 3 * nodL ts : Nat)) ∧ Below w.heap.size w w' := by
  obtain ⟨A, c, rfl, hc, hC⟩ := hr
  have h : Ev (fun n => laws_heldTerm.f n op nm st (mkL ts k) (k : Int)) ((k + 3 * nodL ts : Nat) : Int) := by
    unfold laws_heldTerm.f
    exact Ev.bind (heldL_all ts k hk) (Ev.neg (by omega) (Ev.now _))
  obtain ⟨n, hn⟩ := h.rounds
  exact laws_heldTerm.calls n op nm st A c (mkL ts k) (k : Int) _ w hC hc hn
set_option maxHeartbeats 1000000 in
set_option maxRecDepth 100000 in
theorem mark_any (op st : Int) (nm : ByteArray) (ts : List T) (k : Nat) (hk : k + 3 * nodL ts < 9223372036854775800) {va : Value} {S : List Nat} {w : World} (hw : OwL w va ts S) :
    Calls Try.prog 30 #[.agg #[.int .i64 op, .string nm, .int .i64 st, va], .int .i64 k] w fun e w' => e = .returned (.int .i64 (k + 3 * nodL ts : Nat)) ∧ OwL w' va (mkL ts k) S ∧ Stirs S w w' := by
  have HW := Lib.hid hw
  clear hw
  go_enter Try.func30, Try.ntmps30
  go_wp2_with fail
  refine name_calls ?_
  intro W1 hW
  have hb : Below w.heap.size w W1 := by rw [hW]; repeat (first | exact Below.refl _ _ | apply below_alloc)
  have hw1 : OwL W1 va ts S := HW.out.frame (fun k hk => hb.block k (HW.out.lt k hk))
  have t1 : Stirs S w W1 := Stirs.of_below hb
  clear hW hb
  refine ((markL_all ts).use hw1 hk).mono ?_
  rintro e W2 ⟨rfl, h2, t2⟩
  have H2 := Lib.hid h2
  have T2 := Lib.hid (t1.trans t2)
  clear h2 t1 t2 hw1
  go_wp2_with fail
  go_ret
  exact ⟨rfl, H2.out, T2.out⟩
theorem eq_any (op st : Int) (nm : ByteArray) (ts : List T) {v v' : Value} {w : World} (hr : RdL w v ts) (hr' : RdL w v' ts) :
    Calls Try.prog 29 #[.agg #[.int .i64 op, .string nm, .int .i64 st, v], .agg #[.int .i64 op, .string nm, .int .i64 st, v']] w fun e w' => e = .returned (.bool true) ∧ Below w.heap.size w w' := (eq_all ⟨op, nm, st, ts⟩).use hr hr'
end Go.Proofs.Ytfnkobcmhbdcoaa.HeldT
