/- The laws' helpers over rows of rows of integers. -/
import Derived.Test.YtfnkobcmhbdcoaaRows2
import Derived.Test.YtfnkobcmhbdcoaaXRwP1
namespace Go.Proofs.Ytfnkobcmhbdcoaa.RowsL
open Go.RowKit Go.Proofs.YtfnkobcmhbdcoaaW.PrintWords Go.Proofs.YtfnkobcmhbdcoaaW.PrintLast Go.Proofs.Ytfnkobcmhbdcoaa.Base Go.Proofs.Ytfnkobcmhbdcoaa.XTypes Go.Proofs.Ytfnkobcmhbdcoaa.XInts Go.Proofs.Ytfnkobcmhbdcoaa.XRwP Go.Proofs.Ytfnkobcmhbdcoaa.PureInts Go.Proofs.Ytfnkobcmhbdcoaa.Typed Go.Proofs.Ytfnkobcmhbdcoaa.Trees Go.Proofs.Ytfnkobcmhbdcoaa.MarkT Go.Proofs.Ytfnkobcmhbdcoaa.Rows2
set_option linter.unusedVariables false
set_option linter.unusedSimpArgs false
set_option linter.unnecessarySimpa false

theorem rdL_nat {ls : List (List Int)} {i : Nat} (h : i < ls.length) : rd_L10 ls (i : Int) = ls[i] := by simp [rd_L10, h]
theorem rdL_getD (ls : List (List Int)) (r : Nat) : rd_L10 ls (r : Int) = ls.getD r [] := by simp [rd_L10]

/-! ### alike -/
theorem eqSS_loop (ls : List (List Int)) (hs : ∀ l ∈ ls, l.length ≤ 1048576) (hl : ls.length ≤ 1048576) : ∀ (d i : Nat), ls.length - i = d → i ≤ ls.length → Ev (fun k => laws_eqIntSS.l0 k ls ls (i : Int)) true := by
  intro d
  induction d with
  | zero =>
    intro i hd hi
    exact Ev.step (fun k => by simp only [laws_eqIntSS.l0]; rfl) (Ev.neg (by omega) (Ev.now _))
  | succ d ih =>
    intro i hd hi
    have hlt : i < ls.length := by omega
    refine Ev.step (fun k => by simp only [laws_eqIntSS.l0]; rfl) (Ev.pos (by omega) (Ev.pos (by omega) (Ev.pos (by omega) ?_)))
    rw [rdL_nat hlt]
    refine Ev.bind (eqIntS_ev ls[i] (by have := hs ls[i] (List.getElem_mem _); omega)) (Ev.pos rfl ?_)
    rw [wrap_succ (by omega)]
    exact ih (i + 1) (by omega) (by omega)
theorem eqSS_ev (ls : List (List Int)) (hs : ∀ l ∈ ls, l.length ≤ 1048576) (hl : ls.length ≤ 1048576) : Ev (fun k => laws_eqIntSS.f k ls ls) true := by
  unfold laws_eqIntSS.f
  exact Ev.pos rfl (eqSS_loop ls hs hl ls.length 0 (by omega) (by omega))
theorem eqSS_any (v v' : Value) (ls : List (List Int)) (w : World) (h : RdSS w v ls) (h' : RdSS w v' ls) (hs : ∀ l ∈ ls, l.length ≤ 1048576) (hl : ls.length ≤ 1048576) :
    Calls Try.prog 23 #[v, v'] w fun e w' => e = .returned (.bool true) ∧ Below w.heap.size w w' := by
  obtain ⟨A, c, rfl, hc, hr⟩ := h
  obtain ⟨A', c', rfl, hc', hr'⟩ := h'
  obtain ⟨k, hk⟩ := (eqSS_ev ls hs hl).rounds
  refine (laws_eqIntSS.calls k A c ls A' c' ls true w hr hc hr' hc' hk).mono ?_
  rintro e w' ⟨rfl, ⟨n, rfl⟩⟩
  exact ⟨rfl, pw_below_drewN (Below.refl _ _) _⟩

/-! ### held -/
theorem heldSS_loop (ls : List (List Int)) (k : Nat) (hk : k + sumL ls ≤ 4611686018427387904) (hl : ls.length ≤ 1048576) : ∀ (d i : Nat), ls.length - i = d → i ≤ ls.length →
    Ev (fun n => laws_heldIntSS.l0 n (mkSS ls k) ((k + sumL (ls.take i) : Nat) : Int) (i : Int)) ((k + sumL ls : Nat) : Int) := by
  intro d
  induction d with
  | zero =>
    intro i hd hi
    obtain rfl : i = ls.length := by omega
    refine Ev.step (fun k => by simp only [laws_heldIntSS.l0]; rfl) (Ev.neg (by rw [mkSS_len]; omega) (Ev.some_eq ?_))
    rw [List.take_length]
  | succ d ih =>
    intro i hd hi
    have hlt : i < ls.length := by omega
    have hlt' : i < (mkSS ls k).length := by rw [mkSS_len]; omega
    have e : ls = ls.take i ++ ls[i] :: ls.drop (i + 1) := by rw [List.getElem_cons_drop, List.take_append_drop]
    have hget : (mkSS ls k)[i]'hlt' = upFrom ((k + sumL (ls.take i) : Nat) : Int) ls[i].length := by
      have e2 : mkSS ls k = mkSS (ls.take i) k ++ upFrom ((k + sumL (ls.take i) : Nat) : Int) ls[i].length :: mkSS (ls.drop (i + 1)) (k + sumL (ls.take i) + ls[i].length) := by
        conv => lhs; rw [e, mkSS_append]
        simp only [mkSS]
      have e3 : (mkSS ls k)[i]? = some (upFrom ((k + sumL (ls.take i) : Nat) : Int) ls[i].length) := by
        rw [e2, List.getElem?_append_right (by rw [mkSS_len, List.length_take]; omega)]
        have : i - (mkSS (ls.take i) k).length = 0 := by rw [mkSS_len, List.length_take]; omega
        rw [this]
        rfl
      exact (List.getElem?_eq_some_iff.1 e3).2
    have hsum : sumL (ls.take (i + 1)) = sumL (ls.take i) + ls[i].length := by
      rw [List.take_succ_eq_append_getElem hlt, sumL_append]
      simp [sumL]
    have hle : sumL (ls.take i) + ls[i].length ≤ sumL ls := by
      have e4 := congrArg sumL e
      rw [sumL_append] at e4
      simp only [sumL] at e4
      omega
    refine Ev.step (fun k => by simp only [laws_heldIntSS.l0]; rfl) (Ev.pos (by rw [mkSS_len]; omega) (Ev.pos (by omega) ?_))
    rw [rdL_nat hlt', hget]
    refine Ev.bind (heldIntS_ev ((k + sumL (ls.take i) : Nat) : Int) ls[i].length (by omega) (by omega)) (Ev.neg (by omega) ?_)
    rw [wrap_succ (by omega)]
    have e5 : (((k + sumL (ls.take i) : Nat) : Int) + (ls[i].length : Int)) = ((k + sumL (ls.take (i + 1)) : Nat) : Int) := by rw [hsum]; omega
    rw [e5]
    exact ih (i + 1) (by omega) (by omega)
theorem heldSS_any (v : Value) (ls : List (List Int)) (k : Nat) (hk : k + sumL ls ≤ 4611686018427387904) (hl : ls.length ≤ 1048576) (w : World) (h : RdSS w v (mkSS ls k)) :
    Calls Try.prog 26 #[v, .int .i64 k] w fun e w' => e = .returned (.int .i64 (k + sumL ls : Nat)) ∧ Below w.heap.size w w' := by
  obtain ⟨A, c, rfl, hc, hr⟩ := h
  have hev : Ev (fun n => laws_heldIntSS.f n (mkSS ls k) (k : Int)) ((k + sumL ls : Nat) : Int) := by
    unfold laws_heldIntSS.f
    have := heldSS_loop ls k hk hl ls.length 0 (by omega) (by omega)
    simpa [sumL] using this
  obtain ⟨n, hn⟩ := hev.rounds
  refine (laws_heldIntSS.calls n A c (mkSS ls k) (k : Int) _ w hr hc hn).mono ?_
  rintro e w' ⟨rfl, ⟨n, rfl⟩⟩
  exact ⟨rfl, pw_below_drewN (Below.refl _ _) _⟩

/-- What stands: nothing older than W2 has moved (the reference's answer lies there), and the program's answer is owned. -/
structure StandR (w W2 : World) (vg : Value) (ls : List (List Int)) (S : List Nat) (W : World) : Prop where
  b : Below w.heap.size w W
  bb : Below W2.heap.size W2 W
  sz : w.heap.size ≤ W2.heap.size
  ow : OwSS W vg ls S
  far : ∀ k ∈ S, W2.heap.size ≤ k
theorem StandR.below {w W2 W W' : World} {vg : Value} {ls : List (List Int)} {S : List Nat} (h : StandR w W2 vg ls S W) (hb : Below W.heap.size W W') : StandR w W2 vg ls S W' :=
  ⟨below_to h.b hb h.b.size, below_to h.bb hb h.bb.size, h.sz, h.ow.below hb, h.far⟩
theorem StandR.mark {w W2 W W' : World} {vg : Value} {ls ls' : List (List Int)} {S : List Nat} (h : StandR w W2 vg ls S W) (ho : OwSS W' vg ls' S) (ht : Stirs S W W') : StandR w W2 vg ls' S W' :=
  ⟨h.b.trans (ht.below (n := w.heap.size) h.b.size (fun k hk => Nat.le_trans h.sz (h.far k hk))), h.bb.trans (ht.below (n := W2.heap.size) h.bb.size (fun k hk => h.far k hk)), h.sz, ho, h.far⟩
theorem StandR.kept {w W2 W W' : World} {vg : Value} {ls : List (List Int)} {S : List Nat} {P : Nat → Prop} (h : StandR w W2 vg ls S W) (hk : Kept W W' P) (hb : Below W2.heap.size W2 W') (hP : ∀ k, P k → W2.heap.size ≤ k ∧ k ∉ S) : StandR w W2 vg ls S W' :=
  ⟨below_kept h.b h.b.size hk (fun k hp => Nat.le_trans h.sz (hP k hp).1) h.bb hb, hb, h.sz, h.ow.frame (fun k hs => hk.2 k (h.ow.lt k hs) (fun hp => (hP k hp).2 hs)), h.far⟩
theorem StandR.start {w W2 W : World} {vg : Value} {ls : List (List Int)} {S : List Nat} (h2 : Below w.heap.size w W2) (h : Below W2.heap.size W2 W) (ho : OwSS W vg ls S) (hs : ∀ k ∈ S, W2.heap.size ≤ k) : StandR w W2 vg ls S W := ⟨below_to h2 h h2.size, h, h2.size, ho, hs⟩
theorem markSS_one (ls : List (List Int)) (v : Value) (S : List Nat) (w : World) (m : Nat) (hm : m = 1 + sumL ls) (hk : sumL ls ≤ 1000000) (hw : OwSS w v ls S) :
    Calls Try.prog 25 #[v, .int .i64 1] w fun e w' => e = .returned (.int .i64 m) ∧ OwSS w' v (mkSS ls 1) S ∧ Stirs S w w' := by
  have h := markSS ls v S 1 w hw (by omega)
  rw [← hm] at h
  exact h
theorem heldSS_one (ls : List (List Int)) (v : Value) (w : World) (m : Nat) (hm : m = 1 + sumL ls) (hk : sumL ls ≤ 1000000) (hl : ls.length ≤ 1048576) (h : RdSS w v (mkSS ls 1)) :
    Calls Try.prog 26 #[v, .int .i64 1] w fun e w' => e = .returned (.int .i64 m) ∧ Below w.heap.size w w' := by
  have h := heldSS_any v ls 1 (by omega) hl w h
  rw [← hm] at h
  exact h

theorem sumL_le (ls : List (List Int)) (n : Nat) (h : ∀ x ∈ ls, x.length ≤ n) : sumL ls ≤ n * ls.length := by
  induction ls with
  | nil => simp [sumL]
  | cons l ls ih =>
    have h1 := ih (fun x hx => h x (List.mem_cons_of_mem _ hx))
    have h2 := h l List.mem_cons_self
    simp only [sumL, List.length_cons, Nat.mul_add]
    omega
end Go.Proofs.Ytfnkobcmhbdcoaa.RowsL
