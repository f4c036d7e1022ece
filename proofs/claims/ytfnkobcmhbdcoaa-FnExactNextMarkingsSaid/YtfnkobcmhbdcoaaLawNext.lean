/- FnExactNextMarkings: the walk. -/
import Derived.Test.YtfnkobcmhbdcoaaNextS
namespace Go.Proofs.Ytfnkobcmhbdcoaa.LawNext
open Go.RowKit Go.Proofs.YtfnkobcmhbdcoaaW.PrintWords Go.Proofs.YtfnkobcmhbdcoaaW.PrintLast Go.Proofs.Ytfnkobcmhbdcoaa.Base Go.Proofs.Ytfnkobcmhbdcoaa.XTypes Go.Proofs.Ytfnkobcmhbdcoaa.XInts Go.Proofs.Ytfnkobcmhbdcoaa.PureInts Go.Proofs.Ytfnkobcmhbdcoaa.Typed Go.Proofs.Ytfnkobcmhbdcoaa.Trees Go.Proofs.Ytfnkobcmhbdcoaa.MarkT Go.Proofs.Ytfnkobcmhbdcoaa.LawBag Go.Proofs.Ytfnkobcmhbdcoaa.Rows2 Go.Proofs.Ytfnkobcmhbdcoaa.NextI Go.Proofs.Ytfnkobcmhbdcoaa.NextS
set_option linter.unusedVariables false
set_option linter.unusedSimpArgs false
set_option linter.unnecessarySimpa false

/-- What stands: nothing older than W2 has moved (the reference's answer lies there), and the program's answer is owned. -/
structure StandR (w W2 : World) (vg : Value) (ls : List (List Int)) (S : List Nat) (W : World) : Prop where
  b : Below w.heap.size w W
  bb : Below W2.heap.size W2 W
  sz : w.heap.size ≤ W2.heap.size
  ow : OwSS W vg ls S
  far : ∀ k ∈ S, W2.heap.size ≤ k
theorem StandR.below {w W2 W W' : World} {vg : Value} {ls : List (List Int)} {S : List Nat} (h : StandR w W2 vg ls S W) (hb : Below W.heap.size W W') : StandR w W2 vg ls S W' :=
  ⟨below_to h.b hb h.b.size, below_to h.bb hb h.bb.size, h.sz, h.ow.below hb, h.far⟩
theorem StandR.mark {w W2 W W' : World} {vg : Value} {ls ls' : List (List Int)} {S : List Nat} (h : StandR w W2 vg ls S W) (ho : OwSS W' vg ls' S) (ht : Stirs S W W') : StandR w W2 vg ls' S W' :=
  ⟨h.b.trans (ht.below (n := w.heap.size) h.b.size (fun k hk => Nat.le_trans h.sz (h.far k hk))), h.bb.trans (ht.below (n := W2.heap.size) h.bb.size (fun k hk => h.far k hk)), h.sz, ho, h.far⟩
theorem StandR.kept {w W2 W W' : World} {vg : Value} {ls : List (List Int)} {S : List Nat} {P : Nat → Prop} (h : StandR w W2 vg ls S W) (hk : Kept W W' P) (hb : Below W2.heap.size W2 W') (hP : ∀ k, P k → W2.heap.size ≤ k ∧ k ∉ S) : StandR w W2 vg ls S W' :=
  ⟨below_kept h.b h.b.size hk (fun k hp => Nat.le_trans h.sz (hP k hp).1) h.bb hb, hb, h.sz, h.ow.frame (fun k hs => hk.2 k (h.ow.lt k hs) (fun hp => (hP k hp).2 hs)), h.far⟩
theorem StandR.start {w W2 W : World} {vg : Value} {ls : List (List Int)} {S : List Nat} (h2 : Below w.heap.size w W2) (h : Below W2.heap.size W2 W) (ho : OwSS W vg ls S) (hs : ∀ k ∈ S, W2.heap.size ≤ k) : StandR w W2 vg ls S W := ⟨below_to h2 h h2.size, h, h2.size, ho, hs⟩
theorem markSS_one (ls : List (List Int)) (v : Value) (S : List Nat) (w : World) (m : Nat) (hm : m = 1 + sumL ls) (hk : sumL ls ≤ 1000000) (hw : OwSS w v ls S) :
    Calls Try.prog 25 #[v, .int .i64 1] w fun e w' => e = .returned (.int .i64 m) ∧ OwSS w' v (mkSS ls 1) S ∧ Stirs S w w' := by
  have h := markSS ls v S 1 w hw (by omega)
  rw [← hm] at h
  exact h
theorem heldSS_one (ls : List (List Int)) (v : Value) (w : World) (m : Nat) (hm : m = 1 + sumL ls) (hk : sumL ls ≤ 1000000) (hl : ls.length ≤ 1048576) (h : RdSS w v (mkSS ls 1)) :
    Calls Try.prog 26 #[v, .int .i64 1] w fun e w' => e = .returned (.int .i64 m) ∧ Below w.heap.size w w' := by
  have h := heldSS_any v ls 1 (by omega) hl w h
  rw [← hm] at h
  exact h

set_option maxHeartbeats 2000000 in
set_option maxRecDepth 100000 in
theorem walk_of (l : List Int) (A0 : Option Addr) (c0 : Nat) (hlen : l.length ≤ 1048576) (ls : List (List Int)) (hn : sumL ls ≤ 1000000) (hls : ls.length ≤ 1048576) (hrow : ∀ l ∈ ls, l.length ≤ 1048576) (w : World) (hr : RdI w (.slice A0 l.length c0) l)
    (hI : ∀ A c w, Kd.C (Kd.int .i64) w A l.length l → l.length ≤ c → Calls Try.prog 22 #[.slice A l.length c] w fun e w' => ∃ v S, e = .returned v ∧ OwSS w' v ls S ∧ (∀ k ∈ S, w.heap.size ≤ k) ∧ Below w.heap.size w w')
    (hS : ∀ v w, RdI w v l → Calls Try.prog 21 #[v] w fun e w' => ∃ v', e = .returned v' ∧ RdSS w' v' ls ∧ Below w.heap.size w w') :
    Calls Try.prog 5 #[.slice A0 l.length c0] w fun e w' => e = .returned (.bool true) ∧ Below w.heap.size w w' := by
  obtain ⟨m, hm⟩ : ∃ m, m = 1 + sumL ls := ⟨_, rfl⟩
  have hm0 : (0 : Int) ≤ m := by omega
  have HM := Lib.hid hm
  have HN := Lib.hid hn
  have HI := Lib.hid hI
  have HS := Lib.hid hS
  have HR := Lib.hid hr
  have HLS := Lib.hid hls
  have HROW := Lib.hid hrow
  clear hI hS hm hn hr hls hrow
  go_enter Try.func5, Try.ntmps5
  go_wp2_with fail
  refine (toI_any _ l _ HR.out hlen).mono ?_
  rintro e Wa ⟨vs, rfl, os, ba⟩
  have BA := Lib.hid ba
  have OS := Lib.hid os.rd
  clear ba os
  go_wp2_with fail
  refine (HS.out _ _ OS.out).mono ?_
  rintro e W2 ⟨va, rfl, r1, b1⟩
  have B2 := Lib.hid (below_to BA.out b1 BA.out.size)
  have R2 := Lib.hid r1
  clear b1 r1 OS BA
  go_wp2_with fail
  refine (toI_any _ l _ (HR.out.below B2.out) hlen).mono ?_
  rintro e W3 ⟨vx, rfl, ox, b3⟩
  obtain ⟨Ax, cx, rfl, lx, rx⟩ := ox.rd
  have OX := Lib.hid ox
  have RX := Lib.hid rx
  have B3 := Lib.hid b3
  clear ox b3 rx
  go_wp2_with fail
  refine (HI.out _ _ _ RX.out lx).mono ?_
  rintro e W4 ⟨vg, S, rfl, og, sg, b4⟩
  have LX := Lib.hid (fun k hk => (OX.out.lt hk) : ∀ k, Fp (.slice Ax l.length cx) k → W2.heap.size ≤ k ∧ k < W3.heap.size)
  have FX := Lib.hid (fun k hk => ⟨(LX.out k hk).1, fun hs => by have := sg k hs; have := LX.out k hk; omega⟩ : ∀ k, Fp (.slice Ax l.length cx) k → W2.heap.size ≤ k ∧ k ∉ S)
  have T4 := Lib.hid (StandR.start B2.out (below_to B3.out b4 B3.out.size) og (fun k hk => Nat.le_trans B3.out.size (sg k hk)))
  have OX4 := Lib.hid (OX.out.below b4)
  clear og sg b4 OX RX LX B3
  go_wp2_with fail
  refine (eqSS_any vg va ls _ T4.out.ow.rd (R2.out.below T4.out.bb) HROW.out HLS.out).mono ?_
  rintro e W5 ⟨rfl, b5⟩
  have T5 := Lib.hid (T4.out.below b5)
  have OX5 := Lib.hid (OX4.out.below b5)
  clear b5 T4 OX4
  go_wp2_with fail
  refine (toI_any _ l _ (HR.out.below T5.out.b) hlen).mono ?_
  rintro e W7 ⟨vy, rfl, oy, b7⟩
  have T7 := Lib.hid (T5.out.below b7)
  have OX7 := Lib.hid (OX5.out.below b7)
  have OY := Lib.hid oy.rd
  clear b7 T5 OX5 oy
  go_wp2_with fail
  refine (eqI_any _ _ l _ OX7.out.rd OY.out hlen).mono ?_
  rintro e W8 ⟨rfl, b8⟩
  have T8 := Lib.hid (T7.out.below b8)
  have OX8 := Lib.hid (OX7.out.below b8)
  clear b8 T7 OX7 OY
  go_wp2_with fail
  refine (markI_any _ l W2 _ T8.out.bb OX8.out hlen).mono ?_
  rintro e W9 ⟨rfl, _, b9, k9⟩
  have T9 := Lib.hid (StandR.kept T8.out k9 b9 FX.out)
  clear b9 k9 T8 OX8
  have hk0 : ¬ ((1 : Int) + l.length < 0) := by omega
  go_wp2_with fail
  refine (eqSS_any vg va ls _ T9.out.ow.rd (R2.out.below T9.out.bb) HROW.out HLS.out).mono ?_
  rintro e W10 ⟨rfl, b10⟩
  have T10 := Lib.hid (T9.out.below b10)
  clear b10 T9
  go_wp2_with fail
  refine (markSS_one ls vg S _ m HM.out HN.out T10.out.ow).mono ?_
  rintro e W11 ⟨rfl, og, t11⟩
  have T11 := Lib.hid (T10.out.mark og t11)
  clear og t11 T10
  go_wp2_with fail
  refine (heldSS_one ls vg _ m HM.out HN.out HLS.out T11.out.ow.rd).mono ?_
  rintro e W12 ⟨rfl, b12⟩
  have T12 := Lib.hid (T11.out.below b12)
  clear b12 T11
  go_wp2_with fail
  refine (toI_any _ l _ (HR.out.below T12.out.b) hlen).mono ?_
  rintro e W13 ⟨vz, rfl, oz, b13⟩
  obtain ⟨Az, cz, rfl, lz, rz⟩ := oz.rd
  have RZ := Lib.hid rz
  have T13 := Lib.hid (T12.out.below b13)
  clear b13 T12 oz rz
  go_wp2_with fail
  refine (HI.out _ _ _ RZ.out lz).mono ?_
  rintro e W14 ⟨vh, Sh, rfl, oh, sh, b14⟩
  have OH := Lib.hid oh.rd
  have T14 := Lib.hid (T13.out.below b14)
  clear oh sh b14 T13 RZ
  go_wp2_with fail
  refine (eqSS_any vh va ls _ OH.out (R2.out.below T14.out.bb) HROW.out HLS.out).mono ?_
  rintro e W16 ⟨rfl, b16⟩
  have T16 := Lib.hid (T14.out.below b16)
  clear b16 T14 OH
  go_wp2_with fail
  refine (heldSS_one ls vg _ m HM.out HN.out HLS.out T16.out.ow.rd).mono ?_
  rintro e W17 ⟨rfl, b17⟩
  have T17 := Lib.hid (T16.out.below b17)
  clear b17 T16
  go_wp2_with fail
  go_ret
  exact ⟨rfl, T17.out.b⟩

theorem outTo_rows (l : List Int) (r : Nat) : ∀ x ∈ outTo l r, x.length = 3 := by
  induction r with
  | zero => intro x hx; cases hx
  | succ r ih =>
    intro x hx
    unfold outTo at hx
    split at hx
    · rename_i h
      rcases List.mem_append.1 hx with hx | hx
      · exact ih x hx
      · rw [List.mem_singleton.1 hx]; exact h
    · exact ih x hx
theorem sum_rows (ls : List (List Int)) (h : ∀ x ∈ ls, x.length = 3) : sumL ls = 3 * ls.length := by
  induction ls with
  | nil => rfl
  | cons l ls ih =>
    simp only [sumL, List.length_cons, ih (fun x hx => h x (List.mem_cons_of_mem _ hx)), h l List.mem_cons_self]
    omega
theorem nextM_rows (l : List Int) : (∀ x ∈ nextM l, x.length = 3) ∧ (nextM l).length ≤ 4 := by
  unfold nextM
  split
  · exact ⟨outTo_rows l 4, outTo_len l 4⟩
  · exact ⟨(fun x hx => by cases hx), by simp⟩
set_option maxHeartbeats 1000000 in
set_option maxRecDepth 100000 in
theorem walk_big (n : Nat) (A0 : Option Addr) (c0 : Nat) (w : World) (h : 1048576 < n) :
    Calls Try.prog 5 #[.slice A0 n c0] w fun e w' => e = .returned (.bool true) ∧ Below w.heap.size w w' := by
  go_enter Try.func5, Try.ntmps5
  go_wp2_with fail
  go_ret
  exact ⟨rfl, by repeat (first | exact Below.refl _ _ | apply below_alloc)⟩
theorem walk (a0 : Option Addr) (len0 cap0 : Nat) (z0 : List Int) (w : World)
    (w0 : (a0 = none ∧ len0 = 0 ∧ cap0 = 0 ∧ z0 = []) ∨ ∃ x, a0 = some x ∧ len0 ≤ cap0 ∧ cap0 ≤ maxLen ∧ z0.length = cap0 ∧ (∀ i, i < z0.length → w.cell? (x.add i) = some (.int .i64 (z0.getD i 0))) ∧ ∀ n ∈ z0, (Lit.int .i64 n).wf = true) (_y0 : len0 * 8 ≤ 140737488351232) :
    Calls Try.prog 5 #[.slice a0 len0 cap0] w fun e w' => e = .returned (.bool true) ∧ Below w.heap.size w w' := by
  obtain ⟨l0, rfl, hr0, hm0, hw0, hc0⟩ := ReadsInt.ofRowC w0
  by_cases h : l0.length ≤ 1048576
  · obtain ⟨hrows, hlen⟩ := nextM_rows l0
    refine walk_of l0 a0 cap0 h (nextM l0) (by rw [sum_rows _ hrows]; omega) (by omega) (fun x hx => by rw [hrows x hx]; omega) w ⟨a0, cap0, rfl, hc0, Kd.C_of_reads (d := (0 : Int)) (h1 := fun _ => rfl) hr0⟩ (fun A c w' hr hc => impl_next l0 A c w' hr hc) (fun v w' hr => spec_next l0 v w' hr)
  · exact walk_big l0.length a0 cap0 w (by omega)
end Go.Proofs.Ytfnkobcmhbdcoaa.LawNext
