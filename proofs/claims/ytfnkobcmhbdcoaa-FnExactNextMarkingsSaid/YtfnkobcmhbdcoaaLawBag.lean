/- FnExactBagTerm: the walk. -/
import Derived.Test.YtfnkobcmhbdcoaaBagS
namespace Go.Proofs.Ytfnkobcmhbdcoaa.LawBag
open Go.RowKit Go.Proofs.YtfnkobcmhbdcoaaW.PrintWords Go.Proofs.YtfnkobcmhbdcoaaW.PrintLast Go.Proofs.Ytfnkobcmhbdcoaa.Base Go.Proofs.Ytfnkobcmhbdcoaa.XTypes Go.Proofs.Ytfnkobcmhbdcoaa.XInts Go.Proofs.Ytfnkobcmhbdcoaa.PureInts Go.Proofs.Ytfnkobcmhbdcoaa.Typed Go.Proofs.Ytfnkobcmhbdcoaa.Trees Go.Proofs.Ytfnkobcmhbdcoaa.XTm Go.Proofs.Ytfnkobcmhbdcoaa.EqT Go.Proofs.Ytfnkobcmhbdcoaa.MarkT Go.Proofs.Ytfnkobcmhbdcoaa.HeldT Go.Proofs.Ytfnkobcmhbdcoaa.NumT Go.Proofs.Ytfnkobcmhbdcoaa.LawNum Go.Proofs.Ytfnkobcmhbdcoaa.BagT Go.Proofs.Ytfnkobcmhbdcoaa.BagS
set_option linter.unusedVariables false
set_option linter.unusedSimpArgs false
set_option linter.unnecessarySimpa false

theorem toI_any (v : Value) (l : List Int) (w : World) (h : RdI w v l) (hl : l.length ≤ 1048576) :
    Calls Try.prog 18 #[v] w fun e w' => ∃ v', e = .returned v' ∧ OwI w.heap.size w' v' l ∧ Below w.heap.size w w' := by
  obtain ⟨A, c, rfl, hc, hr⟩ := h
  obtain ⟨k, hk⟩ := (toIntS_ev l (by omega)).rounds
  refine (laws_toIntS.calls k A c l l w hr hc hk).mono ?_
  rintro e w' ⟨v', he, ho, hb⟩
  exact ⟨v', he, OwI.of ho, hb⟩
theorem eqI_any (v v' : Value) (l : List Int) (w : World) (h : RdI w v l) (h' : RdI w v' l) (hl : l.length ≤ 1048576) :
    Calls Try.prog 20 #[v, v'] w fun e w' => e = .returned (.bool true) ∧ Below w.heap.size w w' := by
  obtain ⟨A, c, rfl, hc, hr⟩ := h
  obtain ⟨A', c', rfl, hc', hr'⟩ := h'
  obtain ⟨k, hk⟩ := (eqIntS_ev l (by omega)).rounds
  refine (laws_eqIntS.calls k A c l A' c' l true w hr hc hr' hc' hk).mono ?_
  rintro e w' ⟨rfl, hb⟩
  obtain ⟨n, rfl⟩ := hb
  exact ⟨rfl, pw_below_drewN (Below.refl _ _) _⟩
theorem markI_any (v : Value) (l : List Int) (w0 w : World) (hB : Below w0.heap.size w0 w) (h : OwI w0.heap.size w v l) (hl : l.length ≤ 1048576) :
    Calls Try.prog 24 #[v, .int .i64 1] w fun e w' => e = .returned (.int .i64 (1 + l.length)) ∧ OwI w0.heap.size w' v (upFrom 1 l.length) ∧ Below w0.heap.size w0 w' ∧ Kept w w' (Fp v) := by
  obtain ⟨k, hk⟩ := (markIntS_ev l 1 (by omega) (by omega)).rounds
  refine (laws_markIntS.calls k (Fp v) v l 1 _ _ w0 w hB h hk).mono ?_
  rintro e w' ⟨he, ho, hb, hk⟩
  exact ⟨he, OwI.of ho, hb, hk⟩
theorem Stand.kept {w W2 W W' : World} {bg : Nat} {o : Int} {vg : Value} {ts : List T} {S : List Nat} {P : Nat → Prop} (h : Stand w W2 bg o vg ts S W) (hk : Kept W W' P) (hb : Below W2.heap.size W2 W') (hP : ∀ k, P k → W2.heap.size ≤ k ∧ k ∉ S ∧ k ≠ bg) : Stand w W2 bg o vg ts S W' :=
  ⟨below_kept h.b h.b.size hk (fun k hp => Nat.le_trans h.sz (hP k hp).1) h.bb hb, hb, h.sz, h.ow.frame (fun k hs => hk.2 k (h.ow.lt k hs) (fun hp => (hP k hp).2.1 hs)), (hk.2 bg (heap_lt h.box) (fun hp => (hP bg hp).2.2 rfl)).trans h.box, h.far⟩

set_option maxHeartbeats 2000000 in
set_option maxRecDepth 100000 in
theorem walk_of (l : List Int) (A0 : Option Addr) (c0 : Nat) (hlen : l.length ≤ 1048576) (o : Int) (ts : List T) (b : Bool) (hn : 3 * nodL ts ≤ 1000) (w : World) (hr : RdI w (.slice A0 l.length c0) l)
    (hI : ∀ A c w, Kd.C (Kd.int .i64) w A l.length l → l.length ≤ c → Calls Try.prog 42 #[.slice A l.length c] w (Gives o ts b w)) (hS : ∀ v w, RdI w v l → Calls Try.prog 41 #[v] w (Shows o ts b w)) :
    Calls Try.prog 9 #[.slice A0 l.length c0] w fun e w' => e = .returned (.bool true) ∧ Below w.heap.size w w' := by
  have eb : (b != b) = false := by cases b <;> rfl
  obtain ⟨m, hm⟩ : ∃ m, m = 1 + 3 * nodL ts := ⟨_, rfl⟩
  have hm0 : (0 : Int) ≤ m := by omega
  have HM := Lib.hid hm
  have HN := Lib.hid hn
  have HI := Lib.hid hI
  have HS := Lib.hid hS
  have HR := Lib.hid hr
  clear hI hS hm hn hr
  go_enter Try.func9, Try.ntmps9
  go_wp2_with fail
  refine (toI_any _ l _ HR.out hlen).mono ?_
  rintro e Wa ⟨vs, rfl, os, ba⟩
  have BA := Lib.hid ba
  have OS := Lib.hid os.rd
  clear ba os
  go_wp2_with fail
  refine (HS.out _ _ OS.out).mono ?_
  rintro e W1 ⟨va, rfl, r1, b1⟩
  obtain ⟨A, c, rfl, _, _⟩ := id r1
  generalize hl : ts.length = lt at *
  have HL := Lib.hid hl
  have B1 := Lib.hid (below_to BA.out b1 BA.out.size)
  have R1 := Lib.hid r1
  clear b1 r1 hl OS BA
  go_upto_region 4 with (fail)
  refine name_wp ?_
  intro W2 hW
  obtain ⟨w0, b2⟩ := boxed hW
  have B2 := Lib.hid (below_to B1.out b2 B1.out.size)
  have R2 := Lib.hid (R1.out.below b2)
  have HW2 := Lib.hid w0
  generalize hbw : W1.heap.size = bw at *
  clear hW b2 w0 R1 B1
  go_wp2_with fail
  refine (toI_any _ l _ (HR.out.below B2.out) hlen).mono ?_
  rintro e W3 ⟨vx, rfl, ox, b3⟩
  obtain ⟨Ax, cx, rfl, lx, rx⟩ := ox.rd
  have OX := Lib.hid ox
  have RX := Lib.hid rx
  have B3 := Lib.hid b3
  clear ox b3 rx
  go_wp2_with fail
  refine (HI.out _ _ _ RX.out lx).mono ?_
  rintro e W4 ⟨vg, S, rfl, og, sg, b4⟩
  obtain ⟨Ag, cg, rfl, _, _⟩ := og.rd
  rw [HL.out] at og
  rw [HL.out]
  have OG := Lib.hid og
  have LX := Lib.hid (fun k hk => (OX.out.lt hk) : ∀ k, Fp (.slice Ax l.length cx) k → W2.heap.size ≤ k ∧ k < W3.heap.size)
  have SG := Lib.hid sg
  have OX4 := Lib.hid (OX.out.below b4)
  have B4 := Lib.hid (below_to B3.out b4 B3.out.size)
  have h34 : W3.heap.size ≤ W4.heap.size := b4.size
  clear og sg b4 OX RX
  go_upto_region 6 with (fail)
  refine name_wp ?_
  intro W5 hW
  have T5 := Lib.hid (Stand.start B2.out B4.out OG.out (fun k hk => Nat.le_trans B3.out.size (SG.out k hk)) hW)
  have OX5 := Lib.hid (OX4.out.below (boxed hW).2)
  have FX := Lib.hid (fun k hk => ⟨(LX.out k hk).1, fun hs => by have := SG.out k hs; have := LX.out k hk; omega, by have := LX.out k hk; omega⟩ : ∀ k, Fp (.slice Ax l.length cx) k → W2.heap.size ≤ k ∧ k ∉ S ∧ k ≠ W4.heap.size)
  generalize hbg : W4.heap.size = bg at *
  clear hW OG SG B4 B3 B2 OX4 LX h34
  have RW := Lib.hid (R2.out.below T5.out.bb)
  obtain ⟨c0, f0, c1, f1, c2, f2, c3, f3⟩ := cells4 (i := 0) (blk_below HW2.out T5.out.bb) (by simp) rfl rfl rfl rfl
  obtain ⟨d0, e0, d1, e1, d2, e2, d3, e3⟩ := cells4 (i := 0) T5.out.box (by simp) rfl rfl rfl rfl
  go_wp2_with fail
  refine (eq_any o 0 ⟨#[]⟩ ts (v := .slice Ag lt cg) (v' := .slice A lt c) T5.out.ow.rd RW.out).mono ?_
  rintro e W6 ⟨rfl, b6⟩
  have T6 := Lib.hid (T5.out.below b6)
  have OX6 := Lib.hid (OX5.out.below b6)
  clear b6 T5 OX5 RW c0 f0 c1 f1 c2 f2 c3 f3 d0 e0 d1 e1 d2 e2 d3 e3
  go_upto_region 8 with (fail)
  go_wp2_with fail
  refine (toI_any _ l _ (HR.out.below T6.out.b) hlen).mono ?_
  rintro e W7 ⟨vy, rfl, oy, b7⟩
  have T7 := Lib.hid (T6.out.below b7)
  have OX7 := Lib.hid (OX6.out.below b7)
  have OY := Lib.hid oy.rd
  clear b7 T6 OX6 oy
  go_wp2_with fail
  refine (eqI_any _ _ l _ OX7.out.rd OY.out hlen).mono ?_
  rintro e W8 ⟨rfl, b8⟩
  have T8 := Lib.hid (T7.out.below b8)
  have OX8 := Lib.hid (OX7.out.below b8)
  clear b8 T7 OX7 OY
  go_upto_region 11 with (fail)
  go_wp2_with fail
  refine (markI_any _ l W2 _ T8.out.bb OX8.out hlen).mono ?_
  rintro e W9 ⟨rfl, _, b9, k9⟩
  have T9 := Lib.hid (Stand.kept T8.out k9 b9 FX.out)
  clear b9 k9 T8 OX8
  go_upto_region 12 with (fail)
  have RW := Lib.hid (R2.out.below T9.out.bb)
  obtain ⟨c0, f0, c1, f1, c2, f2, c3, f3⟩ := cells4 (i := 0) (blk_below HW2.out T9.out.bb) (by simp) rfl rfl rfl rfl
  obtain ⟨d0, e0, d1, e1, d2, e2, d3, e3⟩ := cells4 (i := 0) T9.out.box (by simp) rfl rfl rfl rfl
  have hk0 : ¬ ((1 : Int) + l.length < 0) := by omega
  go_wp2_with fail
  refine (eq_any o 0 ⟨#[]⟩ ts (v := .slice Ag lt cg) (v' := .slice A lt c) T9.out.ow.rd RW.out).mono ?_
  rintro e W10 ⟨rfl, b10⟩
  have T10 := Lib.hid (T9.out.below b10)
  clear b10 T9 RW c0 f0 c1 f1 c2 f2 c3 f3 d0 e0 d1 e1 d2 e2 d3 e3
  go_upto_region 15 with (fail)
  obtain ⟨d0, e0, d1, e1, d2, e2, d3, e3⟩ := cells4 (i := 0) T10.out.box (by simp) rfl rfl rfl rfl
  go_wp2_with fail
  refine (mark_one o 0 ⟨#[]⟩ ts m HM.out HN.out T10.out.ow).mono ?_
  rintro e W11 ⟨rfl, og, t11⟩
  have T11 := Lib.hid (T10.out.mark og t11)
  clear og t11 T10 d0 e0 d1 e1 d2 e2 d3 e3
  go_upto_region 17 with (fail)
  obtain ⟨d0, e0, d1, e1, d2, e2, d3, e3⟩ := cells4 (i := 0) T11.out.box (by simp) rfl rfl rfl rfl
  go_wp2_with fail
  refine (held_one o 0 ⟨#[]⟩ ts m HM.out HN.out T11.out.ow.rd).mono ?_
  rintro e W12 ⟨rfl, b12⟩
  have T12 := Lib.hid (T11.out.below b12)
  clear b12 T11 d0 e0 d1 e1 d2 e2 d3 e3
  go_upto_region 22 with (fail)
  go_wp2_with fail
  refine (toI_any _ l _ (HR.out.below T12.out.b) hlen).mono ?_
  rintro e W13 ⟨vz, rfl, oz, b13⟩
  obtain ⟨Az, cz, rfl, lz, rz⟩ := oz.rd
  have RZ := Lib.hid rz
  have T13 := Lib.hid (T12.out.below b13)
  clear b13 T12 oz rz
  go_wp2_with fail
  refine (HI.out _ _ _ RZ.out lz).mono ?_
  rintro e W14 ⟨vh, Sh, rfl, oh, sh, b14⟩
  obtain ⟨Ah, ch, rfl, _, _⟩ := oh.rd
  rw [HL.out] at oh
  rw [HL.out]
  have OH := Lib.hid oh.rd
  have T14 := Lib.hid (T13.out.below b14)
  clear oh sh b14 T13 RZ
  go_upto_region 23 with (fail)
  refine name_wp ?_
  intro W15 hW
  obtain ⟨h0, b15⟩ := boxed hW
  have T15 := Lib.hid (T14.out.below b15)
  have RH := Lib.hid (OH.out.below b15)
  have HH := Lib.hid h0
  generalize hbh : W14.heap.size = bh at *
  clear hW b15 h0 OH T14
  have RW := Lib.hid (R2.out.below T15.out.bb)
  obtain ⟨c0, f0, c1, f1, c2, f2, c3, f3⟩ := cells4 (i := 0) (blk_below HW2.out T15.out.bb) (by simp) rfl rfl rfl rfl
  obtain ⟨d0, e0, d1, e1, d2, e2, d3, e3⟩ := cells4 (i := 0) HH.out (by simp) rfl rfl rfl rfl
  go_wp2_with fail
  refine (eq_any o 0 ⟨#[]⟩ ts (v := .slice Ah lt ch) (v' := .slice A lt c) RH.out RW.out).mono ?_
  rintro e W16 ⟨rfl, b16⟩
  have T16 := Lib.hid (T15.out.below b16)
  clear b16 T15 RW RH HH c0 f0 c1 f1 c2 f2 c3 f3 d0 e0 d1 e1 d2 e2 d3 e3
  go_upto_region 26 with (fail)
  obtain ⟨d0, e0, d1, e1, d2, e2, d3, e3⟩ := cells4 (i := 0) T16.out.box (by simp) rfl rfl rfl rfl
  go_wp2_with fail
  refine (held_one o 0 ⟨#[]⟩ ts m HM.out HN.out T16.out.ow.rd).mono ?_
  rintro e W17 ⟨rfl, b17⟩
  have T17 := Lib.hid (T16.out.below b17)
  clear b17 T16 d0 e0 d1 e1 d2 e2 d3 e3
  go_wp2_with fail
  go_ret
  exact ⟨rfl, T17.out.b⟩

theorem nod_join (os : List Int) (h : os.length ≤ 7) : 3 * nodL (joinA os) ≤ 1000 := by
  have key : ∀ os : List Int, nodL (os.map leaf) = os.length := by
    intro os
    induction os with
    | nil => simp [nodL]
    | cons o os ih => simp [nodL, nod, leaf, ih]; omega
  match os with
  | [] => simp [joinA, nodL]
  | [o] => simp [joinA, nodL]
  | o :: p :: os =>
    show 3 * nodL ((o :: p :: os).map leaf) ≤ 1000
    rw [key]
    omega
set_option maxHeartbeats 1000000 in
set_option maxRecDepth 100000 in
theorem walk_big (n : Nat) (A0 : Option Addr) (c0 : Nat) (w : World) (h : 1048576 < n) :
    Calls Try.prog 9 #[.slice A0 n c0] w fun e w' => e = .returned (.bool true) ∧ Below w.heap.size w w' := by
  go_enter Try.func9, Try.ntmps9
  go_wp2_with fail
  go_ret
  exact ⟨rfl, by repeat (first | exact Below.refl _ _ | apply below_alloc)⟩
theorem walk (a0 : Option Addr) (len0 cap0 : Nat) (z0 : List Int) (w : World)
    (w0 : (a0 = none ∧ len0 = 0 ∧ cap0 = 0 ∧ z0 = []) ∨ ∃ x, a0 = some x ∧ len0 ≤ cap0 ∧ cap0 ≤ maxLen ∧ z0.length = cap0 ∧ (∀ i, i < z0.length → w.cell? (x.add i) = some (.int .i64 (z0.getD i 0))) ∧ ∀ n ∈ z0, (Lit.int .i64 n).wf = true) (_y0 : len0 * 8 ≤ 140737488351232) :
    Calls Try.prog 9 #[.slice a0 len0 cap0] w fun e w' => e = .returned (.bool true) ∧ Below w.heap.size w w' := by
  obtain ⟨l0, rfl, hr0, hm0, hw0, hc0⟩ := ReadsInt.ofRowC w0
  by_cases h : l0.length ≤ 1048576
  · refine walk_of l0 a0 cap0 h (bagO l0) (bagA l0) (bagB l0) ?_ w ⟨a0, cap0, rfl, hc0, Kd.C_of_reads (d := (0 : Int)) (h1 := fun _ => rfl) hr0⟩ (fun A c w' hr hc => impl_bag l0 A c h w' hr hc) (fun v w' hr => spec_bag l0 v w' hr)
    unfold bagA
    split
    · rename_i hb
      refine nod_join _ ?_
      simp only [bagB, Bool.and_eq_true, decide_eq_true_eq] at hb
      exact hb.2
    · simp [nodL]
  · exact walk_big l0.length a0 cap0 w (by omega)
end Go.Proofs.Ytfnkobcmhbdcoaa.LawBag
