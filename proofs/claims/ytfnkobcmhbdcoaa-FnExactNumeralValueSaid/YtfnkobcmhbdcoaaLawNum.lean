/- FnExactNumeralTerm: the walk. -/
import Derived.Test.YtfnkobcmhbdcoaaNumT
namespace Go.Proofs.Ytfnkobcmhbdcoaa.LawNum
open Go.RowKit Go.Proofs.YtfnkobcmhbdcoaaW.PrintWords Go.Proofs.YtfnkobcmhbdcoaaW.PrintLast Go.Proofs.Ytfnkobcmhbdcoaa.Base Go.Proofs.Ytfnkobcmhbdcoaa.XTypes Go.Proofs.Ytfnkobcmhbdcoaa.PureInts Go.Proofs.Ytfnkobcmhbdcoaa.Typed Go.Proofs.Ytfnkobcmhbdcoaa.Trees Go.Proofs.Ytfnkobcmhbdcoaa.XTm Go.Proofs.Ytfnkobcmhbdcoaa.EqT Go.Proofs.Ytfnkobcmhbdcoaa.MarkT Go.Proofs.Ytfnkobcmhbdcoaa.HeldT Go.Proofs.Ytfnkobcmhbdcoaa.NumT
set_option linter.unusedVariables false
set_option linter.unusedSimpArgs false
set_option linter.unnecessarySimpa false

/-- What comes back: a term that is the caller's own. -/
def Gives (o : Int) (ts : List T) (b : Bool) (w : World) (e : Ending) (w' : World) : Prop := ∃ va S, e = .returned (.tuple #[.agg #[.int .i64 o, .string ⟨#[]⟩, .int .i64 0, va], .bool b]) ∧ OwL w' va ts S ∧ (∀ k ∈ S, w.heap.size ≤ k) ∧ Below w.heap.size w w'
/-- What comes back: a term that can be read. -/
def Shows (o : Int) (ts : List T) (b : Bool) (w : World) (e : Ending) (w' : World) : Prop := ∃ va, e = .returned (.tuple #[.agg #[.int .i64 o, .string ⟨#[]⟩, .int .i64 0, va], .bool b]) ∧ RdL w' va ts ∧ Below w.heap.size w w'

theorem boxed {W W2 : World} {e : Nat} {a b c d : Value} (h : W2 = W.alloc (.cells #[a, b, c, d] e)) : W2.heap[W.heap.size]? = some (.cells #[a, b, c, d] e (0, 0)) ∧ Below W.heap.size W W2 := by
  subst h
  exact ⟨blk_new _ _, below_alloc (Below.refl _ _) _⟩
theorem mark_one (op st : Int) (nm : ByteArray) (ts : List T) (m : Nat) (hm : m = 1 + 3 * nodL ts) (hn : 3 * nodL ts ≤ 1000) {va : Value} {S : List Nat} {w : World} (hw : OwL w va ts S) :
    Calls Try.prog 30 #[.agg #[.int .i64 op, .string nm, .int .i64 st, va], .int .i64 1] w fun e w' => e = .returned (.int .i64 m) ∧ OwL w' va (mkL ts 1) S ∧ Stirs S w w' := by
  have h := mark_any op st nm ts 1 (by omega) hw
  rw [← hm] at h
  exact h
theorem held_one (op st : Int) (nm : ByteArray) (ts : List T) (m : Nat) (hm : m = 1 + 3 * nodL ts) (hn : 3 * nodL ts ≤ 1000) {va : Value} {w : World} (hr : RdL w va (mkL ts 1)) :
    Calls Try.prog 31 #[.agg #[.int .i64 op, .string nm, .int .i64 st, va], .int .i64 1] w fun e w' => e = .returned (.int .i64 m) ∧ Below w.heap.size w w' := by
  have h := held_any op st nm ts 1 (by omega) hr
  rw [← hm] at h
  exact h
/-- What stands: nothing older than W2 has moved (the reference's answer lies there), and the program's answer is owned and boxed. -/
structure Stand (w W2 : World) (bg : Nat) (o : Int) (vg : Value) (ts : List T) (S : List Nat) (W : World) : Prop where
  b : Below w.heap.size w W
  bb : Below W2.heap.size W2 W
  sz : w.heap.size ≤ W2.heap.size
  ow : OwL W vg ts S
  box : W.heap[bg]? = some (.cells #[.int .i64 o, .string ⟨#[]⟩, .int .i64 0, vg] 35 (0, 0))
  far : ∀ k ∈ S, W2.heap.size ≤ k ∧ k ≠ bg
theorem Stand.below {w W2 W W' : World} {bg : Nat} {o : Int} {vg : Value} {ts : List T} {S : List Nat} (h : Stand w W2 bg o vg ts S W) (hb : Below W.heap.size W W') : Stand w W2 bg o vg ts S W' :=
  ⟨below_to h.b hb h.b.size, below_to h.bb hb h.bb.size, h.sz, h.ow.frame (fun k hk => hb.block k (h.ow.lt k hk)), blk_below h.box hb, h.far⟩
theorem Stand.mark {w W2 W W' : World} {bg : Nat} {o : Int} {vg : Value} {ts ts' : List T} {S : List Nat} (h : Stand w W2 bg o vg ts S W) (ho : OwL W' vg ts' S) (ht : Stirs S W W') : Stand w W2 bg o vg ts' S W' :=
  ⟨h.b.trans (ht.below (n := w.heap.size) h.b.size (fun k hk => Nat.le_trans h.sz (h.far k hk).1)), h.bb.trans (ht.below (n := W2.heap.size) h.bb.size (fun k hk => (h.far k hk).1)), h.sz, ho, (ht.block bg (heap_lt h.box) (fun hk => (h.far bg hk).2 rfl)).trans h.box, h.far⟩
theorem Stand.start {w W2 W W' : World} {o : Int} {vg : Value} {ts : List T} {S : List Nat} (h2 : Below w.heap.size w W2) (h : Below W2.heap.size W2 W) (ho : OwL W vg ts S) (hs : ∀ k ∈ S, W2.heap.size ≤ k) (hW : W' = W.alloc (.cells #[.int .i64 o, .string ⟨#[]⟩, .int .i64 0, vg] 35)) : Stand w W2 W.heap.size o vg ts S W' := by
  have hb : Below W.heap.size W W' := by rw [hW]; exact below_alloc (Below.refl _ _) _
  refine ⟨below_to (below_to h2 h h2.size) hb (Nat.le_trans h2.size h.size), below_to h hb h.size, h2.size, ho.frame (fun k hk => hb.block k (ho.lt k hk)), ?_, fun k hk => ⟨hs k hk, by have := ho.lt k hk; omega⟩⟩
  rw [hW]
  exact blk_new _ _

set_option maxHeartbeats 2000000 in
set_option maxRecDepth 100000 in
theorem walk_of (x : Int) (o : Int) (ts : List T) (b : Bool) (hn : 3 * nodL ts ≤ 1000) (hI : ∀ w, Calls Try.prog 28 #[.int .i64 x] w (Gives o ts b w)) (hS : ∀ w, Calls Try.prog 27 #[.int .i64 x] w (Shows o ts b w)) (w : World) :
    Calls Try.prog 6 #[.int .i64 x] w fun e w' => e = .returned (.bool true) ∧ Below w.heap.size w w' := by
  have eb : (b != b) = false := by cases b <;> rfl
  obtain ⟨m, hm⟩ : ∃ m, m = 1 + 3 * nodL ts := ⟨_, rfl⟩
  have hm0 : (0 : Int) ≤ m := by omega
  have HM := Lib.hid hm
  have HN := Lib.hid hn
  have HI := Lib.hid hI
  have HS := Lib.hid hS
  clear hI hS hm hn
  go_enter Try.func6, Try.ntmps6
  go_wp2_with fail
  refine (HS.out _).mono ?_
  rintro e W1 ⟨va, rfl, r1, b1⟩
  obtain ⟨A, c, rfl, _, _⟩ := id r1
  generalize hl : ts.length = l at *
  have HL := Lib.hid hl
  have B1 := Lib.hid b1
  have R1 := Lib.hid r1
  clear b1 r1 hl
  go_upto_region 2 with (fail)
  refine name_wp ?_
  intro W2 hW
  obtain ⟨w0, b2⟩ := boxed hW
  have B2 := Lib.hid (below_to B1.out b2 B1.out.size)
  have R2 := Lib.hid (R1.out.below b2)
  have HW2 := Lib.hid w0
  generalize hbw : W1.heap.size = bw at *
  clear hW b2 w0 R1 B1
  go_wp2_with fail
  refine (HI.out _).mono ?_
  rintro e W3 ⟨vg, S, rfl, og, sg, b3⟩
  obtain ⟨Ag, cg, rfl, _, _⟩ := og.rd
  rw [HL.out] at og
  rw [HL.out]
  have OG := Lib.hid og
  have SG := Lib.hid sg
  have B3 := Lib.hid b3
  clear og sg b3
  go_upto_region 3 with (fail)
  refine name_wp ?_
  intro W4 hW
  have T4 := Lib.hid (Stand.start B2.out B3.out OG.out SG.out hW)
  generalize hbg : W3.heap.size = bg at *
  clear hW OG SG B3 B2
  have RW := Lib.hid (R2.out.below T4.out.bb)
  obtain ⟨c0, f0, c1, f1, c2, f2, c3, f3⟩ := cells4 (i := 0) (blk_below HW2.out T4.out.bb) (by simp) rfl rfl rfl rfl
  obtain ⟨d0, e0, d1, e1, d2, e2, d3, e3⟩ := cells4 (i := 0) T4.out.box (by simp) rfl rfl rfl rfl
  go_wp2_with fail
  refine (eq_any o 0 ⟨#[]⟩ ts (v := .slice Ag l cg) (v' := .slice A l c) T4.out.ow.rd RW.out).mono ?_
  rintro e W5 ⟨rfl, b5⟩
  have T5 := Lib.hid (T4.out.below b5)
  clear b5 T4 RW c0 f0 c1 f1 c2 f2 c3 f3 d0 e0 d1 e1 d2 e2 d3 e3
  go_upto_region 6 with (fail)
  obtain ⟨d0, e0, d1, e1, d2, e2, d3, e3⟩ := cells4 (i := 0) T5.out.box (by simp) rfl rfl rfl rfl
  go_wp2_with fail
  refine (mark_one o 0 ⟨#[]⟩ ts m HM.out HN.out T5.out.ow).mono ?_
  rintro e W6 ⟨rfl, og, t6⟩
  have T6 := Lib.hid (T5.out.mark og t6)
  clear og t6 T5 d0 e0 d1 e1 d2 e2 d3 e3
  go_upto_region 8 with (fail)
  obtain ⟨d0, e0, d1, e1, d2, e2, d3, e3⟩ := cells4 (i := 0) T6.out.box (by simp) rfl rfl rfl rfl
  go_wp2_with fail
  refine (held_one o 0 ⟨#[]⟩ ts m HM.out HN.out T6.out.ow.rd).mono ?_
  rintro e W7 ⟨rfl, b7⟩
  have T7 := Lib.hid (T6.out.below b7)
  clear b7 T6 d0 e0 d1 e1 d2 e2 d3 e3
  go_upto_region 13 with (fail)
  go_wp2_with fail
  refine (HI.out _).mono ?_
  rintro e W8 ⟨vh, Sh, rfl, oh, sh, b8⟩
  obtain ⟨Ah, ch, rfl, _, _⟩ := oh.rd
  rw [HL.out] at oh
  rw [HL.out]
  have OH := Lib.hid oh.rd
  have T8 := Lib.hid (T7.out.below b8)
  clear oh sh b8 T7
  go_upto_region 14 with (fail)
  refine name_wp ?_
  intro W9 hW
  obtain ⟨h0, b9⟩ := boxed hW
  have T9 := Lib.hid (T8.out.below b9)
  have RH := Lib.hid (OH.out.below b9)
  have HH := Lib.hid h0
  generalize hbh : W8.heap.size = bh at *
  clear hW b9 h0 OH T8
  have RW := Lib.hid (R2.out.below T9.out.bb)
  obtain ⟨c0, f0, c1, f1, c2, f2, c3, f3⟩ := cells4 (i := 0) (blk_below HW2.out T9.out.bb) (by simp) rfl rfl rfl rfl
  obtain ⟨d0, e0, d1, e1, d2, e2, d3, e3⟩ := cells4 (i := 0) HH.out (by simp) rfl rfl rfl rfl
  go_wp2_with fail
  refine (eq_any o 0 ⟨#[]⟩ ts (v := .slice Ah l ch) (v' := .slice A l c) RH.out RW.out).mono ?_
  rintro e W10 ⟨rfl, b10⟩
  have T10 := Lib.hid (T9.out.below b10)
  clear b10 T9 RW RH HH c0 f0 c1 f1 c2 f2 c3 f3 d0 e0 d1 e1 d2 e2 d3 e3
  go_upto_region 17 with (fail)
  obtain ⟨d0, e0, d1, e1, d2, e2, d3, e3⟩ := cells4 (i := 0) T10.out.box (by simp) rfl rfl rfl rfl
  go_wp2_with fail
  refine (held_one o 0 ⟨#[]⟩ ts m HM.out HN.out T10.out.ow.rd).mono ?_
  rintro e W11 ⟨rfl, b11⟩
  have T11 := Lib.hid (T10.out.below b11)
  clear b11 T10 d0 e0 d1 e1 d2 e2 d3 e3
  go_wp2_with fail
  go_ret
  exact ⟨rfl, T11.out.b⟩
end Go.Proofs.Ytfnkobcmhbdcoaa.LawNum
