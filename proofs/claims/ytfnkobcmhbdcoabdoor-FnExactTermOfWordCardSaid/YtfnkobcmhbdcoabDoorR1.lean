/- FnExactNumeralTerm: the walk. -/
import Derived.Test.YtfnkobcmhbdcoabDoorProg
import Derived.Test.YtfnkobcmhbdcoabDoorWMore
import Derived.Test.YtfnkobcmhbdcoabDoorWNEv
import Derived.Test.YtfnkobcmhbdcoabDoorWZeros
import Derived.Test.YtfnkobcmhbdcoabDoorWAt
import Derived.Test.YtfnkobcmhbdcoabDoorWInvWords
import Derived.Test.YtfnkobcmhbdcoabDoorWGuard
import Derived.WalkKit
import Derived.Deep.LoopGhost
import Derived.Deep.QuietTactic
import Derived.BigQuiet
import Derived.WalkLawsBesides
import Derived.Lib.Hide
import Derived.Outline
import Derived.Below
import Derived.Deep.Draws
import Derived.Deep.AppendLies
import Derived.Maps.AppendAt
import Derived.OwnWalk
import Derived.Laws.BytesArg
import Derived.Laws.MakeOwn
import Derived.Laws.OwnMore
import Derived.Deep.OwnRows
import Derived.Tactics
import Derived.Lib.ConvBytes
import Derived.Laws.Slices
import Derived.KernelRfl
import Derived.RowKit3
import Derived.WideLaws
import Derived.Deep.DeepCutAuto
import Derived.Deep.CutBlock
import Derived.Deep.RegionHeld3
import Derived.Laws.Rows
import Derived.Lib.AppendStr
import Derived.ArgAppend
import Derived.Laws.IdiomCopy
import Derived.OrdersHeld
import Derived.Laws.BitsLemmas
import Derived.RowKit
import Derived.Test.YtfnkobcmhbdcoabDoorWWords
import Derived.Test.YtfnkobcmhbdcoabDoorWLast
import Derived.Test.YtfnkobcmhbdcoabDoorWTab
import Derived.Test.YtfnkobcmhbdcoabDoorWFour
import Derived.Test.YtfnkobcmhbdcoabDoorWQPut
import Derived.Test.YtfnkobcmhbdcoabDoorWApart
import Derived.Test.YtfnkobcmhbdcoabDoorWArr
import Derived.Test.YtfnkobcmhbdcoabDoorWFoot
import Derived.Test.YtfnkobcmhbdcoabDoorWKept
import Derived.Test.YtfnkobcmhbdcoabDoorWShare
import Derived.Test.YtfnkobcmhbdcoabDoorWN
import Derived.Test.YtfnkobcmhbdcoabDoorWFootNe
import Derived.Test.YtfnkobcmhbdcoabDoorWEqStruct
import Derived.Test.YtfnkobcmhbdcoabDoorWRepsOne
import Derived.Test.YtfnkobcmhbdcoabDoorWInv
section
/- Shared words: how an element of a slice that is read lies in memory. -/














namespace Go.Proofs.YtfnkobcmhbdcoabDoor.Base
open Go.RowKit Go.Proofs.YtfnkobcmhbdcoabDoorW.PrintWords Go.Proofs.YtfnkobcmhbdcoabDoorW.PrintLast Go.Proofs.YtfnkobcmhbdcoabDoorW.PrintMore
set_option linter.unusedVariables false
set_option linter.unusedSimpArgs false
set_option linter.unnecessarySimpa false

theorem wrap_id {x : Int} (h0 : -9223372036854775808 ≤ x) (h1 : x ≤ 9223372036854775807) : wrap64 x = x := by unfold wrap64; omega

/-- An element of a row of rows of integers. -/
def rdr (xss : List (List Int)) (i : Int) : List Int := xss.getD i.toNat []
theorem row_at {w : World} {A : Option Addr} {n : Nat} {xss : List (List Int)} (h : Kd.C (Kd.slice 3 (Kd.int .i64)) w A n xss) (i : Int) (h0 : 0 ≤ i) (h1 : i < n) :
    ∃ ad A0 c0, A = some ad ∧ w.cell? (ad.add i.toNat) = some (.slice A0 (rdr xss i).length c0) ∧ (rdr xss i).length ≤ c0 ∧ (Kd.int .i64).C w A0 (rdr xss i).length (rdr xss i) := by
  obtain ⟨ad, c, e, _, hK, hc0⟩ := Kd.C_get h ([] : List Int) i h0 h1
  have hc : ∀ j u, c[j]? = some u → w.cell? (ad.add (i.toNat * 1 + j)) = some u := hc0
  obtain ⟨A0, c0, rfl, l0, g0⟩ := hK
  exact ⟨ad, A0, c0, e, by have hq := hc 0 _ rfl; rwa [Nat.mul_one, Nat.add_zero] at hq, l0, g0⟩
theorem info_int : (Tryd.prog.info? 3).map (fun i => (i.zero, i.size, i.bytes)) = some (some (.int .i64 0), 1, 8) := by kernel_rfl
end Go.Proofs.YtfnkobcmhbdcoabDoor.Base
end
section
/- Plain laws of the printed functions over integers' slices: copying, comparing, the problem's test. -/

namespace Go.Proofs.YtfnkobcmhbdcoabDoor.PureInts
open Go.RowKit Go.Proofs.YtfnkobcmhbdcoabDoorW.PrintWords Go.Proofs.YtfnkobcmhbdcoabDoorW.PrintLast Go.Proofs.YtfnkobcmhbdcoabDoor.Base
set_option linter.unusedVariables false
set_option linter.unusedSimpArgs false
set_option linter.unnecessarySimpa false

theorem wrap_succ {n : Nat} (h : n < 9223372036854775807) : wrap64 ((n : Int) + 1) = ((n + 1 : Nat) : Int) := by unfold wrap64; omega
theorem rd_nat {l : List Int} {i : Nat} (h : i < l.length) : rd l (i : Int) = l[i] := by simp [rd, h]
/-- A step of a chain of tests. -/
theorem Ev.pos {α : Type} {c : Prop} [Decidable c] {g f : Nat → Option α} {r : α} (hc : c) (h : Ev g r) : Ev (fun k => if c then g k else f k) r := Ev.congr (fun _ => if_pos hc) h
theorem Ev.neg {α : Type} {c : Prop} [Decidable c] {g f : Nat → Option α} {r : α} (hc : ¬ c) (h : Ev f r) : Ev (fun k => if c then g k else f k) r := Ev.congr (fun _ => if_neg hc) h
theorem Ev.some_eq {α : Type} {r s : α} (h : r = s) : Ev (fun _ => some r) s := h ▸ Ev.now _

/-! ### a copy -/
/-! ### alike -/
/-! ### the factors -/
/-! ### the problem's test -/
end Go.Proofs.YtfnkobcmhbdcoabDoor.PureInts
end
section
/- What is asked of a call, type by type: read, owned; the laws' helpers over integers' slices and pairs of them. -/


namespace Go.Proofs.YtfnkobcmhbdcoabDoor.Typed
open Go.RowKit Go.Proofs.YtfnkobcmhbdcoabDoorW.PrintWords Go.Proofs.YtfnkobcmhbdcoabDoorW.PrintLast Go.Proofs.YtfnkobcmhbdcoabDoor.Base Go.Proofs.YtfnkobcmhbdcoabDoor.PureInts
set_option linter.unusedVariables false
set_option linter.unusedSimpArgs false
set_option linter.unnecessarySimpa false

/-! ### cells that hold -/
/-- Some cells, and what they hold. -/
def Cells (w : World) (l : List (Nat × Nat × Value)) : Prop := ∀ p ∈ l, w.cell? ⟨p.1, p.2.1, none⟩ = some p.2.2
theorem Cells.nil (w : World) : Cells w [] := fun _ h => by cases h
theorem cell_lt {w : World} {a : Addr} {v : Value} (h : w.cell? a = some v) : a.block < w.heap.size := World.block_lt_of_cell? w _ h
theorem Cells.below {w w' : World} {l : List (Nat × Nat × Value)} (h : Cells w l) (hb : Below w.heap.size w w') : Cells w' l := fun p hp => by
  have := h p hp
  rw [hb.cell (cell_lt this)]
  exact this
/-- Only blocks in S may have changed. -/
theorem Cells.kept {w w' : World} {l : List (Nat × Nat × Value)} {S : Nat → Prop} (h : Cells w l) (hk : Kept w w' S) (hS : ∀ p ∈ l, ¬ S p.1) : Cells w' l := fun p hp => by
  have := h p hp
  have hl := cell_lt this
  rw [World.cell?_of_block (w := w) (hk.2 p.1 hl (hS p hp))]
  exact this
theorem Cells.cons {w : World} {l : List (Nat × Nat × Value)} {b o : Nat} {v : Value} (h0 : w.cell? ⟨b, o, none⟩ = some v) (h : Cells w l) : Cells w ((b, o, v) :: l) := fun p hp => by
  rcases List.mem_cons.1 hp with rfl | hp
  · exact h0
  · exact h p hp
theorem Cells.at {w : World} {l : List (Nat × Nat × Value)} (h : Cells w l) (i : Nat) {b o : Nat} {v : Value} (hi : l[i]? = some (b, o, v)) : w.cell? ⟨b, o, none⟩ = some v := h _ (List.mem_of_getElem? hi)

/-! ### integers' slices -/
def RdI (w : World) (v : Value) (l : List Int) : Prop := ∃ A c, v = .slice A l.length c ∧ l.length ≤ c ∧ Kd.C (Kd.int .i64) w A l.length l
theorem RdI.below {w w' : World} {v : Value} {l : List Int} (h : RdI w v l) (hb : Below w.heap.size w w') : RdI w' v l := by
  obtain ⟨A, c, e, hc, hr⟩ := h
  exact ⟨A, c, e, hc, Kd.C_below hr hb⟩
/-- The blocks of a row. -/
def Fp (v : Value) : Nat → Prop := fun k => v.ownBlock = some k
/-- Owned: a row from block base on. -/
def OwI (base : Nat) (w : World) (v : Value) (l : List Int) : Prop := Kd.R (Kd.int .i64) 3 w base (Fp v) v l
theorem OwI.of {base : Nat} {w : World} {ok : Nat → Prop} {v : Value} {l : List Int} (h : Kd.R (Kd.int .i64) 3 w base ok v l) : OwI base w v l :=
  ⟨fun _ hk => hk, h.2⟩
theorem OwI.rd {base : Nat} {w : World} {v : Value} {l : List Int} (h : OwI base w v l) : RdI w v l := by
  obtain ⟨A, c, e, hc, hr⟩ := Kd.R_reads h
  exact ⟨A, c, e, hc, hr⟩
theorem OwI.step {base : Nat} {w w' : World} {v : Value} {l : List Int} (h : OwI base w v l) (hm : ∀ k, Fp v k → k < w.heap.size → w'.heap[k]? = w.heap[k]?) : OwI base w' v l := Kd.R_step h hm
theorem OwI.below {base : Nat} {w w' : World} {v : Value} {l : List Int} (h : OwI base w v l) (hb : Below w.heap.size w w') : OwI base w' v l := h.step (fun k _ hk => hb.block k hk)
theorem OwI.drew {base : Nat} {w : World} {v : Value} {l : List Int} (h : OwI base w v l) : OwI base w.drew v l := Kd.R_drew h
theorem OwI.lt {base : Nat} {w : World} {v : Value} {l : List Int} (h : OwI base w v l) {k : Nat} (hk : Fp v k) : base ≤ k ∧ k < w.heap.size := by
  obtain ⟨inner, ho⟩ := Kd.R_own h
  exact ⟨own_base ho k hk, own_lt ho k hk⟩
theorem OwI.far {base : Nat} {w : World} {v : Value} {l : List Int} (h : OwI base w v l) {b : Nat} (hb : b < base) (o : Nat) (u : Value) : OwI base (w.setCell ⟨b, o, none⟩ u) v l := h.step (fun k hk hlt => Below.heap_setCell w _ u k (by have := h.lt hk; show k ≠ b; omega))
theorem OwI.lower {base base' : Nat} {w : World} {v : Value} {l : List Int} (h : OwI base w v l) (hb : base' ≤ base) : OwI base' w v l := Kd.R_lower h hb

theorem below_of_kept {w0 w w' : World} {B : Nat} (h : Below B w0 w) (hb : Below B w w') : Below B w0 w' := h.trans hb

/-- The numbers from k on. -/
def upFrom (k : Int) : Nat → List Int
  | 0 => []
  | n + 1 => k :: upFrom (k + 1) n
@[simp] theorem upFrom_length (k : Int) (n : Nat) : (upFrom k n).length = n := by
  induction n generalizing k with
  | zero => rfl
  | succ n ih => simp [upFrom, ih]
theorem upFrom_get (k : Int) (n i : Nat) (h : i < n) : (upFrom k n)[i]'(by simpa using h) = k + i := by
  induction n generalizing k i with
  | zero => omega
  | succ n ih =>
    cases i with
    | zero => simp [upFrom]
    | succ i =>
      simp only [upFrom, List.getElem_cons_succ]
      rw [ih (k + 1) i (by omega)]
      omega
/-- The world of a goal, by a letter. -/
theorem name_calls {P : Program} {f : FuncId} {args : Array Value} {W : World} {Q : Ending → World → Prop} (h : ∀ W', W' = W → Calls P f args W' Q) : Calls P f args W Q := h W rfl
theorem name_wp {P : Program} {c : Code} {Q : Exit → Act → World → Prop} {a : Act} {W : World} (h : ∀ W', W' = W → Code.wp P c Q a W') : Code.wp P c Q a W := h W rfl
theorem below_to {B : Nat} {w0 w w' : World} (h : Below B w0 w) (hb : Below w.heap.size w w') (hB : B ≤ w.heap.size) : Below B w0 w' := h.trans (hb.mono hB)
theorem below_kept {B B' : Nat} {w0 w W W' : World} {S : Nat → Prop} (h : Below B w0 W) (hB : B ≤ W.heap.size) (hk : Kept W W' S) (hS : ∀ k, S k → B ≤ k) (h1 : Below B' w W) (h2 : Below B' w W') : Below B w0 W' where
  os := (h2.os.trans h1.os.symm).trans h.os
  tape := (h2.tape.trans h1.tape.symm).trans h.tape
  output := (h2.output.trans h1.output.symm).trans h.output
  size := Nat.le_trans h.size hk.1
  block := fun k hlt => (hk.2 k (Nat.lt_of_lt_of_le hlt hB) (fun hs => by have := hS k hs; omega)).trans (h.block k hlt)
theorem cell_below {w w' : World} {a : Addr} {v : Value} (h : w.cell? a = some v) (hb : Below w.heap.size w w') : w'.cell? a = some v := (hb.cell (cell_lt h)).trans h
theorem cell_kept {w w' : World} {S : Nat → Prop} {a : Addr} {v : Value} (h : w.cell? a = some v) (hk : Kept w w' S) (hS : ¬ S a.block) : w'.cell? a = some v := (World.cell?_of_block (w := w) (hk.2 _ (cell_lt h) hS)).trans h
/-- Where an owned row lies. -/
def Lies (v : Value) (lo hi : Nat) : Prop := ∀ k, Fp v k → lo ≤ k ∧ k < hi
theorem OwI.lies {base : Nat} {w : World} {v : Value} {l : List Int} (h : OwI base w v l) : Lies v base w.heap.size := fun _ hk => h.lt hk
/-- A pair of rows of the call's own in a box: where the box lies, what it holds; made since W. -/
def GotM (W wx : World) (s : Value) (r0 r1 : List Int) : Prop :=
  ∃ b A0 c0 A1 c1, s = .pointer (some ⟨b, 0, none⟩) ∧ W.heap.size ≤ b ∧ wx.cell? ⟨b, 0, none⟩ = some (.slice A0 r0.length c0) ∧ wx.cell? ⟨b, 1, none⟩ = some (.slice A1 r1.length c1) ∧
    OwI W.heap.size wx (.slice A0 r0.length c0) r0 ∧ OwI W.heap.size wx (.slice A1 r1.length c1) r1 ∧ (∀ k, Fp (.slice A0 r0.length c0) k → ¬ Fp (.slice A1 r1.length c1) k) ∧ ¬ Fp (.slice A0 r0.length c0) b ∧ ¬ Fp (.slice A1 r1.length c1) b ∧ Below W.heap.size W wx
theorem OwI.set {base : Nat} {w : World} {v : Value} {l : List Int} (h : OwI base w v l) {b : Nat} (hb : ¬ Fp v b) (o : Nat) (u : Value) : OwI base (w.setCell ⟨b, o, none⟩ u) v l :=
  h.step (fun k hk _ => Below.heap_setCell w _ u k (fun e => hb (by rw [show k = b from e] at hk; exact hk)))
theorem OwI.not_at {base : Nat} {w : World} {v : Value} {l : List Int} (h : OwI base w v l) {b : Nat} (hb : b < base ∨ w.heap.size ≤ b) : ¬ Fp v b := fun hk => by have := h.lt hk; omega
/-- A block that has just been laid. -/
theorem laid_cell {w w' : World} {C : Array Value} {T : TypeId} (h : w' = w.alloc (.cells C T)) {j : Nat} {v : Value} (hj : C[j]? = some v) : w'.cell? ⟨w.heap.size, j, none⟩ = some v := by rw [h, World.cell?_alloc_mark w C T (0, 0) j]; exact hj
theorem laid_cell' {w w' : World} {C : Array Value} {T : TypeId} (h : w' = (w.alloc (.cells C T)).drew) {j : Nat} {v : Value} (hj : C[j]? = some v) : w'.cell? ⟨w.heap.size, j, none⟩ = some v := by rw [h]; exact laid_cell rfl hj
theorem laid_free {w w' : World} {C : Array Value} {T : TypeId} (h : w' = w.alloc (.cells C T)) (j : Nat) : w'.frozen? ⟨w.heap.size, j, none⟩ = false := by
  have hh : (w.alloc (.cells C T)).heap[w.heap.size]? = some (.cells C T) := by
    show (w.heap.push (.cells C T))[w.heap.size]? = _
    simp
  rw [h]
  simp only [World.frozen?, hh]
  simp
theorem laid_free' {w w' : World} {C : Array Value} {T : TypeId} (h : w' = (w.alloc (.cells C T)).drew) (j : Nat) : w'.frozen? ⟨w.heap.size, j, none⟩ = false := by rw [h]; exact laid_free rfl j
theorem GotM.laid {W w : World} {base T : Nat} {A0 A1 : Option Addr} {c0 c1 : Nat} {r0 r1 : List Int} (hB : Below W.heap.size W w) (h0 : OwI base w (.slice A0 r0.length c0) r0) (h1 : OwI base w (.slice A1 r1.length c1) r1) (hd : ∀ k, Fp (.slice A0 r0.length c0) k → ¬ Fp (.slice A1 r1.length c1) k) (hb : W.heap.size ≤ base) :
    GotM W (w.alloc (.cells #[.slice A0 r0.length c0, .slice A1 r1.length c1] T)) (.pointer (some ⟨w.heap.size, 0, none⟩)) r0 r1 :=
  ⟨w.heap.size, A0, c0, A1, c1, rfl, hB.size, laid_cell rfl rfl, laid_cell rfl rfl, (h0.lower hb).below (below_alloc (Below.refl _ _) _), (h1.lower hb).below (below_alloc (Below.refl _ _) _), hd, h0.not_at (.inr (Nat.le_refl _)), h1.not_at (.inr (Nat.le_refl _)), below_alloc hB _⟩
theorem GotM.put {W w : World} {base b : Nat} {A0 A1 : Option Addr} {c0 c1 : Nat} {r0 r1 : List Int} {x0 x1 : Value} (hB : Below W.heap.size W w) (h0 : OwI base w (.slice A0 r0.length c0) r0) (h1 : OwI base w (.slice A1 r1.length c1) r1) (hd : ∀ k, Fp (.slice A0 r0.length c0) k → ¬ Fp (.slice A1 r1.length c1) k) (hb : W.heap.size ≤ base)
    (e0 : w.cell? ⟨b, 0, none⟩ = some x0) (e1 : w.cell? ⟨b, 1, none⟩ = some x1) (hbl : b < base) (hwb : W.heap.size ≤ b) :
    GotM W ((w.setCell ⟨b, 0, none⟩ (.slice A0 r0.length c0)).setCell ⟨b, 1, none⟩ (.slice A1 r1.length c1)) (.pointer (some ⟨b, 0, none⟩)) r0 r1 :=
  ⟨b, A0, c0, A1, c1, rfl, hwb, (World.cell?_setCell_other _ _ _ _ (by simp)).trans (World.cell?_setCell_same _ _ _ e0), World.cell?_setCell_same _ _ _ ((World.cell?_setCell_other _ _ _ _ (by simp)).trans e1), ((h0.lower hb).set (h0.not_at (.inl hbl)) _ _).set (h0.not_at (.inl hbl)) _ _, ((h1.lower hb).set (h1.not_at (.inl hbl)) _ _).set (h1.not_at (.inl hbl)) _ _, hd, h0.not_at (.inl hbl), h1.not_at (.inl hbl), below_set (below_set hB hwb) hwb⟩
theorem lies_off {v : Value} {lo hi b : Nat} (h : Lies v lo hi) (hb : b < lo ∨ hi ≤ b) : ¬ Fp v b := fun hk => by have := h b hk; omega
theorem lies_apart {v u : Value} {lo hi lo' hi' : Nat} (h : Lies v lo hi) (h' : Lies u lo' hi') (hb : hi ≤ lo' ∨ hi' ≤ lo) : ∀ k, Fp v k → ¬ Fp u k := fun k h1 h2 => by have := h k h1; have := h' k h2; omega
theorem not_or' {p q : Prop} (h : ¬ p) (h' : ¬ q) : ¬ (p ∨ q) := fun e => e.elim h h'
end Go.Proofs.YtfnkobcmhbdcoabDoor.Typed
end
section
-- Written by this session's program xprint.py out of the translation; not trusted: Lean checks it.



















































namespace Go.Proofs.YtfnkobcmhbdcoabDoor.XTypes
open Go.RowKit Go.Proofs.YtfnkobcmhbdcoabDoorW.PrintWords Go.Proofs.YtfnkobcmhbdcoabDoorW.PrintLast Go.Proofs.YtfnkobcmhbdcoabDoorW.PrintMore
attribute [local go_sem] max2_int min2_int max_two min_two max_three min_three max_four min_four   -- for this text's walks alone
set_option linter.unusedVariables false
set_option linter.unusedSimpArgs false



def errW : Option Int → Value
  | none => .nilIface
  | some c => .iface 0 (.int .i64 c)
theorem errW_none : errW none = .nilIface := rfl
theorem errW_some (c : Int) : errW (some c) = .iface 0 (.int .i64 c) := rfl

theorem info5 : (Tryd.prog.info? 5).map (fun i => (i.zero, i.size, i.bytes)) = some (some (.int .u8 0), 1, 1) := by kernel_rfl
theorem info24 : (Tryd.prog.info? 24).map (fun i => (i.zero, i.size, i.bytes)) = some (some (.agg #[(.int .i64 0), (.string ⟨#[]⟩), (.int .i64 0), (.slice none 0 0)]), 4, 56) := by kernel_rfl
-- the values' own types
/-! #### struct type 7 -/
structure S7 where
  f0 : Int
  f1 : Int
  f2 : Bool
  f3 : Int
def z7 : S7 := ⟨(0 : Int), (0 : Int), false, (0 : Int)⟩
def k7 : Kd S7 := Kd.iso (Kd.pair (Kd.int .i64) (Kd.pair (Kd.int .i64) (Kd.pair Kd.bool (Kd.int .u8)))) (fun x : S7 => (x.f0, x.f1, x.f2, x.f3))
theorem k7_heap : Kd.Heap k7 := Kd.heap_iso _ (Kd.heap_pair (Kd.heap_int .i64) (Kd.heap_pair (Kd.heap_int .i64) (Kd.heap_pair Kd.heap_bool (Kd.heap_int .u8))))
theorem k7_open {w : World} {x : S7} {cs : List Value} (h : k7.K w x cs) : cs = [.int .i64 x.f0, .int .i64 x.f1, .bool x.f2, .int .u8 x.f3] := by
  obtain ⟨_, _, rfl, rfl, ⟨_, _, rfl, rfl, ⟨_, _, rfl, rfl, rfl⟩⟩⟩ := h
  exact rfl
theorem k7_openM {w : World} {base : Nat} {ok : Nat → Prop} {x : S7} {cs : List Value} (h : k7.M w base ok x cs) : cs = [.int .i64 x.f0, .int .i64 x.f1, .bool x.f2, .int .u8 x.f3] := by
  obtain ⟨_, _, rfl, rfl, ⟨_, _, rfl, rfl, ⟨_, _, rfl, rfl, rfl⟩⟩⟩ := h
  exact rfl
theorem k7_mk (w : World) (x : S7)  : k7.K w x [.int .i64 x.f0, .int .i64 x.f1, .bool x.f2, .int .u8 x.f3] := ⟨[.int .i64 x.f0], [.int .i64 x.f1, .bool x.f2, .int .u8 x.f3], rfl, rfl, ⟨[.int .i64 x.f1], [.bool x.f2, .int .u8 x.f3], rfl, rfl, ⟨[.bool x.f2], [.int .u8 x.f3], rfl, rfl, rfl⟩⟩⟩
theorem k7_mkM (w : World) (base : Nat) (ok : Nat → Prop) (x : S7)  : k7.M w base ok x [.int .i64 x.f0, .int .i64 x.f1, .bool x.f2, .int .u8 x.f3] := ⟨[.int .i64 x.f0], [.int .i64 x.f1, .bool x.f2, .int .u8 x.f3], rfl, rfl, ⟨[.int .i64 x.f1], [.bool x.f2, .int .u8 x.f3], rfl, rfl, ⟨[.bool x.f2], [.int .u8 x.f3], rfl, rfl, rfl⟩⟩⟩
theorem k7_mkF (W : World) (ok : Nat → Prop) (x : S7) : Kd.FK k7 W ok x [.int .i64 x.f0, .int .i64 x.f1, .bool x.f2, .int .u8 x.f3] := fun W2 _ => k7_mk W2 x
def rd_T7 (xs : List S7) (i : Int) : S7 := xs.getD i.toNat z7
theorem at_T7 {w : World} {A : Option Addr} {n : Nat} {xs : List S7} (h : Kd.C k7 w A n xs) (i : Int) (h0 : 0 ≤ i) (h1 : i < n) : ∃ ad , A = some ad ∧ w.cell? (ad.add (i.toNat * 4)) = some (.int .i64 (rd_T7 xs i).f0) ∧ w.cell? ⟨(ad.add (i.toNat * 4)).block, (ad.add (i.toNat * 4)).off + 1, none⟩ = some (.int .i64 (rd_T7 xs i).f1) ∧ w.cell? ⟨(ad.add (i.toNat * 4)).block, (ad.add (i.toNat * 4)).off + 2, none⟩ = some (.bool (rd_T7 xs i).f2) ∧ w.cell? ⟨(ad.add (i.toNat * 4)).block, (ad.add (i.toNat * 4)).off + 3, none⟩ = some (.int .u8 (rd_T7 xs i).f3) := by
  obtain ⟨ad, c, e, _, hK, hc0⟩ := Kd.C_get h z7 i h0 h1
  have hc : ∀ j u, c[j]? = some u → w.cell? (ad.add (i.toNat * 4 + j)) = some u := hc0
  obtain rfl := k7_open hK
  exact ⟨ad, e, hc 0 _ rfl, by rw [← add_field _ _ 1 (by omega)]; exact hc 1 _ rfl, by rw [← add_field _ _ 2 (by omega)]; exact hc 2 _ rfl, by rw [← add_field _ _ 3 (by omega)]; exact hc 3 _ rfl⟩

/-! #### struct type 8 -/
structure S8 where
  f0 : Int
  f1 : Int
  f2 : Bool
  f3 : Int
def z8 : S8 := ⟨(0 : Int), (0 : Int), false, (0 : Int)⟩
def k8 : Kd S8 := Kd.iso (Kd.pair (Kd.int .i64) (Kd.pair (Kd.int .i64) (Kd.pair Kd.bool (Kd.int .u8)))) (fun x : S8 => (x.f0, x.f1, x.f2, x.f3))
theorem k8_heap : Kd.Heap k8 := Kd.heap_iso _ (Kd.heap_pair (Kd.heap_int .i64) (Kd.heap_pair (Kd.heap_int .i64) (Kd.heap_pair Kd.heap_bool (Kd.heap_int .u8))))
theorem k8_open {w : World} {x : S8} {cs : List Value} (h : k8.K w x cs) : cs = [.int .i64 x.f0, .int .i64 x.f1, .bool x.f2, .int .u8 x.f3] := by
  obtain ⟨_, _, rfl, rfl, ⟨_, _, rfl, rfl, ⟨_, _, rfl, rfl, rfl⟩⟩⟩ := h
  exact rfl
theorem k8_openM {w : World} {base : Nat} {ok : Nat → Prop} {x : S8} {cs : List Value} (h : k8.M w base ok x cs) : cs = [.int .i64 x.f0, .int .i64 x.f1, .bool x.f2, .int .u8 x.f3] := by
  obtain ⟨_, _, rfl, rfl, ⟨_, _, rfl, rfl, ⟨_, _, rfl, rfl, rfl⟩⟩⟩ := h
  exact rfl
theorem k8_mk (w : World) (x : S8)  : k8.K w x [.int .i64 x.f0, .int .i64 x.f1, .bool x.f2, .int .u8 x.f3] := ⟨[.int .i64 x.f0], [.int .i64 x.f1, .bool x.f2, .int .u8 x.f3], rfl, rfl, ⟨[.int .i64 x.f1], [.bool x.f2, .int .u8 x.f3], rfl, rfl, ⟨[.bool x.f2], [.int .u8 x.f3], rfl, rfl, rfl⟩⟩⟩
theorem k8_mkM (w : World) (base : Nat) (ok : Nat → Prop) (x : S8)  : k8.M w base ok x [.int .i64 x.f0, .int .i64 x.f1, .bool x.f2, .int .u8 x.f3] := ⟨[.int .i64 x.f0], [.int .i64 x.f1, .bool x.f2, .int .u8 x.f3], rfl, rfl, ⟨[.int .i64 x.f1], [.bool x.f2, .int .u8 x.f3], rfl, rfl, ⟨[.bool x.f2], [.int .u8 x.f3], rfl, rfl, rfl⟩⟩⟩
theorem k8_mkF (W : World) (ok : Nat → Prop) (x : S8) : Kd.FK k8 W ok x [.int .i64 x.f0, .int .i64 x.f1, .bool x.f2, .int .u8 x.f3] := fun W2 _ => k8_mk W2 x
def rd_T8 (xs : List S8) (i : Int) : S8 := xs.getD i.toNat z8
theorem at_T8 {w : World} {A : Option Addr} {n : Nat} {xs : List S8} (h : Kd.C k8 w A n xs) (i : Int) (h0 : 0 ≤ i) (h1 : i < n) : ∃ ad , A = some ad ∧ w.cell? (ad.add (i.toNat * 4)) = some (.int .i64 (rd_T8 xs i).f0) ∧ w.cell? ⟨(ad.add (i.toNat * 4)).block, (ad.add (i.toNat * 4)).off + 1, none⟩ = some (.int .i64 (rd_T8 xs i).f1) ∧ w.cell? ⟨(ad.add (i.toNat * 4)).block, (ad.add (i.toNat * 4)).off + 2, none⟩ = some (.bool (rd_T8 xs i).f2) ∧ w.cell? ⟨(ad.add (i.toNat * 4)).block, (ad.add (i.toNat * 4)).off + 3, none⟩ = some (.int .u8 (rd_T8 xs i).f3) := by
  obtain ⟨ad, c, e, _, hK, hc0⟩ := Kd.C_get h z8 i h0 h1
  have hc : ∀ j u, c[j]? = some u → w.cell? (ad.add (i.toNat * 4 + j)) = some u := hc0
  obtain rfl := k8_open hK
  exact ⟨ad, e, hc 0 _ rfl, by rw [← add_field _ _ 1 (by omega)]; exact hc 1 _ rfl, by rw [← add_field _ _ 2 (by omega)]; exact hc 2 _ rfl, by rw [← add_field _ _ 3 (by omega)]; exact hc 3 _ rfl⟩

/-! #### struct type 13 -/
structure S13 where
  f0 : ByteArray
  f1 : Int
def z13 : S13 := ⟨(⟨#[]⟩ : ByteArray), (0 : Int)⟩
def k13 : Kd S13 := Kd.iso (Kd.pair Kd.string (Kd.int .u64)) (fun x : S13 => (x.f0, x.f1))
theorem k13_heap : Kd.Heap k13 := Kd.heap_iso _ (Kd.heap_pair Kd.heap_string (Kd.heap_int .u64))
theorem k13_open {w : World} {x : S13} {cs : List Value} (h : k13.K w x cs) : cs = [.string x.f0, .int .u64 x.f1] := by
  obtain ⟨_, _, rfl, rfl, rfl⟩ := h
  exact rfl
theorem k13_openM {w : World} {base : Nat} {ok : Nat → Prop} {x : S13} {cs : List Value} (h : k13.M w base ok x cs) : cs = [.string x.f0, .int .u64 x.f1] := by
  obtain ⟨_, _, rfl, rfl, rfl⟩ := h
  exact rfl
theorem k13_mk (w : World) (x : S13)  : k13.K w x [.string x.f0, .int .u64 x.f1] := ⟨[.string x.f0], [.int .u64 x.f1], rfl, rfl, rfl⟩
theorem k13_mkM (w : World) (base : Nat) (ok : Nat → Prop) (x : S13)  : k13.M w base ok x [.string x.f0, .int .u64 x.f1] := ⟨[.string x.f0], [.int .u64 x.f1], rfl, rfl, rfl⟩
theorem k13_mkF (W : World) (ok : Nat → Prop) (x : S13) : Kd.FK k13 W ok x [.string x.f0, .int .u64 x.f1] := fun W2 _ => k13_mk W2 x
def rd_T13 (xs : List S13) (i : Int) : S13 := xs.getD i.toNat z13
theorem at_T13 {w : World} {A : Option Addr} {n : Nat} {xs : List S13} (h : Kd.C k13 w A n xs) (i : Int) (h0 : 0 ≤ i) (h1 : i < n) : ∃ ad , A = some ad ∧ w.cell? (ad.add (i.toNat * 2)) = some (.string (rd_T13 xs i).f0) ∧ w.cell? ⟨(ad.add (i.toNat * 2)).block, (ad.add (i.toNat * 2)).off + 1, none⟩ = some (.int .u64 (rd_T13 xs i).f1) := by
  obtain ⟨ad, c, e, _, hK, hc0⟩ := Kd.C_get h z13 i h0 h1
  have hc : ∀ j u, c[j]? = some u → w.cell? (ad.add (i.toNat * 2 + j)) = some u := hc0
  obtain rfl := k13_open hK
  exact ⟨ad, e, hc 0 _ rfl, by rw [← add_field _ _ 1 (by omega)]; exact hc 1 _ rfl⟩

/-! #### struct type 14 -/
structure S14 where
  f0 : ByteArray
  f1 : Int
def z14 : S14 := ⟨(⟨#[]⟩ : ByteArray), (0 : Int)⟩
def k14 : Kd S14 := Kd.iso (Kd.pair Kd.string (Kd.int .u64)) (fun x : S14 => (x.f0, x.f1))
theorem k14_heap : Kd.Heap k14 := Kd.heap_iso _ (Kd.heap_pair Kd.heap_string (Kd.heap_int .u64))
theorem k14_open {w : World} {x : S14} {cs : List Value} (h : k14.K w x cs) : cs = [.string x.f0, .int .u64 x.f1] := by
  obtain ⟨_, _, rfl, rfl, rfl⟩ := h
  exact rfl
theorem k14_openM {w : World} {base : Nat} {ok : Nat → Prop} {x : S14} {cs : List Value} (h : k14.M w base ok x cs) : cs = [.string x.f0, .int .u64 x.f1] := by
  obtain ⟨_, _, rfl, rfl, rfl⟩ := h
  exact rfl
theorem k14_mk (w : World) (x : S14)  : k14.K w x [.string x.f0, .int .u64 x.f1] := ⟨[.string x.f0], [.int .u64 x.f1], rfl, rfl, rfl⟩
theorem k14_mkM (w : World) (base : Nat) (ok : Nat → Prop) (x : S14)  : k14.M w base ok x [.string x.f0, .int .u64 x.f1] := ⟨[.string x.f0], [.int .u64 x.f1], rfl, rfl, rfl⟩
theorem k14_mkF (W : World) (ok : Nat → Prop) (x : S14) : Kd.FK k14 W ok x [.string x.f0, .int .u64 x.f1] := fun W2 _ => k14_mk W2 x
def rd_T14 (xs : List S14) (i : Int) : S14 := xs.getD i.toNat z14
theorem at_T14 {w : World} {A : Option Addr} {n : Nat} {xs : List S14} (h : Kd.C k14 w A n xs) (i : Int) (h0 : 0 ≤ i) (h1 : i < n) : ∃ ad , A = some ad ∧ w.cell? (ad.add (i.toNat * 2)) = some (.string (rd_T14 xs i).f0) ∧ w.cell? ⟨(ad.add (i.toNat * 2)).block, (ad.add (i.toNat * 2)).off + 1, none⟩ = some (.int .u64 (rd_T14 xs i).f1) := by
  obtain ⟨ad, c, e, _, hK, hc0⟩ := Kd.C_get h z14 i h0 h1
  have hc : ∀ j u, c[j]? = some u → w.cell? (ad.add (i.toNat * 2 + j)) = some u := hc0
  obtain rfl := k14_open hK
  exact ⟨ad, e, hc 0 _ rfl, by rw [← add_field _ _ 1 (by omega)]; exact hc 1 _ rfl⟩

/-! #### struct type 24, nested in itself -/
structure S24 where
  f0 : Int
  f1 : ByteArray
  f2 : Int
  f3 : (List S24)
def z24 : S24 := ⟨(0 : Int), (⟨#[]⟩ : ByteArray), (0 : Int), ([] : List S24)⟩
def F24 (d : Kd S24) : Kd S24 := Kd.iso (Kd.pair (Kd.int .i64) (Kd.pair Kd.string (Kd.pair (Kd.int .i64) (Kd.slice 24 d)))) (fun x : S24 => (x.f0, x.f1, x.f2, x.f3))
theorem mono24 : Kd.Mono F24 := Kd.mono_iso _ (Kd.mono_pair (Kd.mono_const _) (Kd.mono_pair (Kd.mono_const _) (Kd.mono_pair (Kd.mono_const _) (Kd.mono_slice 24 Kd.mono_id))))
theorem sub24 : Kd.Sub F24 [24] := Kd.sub_iso _ (Kd.sub_pair (Kd.sub_const _ (by decide)) (Kd.sub_pair (Kd.sub_const _ (by decide)) (Kd.sub_pair (Kd.sub_const _ (by decide)) (Kd.sub_slice 24 (by decide) Kd.sub_id))))
theorem sz24 : ∀ n, (Kd.upto F24 4 [24] n).sz = 4 := Kd.upto_sz (fun _ => rfl)
def k24 : Kd S24 := Kd.fix F24 4 [24] sz24 (Kd.upto_E sub24)
theorem k24_heap : Kd.Heap k24 := Kd.heap_fix (fun _ h_ => Kd.heap_iso _ (Kd.heap_pair (Kd.heap_int .i64) (Kd.heap_pair Kd.heap_string (Kd.heap_pair (Kd.heap_int .i64) (Kd.heap_slice 24 h_)))))
theorem k24_open {w : World} {x : S24} {cs : List Value} (h : k24.K w x cs) : ∃ A3 c3, cs = [.int .i64 x.f0, .string x.f1, .int .i64 x.f2, .slice A3 x.f3.length c3] ∧ x.f3.length ≤ c3 ∧ k24.C w A3 x.f3.length x.f3 := by
  obtain ⟨n, h⟩ := h
  cases n with
  | zero => exact h.elim
  | succ n =>
    obtain ⟨_, _, rfl, rfl, ⟨_, _, rfl, rfl, ⟨_, _, rfl, rfl, ⟨A3, c3, rfl, l3, g3⟩⟩⟩⟩ := h
    exact ⟨A3, c3, rfl, l3, Kd.fix_C g3⟩
theorem k24_openM {w : World} {base : Nat} {ok : Nat → Prop} {x : S24} {cs : List Value} (h : k24.M w base ok x cs) : ∃ v3, cs = [.int .i64 x.f0, .string x.f1, .int .i64 x.f2, v3] ∧ k24.R 24 w base ok v3 x.f3 := by
  obtain ⟨n, h⟩ := h
  cases n with
  | zero => exact h.elim
  | succ n =>
    obtain ⟨_, _, rfl, rfl, ⟨_, _, rfl, rfl, ⟨_, _, rfl, rfl, ⟨v3, rfl, g3⟩⟩⟩⟩ := h
    exact ⟨v3, rfl, Kd.fix_R g3⟩
theorem k24_mk (w : World) (x : S24) {A3 : Option Addr} {c3 : Nat} (l3 : x.f3.length ≤ c3) (g3 : k24.C w A3 x.f3.length x.f3) : k24.K w x [.int .i64 x.f0, .string x.f1, .int .i64 x.f2, .slice A3 x.f3.length c3] := by
  obtain ⟨n3, q3⟩ := Kd.fix_C_back mono24 g3
  have r3 := Kd.upto_C_le mono24 sz24 (show n3 ≤ n3 by omega) q3
  exact ⟨n3 + 1, ⟨[.int .i64 x.f0], [.string x.f1, .int .i64 x.f2, .slice A3 x.f3.length c3], rfl, rfl, ⟨[.string x.f1], [.int .i64 x.f2, .slice A3 x.f3.length c3], rfl, rfl, ⟨[.int .i64 x.f2], [.slice A3 x.f3.length c3], rfl, rfl, ⟨A3, c3, rfl, l3, r3⟩⟩⟩⟩⟩
theorem k24_mkM (w : World) (base : Nat) (ok : Nat → Prop) (x : S24) {v3 : Value} (g3 : k24.R 24 w base ok v3 x.f3) : k24.M w base ok x [.int .i64 x.f0, .string x.f1, .int .i64 x.f2, v3] := by
  obtain ⟨n3, q3⟩ := Kd.fix_R_back mono24 g3
  have r3 := Kd.upto_R_le mono24 sz24 (show n3 ≤ n3 by omega) q3
  exact ⟨n3 + 1, ⟨[.int .i64 x.f0], [.string x.f1, .int .i64 x.f2, v3], rfl, rfl, ⟨[.string x.f1], [.int .i64 x.f2, v3], rfl, rfl, ⟨[.int .i64 x.f2], [v3], rfl, rfl, ⟨v3, rfl, r3⟩⟩⟩⟩⟩
theorem k24_openF {W : World} {ok : Nat → Prop} {x : S24} {cs : List Value} (h : Kd.FK k24 W ok x cs) : ∃ A3 c3, cs = [.int .i64 x.f0, .string x.f1, .int .i64 x.f2, .slice A3 x.f3.length c3] ∧ x.f3.length ≤ c3 ∧ Kd.F k24 W ok A3 x.f3.length x.f3 := by
  obtain ⟨A3, c3, rfl, l3, _⟩ := k24_open (Kd.FK_now h)
  exact ⟨A3, c3, rfl, l3, (fun W' hW => by obtain ⟨A3_, c3_, he, l3_, g3_⟩ := k24_open (h W' hW); injection (Option.some.inj (show some (Value.slice A3 x.f3.length c3) = some (Value.slice A3_ x.f3.length c3_) from congrArg (fun l => l[3]?) he)) with ha_ _ _; rw [ha_]; exact g3_)⟩
theorem k24_mkF (W : World) (ok : Nat → Prop) (x : S24) {A3 : Option Addr} {c3 : Nat} (l3 : x.f3.length ≤ c3) (g3 : Kd.F k24 W ok A3 x.f3.length x.f3) : Kd.FK k24 W ok x [.int .i64 x.f0, .string x.f1, .int .i64 x.f2, .slice A3 x.f3.length c3] := fun W2 hW => k24_mk W2 x l3 (g3 W2 hW)
def rd_T24 (xs : List S24) (i : Int) : S24 := xs.getD i.toNat z24
theorem at_T24 {w : World} {A : Option Addr} {n : Nat} {xs : List S24} (h : Kd.C k24 w A n xs) (i : Int) (h0 : 0 ≤ i) (h1 : i < n) : ∃ ad A3 c3, A = some ad ∧ w.cell? (ad.add (i.toNat * 4)) = some (.int .i64 (rd_T24 xs i).f0) ∧ w.cell? ⟨(ad.add (i.toNat * 4)).block, (ad.add (i.toNat * 4)).off + 1, none⟩ = some (.string (rd_T24 xs i).f1) ∧ w.cell? ⟨(ad.add (i.toNat * 4)).block, (ad.add (i.toNat * 4)).off + 2, none⟩ = some (.int .i64 (rd_T24 xs i).f2) ∧ w.cell? ⟨(ad.add (i.toNat * 4)).block, (ad.add (i.toNat * 4)).off + 3, none⟩ = some (.slice A3 (rd_T24 xs i).f3.length c3) ∧ (rd_T24 xs i).f3.length ≤ c3 ∧ k24.C w A3 (rd_T24 xs i).f3.length (rd_T24 xs i).f3 := by
  obtain ⟨ad, c, e, _, hK, hc0⟩ := Kd.C_get h z24 i h0 h1
  have hc : ∀ j u, c[j]? = some u → w.cell? (ad.add (i.toNat * 4 + j)) = some u := hc0
  obtain ⟨A3, c3, rfl, l3, g3⟩ := k24_open hK
  exact ⟨ad, A3, c3, e, hc 0 _ rfl, by rw [← add_field _ _ 1 (by omega)]; exact hc 1 _ rfl, by rw [← add_field _ _ 2 (by omega)]; exact hc 2 _ rfl, by rw [← add_field _ _ 3 (by omega)]; exact hc 3 _ rfl, l3, g3⟩

def rd_L11 (xs : List (List S24)) (i : Int) : (List S24) := xs.getD i.toNat ([] : List S24)
theorem at_L11 {w : World} {A : Option Addr} {n : Nat} {xs : List (List S24)} (h : Kd.C (Kd.slice 24 k24) w A n xs) (i : Int) (h0 : 0 ≤ i) (h1 : i < n) : ∃ ad A0 c0, A = some ad ∧ w.cell? (ad.add i.toNat) = some (.slice A0 (rd_L11 xs i).length c0) ∧ (rd_L11 xs i).length ≤ c0 ∧ k24.C w A0 (rd_L11 xs i).length (rd_L11 xs i) := by
  obtain ⟨ad, c, e, _, hK, hc0⟩ := Kd.C_get h ([] : List S24) i h0 h1
  have hc : ∀ j u, c[j]? = some u → w.cell? (ad.add (i.toNat * 1 + j)) = some u := hc0
  obtain ⟨A0, c0, rfl, l0, g0⟩ := hK
  exact ⟨ad, A0, c0, e, by have hq := hc 0 _ rfl; rwa [Nat.mul_one, Nat.add_zero] at hq, l0, g0⟩

/-! #### struct type 23 -/
structure S23 where
  f0 : Int
  f1 : ByteArray
  f2 : Int
  f3 : (List S24)
def z23 : S23 := ⟨(0 : Int), (⟨#[]⟩ : ByteArray), (0 : Int), ([] : List S24)⟩
def k23 : Kd S23 := Kd.iso (Kd.pair (Kd.int .i64) (Kd.pair Kd.string (Kd.pair (Kd.int .i64) (Kd.slice 24 k24)))) (fun x : S23 => (x.f0, x.f1, x.f2, x.f3))
theorem k23_heap : Kd.Heap k23 := Kd.heap_iso _ (Kd.heap_pair (Kd.heap_int .i64) (Kd.heap_pair Kd.heap_string (Kd.heap_pair (Kd.heap_int .i64) (Kd.heap_slice 24 k24_heap))))
theorem k23_open {w : World} {x : S23} {cs : List Value} (h : k23.K w x cs) : ∃ A3 c3, cs = [.int .i64 x.f0, .string x.f1, .int .i64 x.f2, .slice A3 x.f3.length c3] ∧ x.f3.length ≤ c3 ∧ k24.C w A3 x.f3.length x.f3 := by
  obtain ⟨_, _, rfl, rfl, ⟨_, _, rfl, rfl, ⟨_, _, rfl, rfl, ⟨A3, c3, rfl, l3, g3⟩⟩⟩⟩ := h
  exact ⟨A3, c3, rfl, l3, g3⟩
theorem k23_openM {w : World} {base : Nat} {ok : Nat → Prop} {x : S23} {cs : List Value} (h : k23.M w base ok x cs) : ∃ v3, cs = [.int .i64 x.f0, .string x.f1, .int .i64 x.f2, v3] ∧ k24.R 24 w base ok v3 x.f3 := by
  obtain ⟨_, _, rfl, rfl, ⟨_, _, rfl, rfl, ⟨_, _, rfl, rfl, ⟨v3, rfl, g3⟩⟩⟩⟩ := h
  exact ⟨v3, rfl, g3⟩
theorem k23_mk (w : World) (x : S23) {A3 : Option Addr} {c3 : Nat} (l3 : x.f3.length ≤ c3) (g3 : k24.C w A3 x.f3.length x.f3) : k23.K w x [.int .i64 x.f0, .string x.f1, .int .i64 x.f2, .slice A3 x.f3.length c3] := ⟨[.int .i64 x.f0], [.string x.f1, .int .i64 x.f2, .slice A3 x.f3.length c3], rfl, rfl, ⟨[.string x.f1], [.int .i64 x.f2, .slice A3 x.f3.length c3], rfl, rfl, ⟨[.int .i64 x.f2], [.slice A3 x.f3.length c3], rfl, rfl, ⟨A3, c3, rfl, l3, g3⟩⟩⟩⟩
theorem k23_mkM (w : World) (base : Nat) (ok : Nat → Prop) (x : S23) {v3 : Value} (g3 : k24.R 24 w base ok v3 x.f3) : k23.M w base ok x [.int .i64 x.f0, .string x.f1, .int .i64 x.f2, v3] := ⟨[.int .i64 x.f0], [.string x.f1, .int .i64 x.f2, v3], rfl, rfl, ⟨[.string x.f1], [.int .i64 x.f2, v3], rfl, rfl, ⟨[.int .i64 x.f2], [v3], rfl, rfl, ⟨v3, rfl, g3⟩⟩⟩⟩
theorem k23_openF {W : World} {ok : Nat → Prop} {x : S23} {cs : List Value} (h : Kd.FK k23 W ok x cs) : ∃ A3 c3, cs = [.int .i64 x.f0, .string x.f1, .int .i64 x.f2, .slice A3 x.f3.length c3] ∧ x.f3.length ≤ c3 ∧ Kd.F k24 W ok A3 x.f3.length x.f3 := by
  obtain ⟨A3, c3, rfl, l3, _⟩ := k23_open (Kd.FK_now h)
  exact ⟨A3, c3, rfl, l3, (fun W' hW => by obtain ⟨A3_, c3_, he, l3_, g3_⟩ := k23_open (h W' hW); injection (Option.some.inj (show some (Value.slice A3 x.f3.length c3) = some (Value.slice A3_ x.f3.length c3_) from congrArg (fun l => l[3]?) he)) with ha_ _ _; rw [ha_]; exact g3_)⟩
theorem k23_mkF (W : World) (ok : Nat → Prop) (x : S23) {A3 : Option Addr} {c3 : Nat} (l3 : x.f3.length ≤ c3) (g3 : Kd.F k24 W ok A3 x.f3.length x.f3) : Kd.FK k23 W ok x [.int .i64 x.f0, .string x.f1, .int .i64 x.f2, .slice A3 x.f3.length c3] := fun W2 hW => k23_mk W2 x l3 (g3 W2 hW)
def rd_T23 (xs : List S23) (i : Int) : S23 := xs.getD i.toNat z23
theorem at_T23 {w : World} {A : Option Addr} {n : Nat} {xs : List S23} (h : Kd.C k23 w A n xs) (i : Int) (h0 : 0 ≤ i) (h1 : i < n) : ∃ ad A3 c3, A = some ad ∧ w.cell? (ad.add (i.toNat * 4)) = some (.int .i64 (rd_T23 xs i).f0) ∧ w.cell? ⟨(ad.add (i.toNat * 4)).block, (ad.add (i.toNat * 4)).off + 1, none⟩ = some (.string (rd_T23 xs i).f1) ∧ w.cell? ⟨(ad.add (i.toNat * 4)).block, (ad.add (i.toNat * 4)).off + 2, none⟩ = some (.int .i64 (rd_T23 xs i).f2) ∧ w.cell? ⟨(ad.add (i.toNat * 4)).block, (ad.add (i.toNat * 4)).off + 3, none⟩ = some (.slice A3 (rd_T23 xs i).f3.length c3) ∧ (rd_T23 xs i).f3.length ≤ c3 ∧ k24.C w A3 (rd_T23 xs i).f3.length (rd_T23 xs i).f3 := by
  obtain ⟨ad, c, e, _, hK, hc0⟩ := Kd.C_get h z23 i h0 h1
  have hc : ∀ j u, c[j]? = some u → w.cell? (ad.add (i.toNat * 4 + j)) = some u := hc0
  obtain ⟨A3, c3, rfl, l3, g3⟩ := k23_open hK
  exact ⟨ad, A3, c3, e, hc 0 _ rfl, by rw [← add_field _ _ 1 (by omega)]; exact hc 1 _ rfl, by rw [← add_field _ _ 2 (by omega)]; exact hc 2 _ rfl, by rw [← add_field _ _ 3 (by omega)]; exact hc 3 _ rfl, l3, g3⟩

def rd_L13 (xs : List (List Int)) (i : Int) : (List Int) := xs.getD i.toNat ([] : List Int)
theorem at_L13 {w : World} {A : Option Addr} {n : Nat} {xs : List (List Int)} (h : Kd.C (Kd.slice 5 (Kd.int .u8)) w A n xs) (i : Int) (h0 : 0 ≤ i) (h1 : i < n) : ∃ ad A0 c0, A = some ad ∧ w.cell? (ad.add i.toNat) = some (.slice A0 (rd_L13 xs i).length c0) ∧ (rd_L13 xs i).length ≤ c0 ∧ (Kd.int .u8).C w A0 (rd_L13 xs i).length (rd_L13 xs i) := by
  obtain ⟨ad, c, e, _, hK, hc0⟩ := Kd.C_get h ([] : List Int) i h0 h1
  have hc : ∀ j u, c[j]? = some u → w.cell? (ad.add (i.toNat * 1 + j)) = some u := hc0
  obtain ⟨A0, c0, rfl, l0, g0⟩ := hK
  exact ⟨ad, A0, c0, e, by have hq := hc 0 _ rfl; rwa [Nat.mul_one, Nat.add_zero] at hq, l0, g0⟩

/-! #### struct type 51 -/
structure S51 where
  f0 : Int
  f1 : Int
def z51 : S51 := ⟨(0 : Int), (0 : Int)⟩
def k51 : Kd S51 := Kd.iso (Kd.pair (Kd.int .u8) (Kd.int .u8)) (fun x : S51 => (x.f0, x.f1))
theorem k51_heap : Kd.Heap k51 := Kd.heap_iso _ (Kd.heap_pair (Kd.heap_int .u8) (Kd.heap_int .u8))
theorem k51_open {w : World} {x : S51} {cs : List Value} (h : k51.K w x cs) : cs = [.int .u8 x.f0, .int .u8 x.f1] := by
  obtain ⟨_, _, rfl, rfl, rfl⟩ := h
  exact rfl
theorem k51_openM {w : World} {base : Nat} {ok : Nat → Prop} {x : S51} {cs : List Value} (h : k51.M w base ok x cs) : cs = [.int .u8 x.f0, .int .u8 x.f1] := by
  obtain ⟨_, _, rfl, rfl, rfl⟩ := h
  exact rfl
theorem k51_mk (w : World) (x : S51)  : k51.K w x [.int .u8 x.f0, .int .u8 x.f1] := ⟨[.int .u8 x.f0], [.int .u8 x.f1], rfl, rfl, rfl⟩
theorem k51_mkM (w : World) (base : Nat) (ok : Nat → Prop) (x : S51)  : k51.M w base ok x [.int .u8 x.f0, .int .u8 x.f1] := ⟨[.int .u8 x.f0], [.int .u8 x.f1], rfl, rfl, rfl⟩
theorem k51_mkF (W : World) (ok : Nat → Prop) (x : S51) : Kd.FK k51 W ok x [.int .u8 x.f0, .int .u8 x.f1] := fun W2 _ => k51_mk W2 x
def rd_T51 (xs : List S51) (i : Int) : S51 := xs.getD i.toNat z51
theorem at_T51 {w : World} {A : Option Addr} {n : Nat} {xs : List S51} (h : Kd.C k51 w A n xs) (i : Int) (h0 : 0 ≤ i) (h1 : i < n) : ∃ ad , A = some ad ∧ w.cell? (ad.add (i.toNat * 2)) = some (.int .u8 (rd_T51 xs i).f0) ∧ w.cell? ⟨(ad.add (i.toNat * 2)).block, (ad.add (i.toNat * 2)).off + 1, none⟩ = some (.int .u8 (rd_T51 xs i).f1) := by
  obtain ⟨ad, c, e, _, hK, hc0⟩ := Kd.C_get h z51 i h0 h1
  have hc : ∀ j u, c[j]? = some u → w.cell? (ad.add (i.toNat * 2 + j)) = some u := hc0
  obtain rfl := k51_open hK
  exact ⟨ad, e, hc 0 _ rfl, by rw [← add_field _ _ 1 (by omega)]; exact hc 1 _ rfl⟩

/-! #### struct type 52 -/
structure S52 where
  f0 : Int
  f1 : Int
def z52 : S52 := ⟨(0 : Int), (0 : Int)⟩
def k52 : Kd S52 := Kd.iso (Kd.pair (Kd.int .u8) (Kd.int .u8)) (fun x : S52 => (x.f0, x.f1))
theorem k52_heap : Kd.Heap k52 := Kd.heap_iso _ (Kd.heap_pair (Kd.heap_int .u8) (Kd.heap_int .u8))
theorem k52_open {w : World} {x : S52} {cs : List Value} (h : k52.K w x cs) : cs = [.int .u8 x.f0, .int .u8 x.f1] := by
  obtain ⟨_, _, rfl, rfl, rfl⟩ := h
  exact rfl
theorem k52_openM {w : World} {base : Nat} {ok : Nat → Prop} {x : S52} {cs : List Value} (h : k52.M w base ok x cs) : cs = [.int .u8 x.f0, .int .u8 x.f1] := by
  obtain ⟨_, _, rfl, rfl, rfl⟩ := h
  exact rfl
theorem k52_mk (w : World) (x : S52)  : k52.K w x [.int .u8 x.f0, .int .u8 x.f1] := ⟨[.int .u8 x.f0], [.int .u8 x.f1], rfl, rfl, rfl⟩
theorem k52_mkM (w : World) (base : Nat) (ok : Nat → Prop) (x : S52)  : k52.M w base ok x [.int .u8 x.f0, .int .u8 x.f1] := ⟨[.int .u8 x.f0], [.int .u8 x.f1], rfl, rfl, rfl⟩
theorem k52_mkF (W : World) (ok : Nat → Prop) (x : S52) : Kd.FK k52 W ok x [.int .u8 x.f0, .int .u8 x.f1] := fun W2 _ => k52_mk W2 x
def rd_T52 (xs : List S52) (i : Int) : S52 := xs.getD i.toNat z52
theorem at_T52 {w : World} {A : Option Addr} {n : Nat} {xs : List S52} (h : Kd.C k52 w A n xs) (i : Int) (h0 : 0 ≤ i) (h1 : i < n) : ∃ ad , A = some ad ∧ w.cell? (ad.add (i.toNat * 2)) = some (.int .u8 (rd_T52 xs i).f0) ∧ w.cell? ⟨(ad.add (i.toNat * 2)).block, (ad.add (i.toNat * 2)).off + 1, none⟩ = some (.int .u8 (rd_T52 xs i).f1) := by
  obtain ⟨ad, c, e, _, hK, hc0⟩ := Kd.C_get h z52 i h0 h1
  have hc : ∀ j u, c[j]? = some u → w.cell? (ad.add (i.toNat * 2 + j)) = some u := hc0
  obtain rfl := k52_open hK
  exact ⟨ad, e, hc 0 _ rfl, by rw [← add_field _ _ 1 (by omega)]; exact hc 1 _ rfl⟩

end Go.Proofs.YtfnkobcmhbdcoabDoor.XTypes
end
section
/- Terms as trees that the call owns: where they lie, which blocks are theirs, no two of which are one. -/


namespace Go.Proofs.YtfnkobcmhbdcoabDoor.Trees
open Go.RowKit Go.Proofs.YtfnkobcmhbdcoabDoorW.PrintWords Go.Proofs.YtfnkobcmhbdcoabDoorW.PrintLast Go.Proofs.YtfnkobcmhbdcoabDoor.Base Go.Proofs.YtfnkobcmhbdcoabDoor.XTypes Go.Proofs.YtfnkobcmhbdcoabDoor.PureInts Go.Proofs.YtfnkobcmhbdcoabDoor.Typed
set_option linter.unusedVariables false
set_option linter.unusedSimpArgs false
set_option linter.unnecessarySimpa false

abbrev T := S24
abbrev kT : Kd T := k24
/-- Induction over terms and lists of terms. -/
theorem T.ind {P : T → Prop} {Q : List T → Prop} (h1 : ∀ op nm st ts, Q ts → P ⟨op, nm, st, ts⟩) (h2 : Q []) (h3 : ∀ t ts, P t → Q ts → Q (t :: ts)) : (∀ t, P t) ∧ ∀ ts, Q ts := by
  have hp : ∀ t, P t := fun t => S24.rec (motive_1 := P) (motive_2 := Q) (fun op nm st ts ih => h1 op nm st ts ih) h2 (fun t ts iht ihs => h3 t ts iht ihs) t
  refine ⟨hp, fun ts => ?_⟩
  induction ts with
  | nil => exact h2
  | cons t ts ih => exact h3 t ts (hp t) ih

/-- A row: nil, or a block of one's own whose first cells are told by R (with the blocks that they lead to). -/
def RowOf (w : World) (e sz : Nat) (v : Value) (n : Nat) (R : List Value → List Nat → Prop) (S : List Nat) : Prop :=
  (v = .slice none 0 0 ∧ n = 0 ∧ S = []) ∨
  ∃ g cap cur S', v = .slice (some ⟨g, 0, none⟩) n cap ∧ n ≤ cap ∧ cap ≤ maxLen ∧ w.heap[g]? = some (.cells cur e (0, 0)) ∧ cur.size = cap * sz ∧ R (cur.toList.take (n * sz)) S' ∧ S = g :: S' ∧ g ∉ S'
mutual
def OwT (w : World) : T → List Value → List Nat → Prop
  | ⟨op, nm, st, ts⟩ => fun c S => ∃ v, c = [.int .i64 op, .string nm, .int .i64 st, v] ∧ RowOf w 24 4 v ts.length (fun cs S' => OwC w ts cs S') S
def OwC (w : World) : List T → List Value → List Nat → Prop
  | [] => fun cs S => cs = [] ∧ S = []
  | t :: ts => fun cs S => ∃ c1 c2 S1 S2, cs = c1 ++ c2 ∧ S = S1 ++ S2 ∧ OwT w t c1 S1 ∧ OwC w ts c2 S2 ∧ ∀ k ∈ S1, k ∉ S2
end
/-- A list of terms in a row of one's own. -/
def OwL (w : World) (v : Value) (ts : List T) (S : List Nat) : Prop := RowOf w 24 4 v ts.length (fun cs S' => OwC w ts cs S') S
theorem OwT_iff {w : World} {op st : Int} {nm : ByteArray} {ts : List T} {c : List Value} {S : List Nat} : OwT w ⟨op, nm, st, ts⟩ c S ↔ ∃ v, c = [.int .i64 op, .string nm, .int .i64 st, v] ∧ OwL w v ts S := by
  simp only [OwT, OwL]
theorem OwC_nil {w : World} {cs : List Value} {S : List Nat} : OwC w [] cs S ↔ cs = [] ∧ S = [] := by simp only [OwC]
theorem OwC_cons {w : World} {t : T} {ts : List T} {cs : List Value} {S : List Nat} : OwC w (t :: ts) cs S ↔ ∃ c1 c2 S1 S2, cs = c1 ++ c2 ∧ S = S1 ++ S2 ∧ OwT w t c1 S1 ∧ OwC w ts c2 S2 ∧ ∀ k ∈ S1, k ∉ S2 := by simp only [OwC]

theorem RowOf.imp {w w' : World} {e sz n : Nat} {v : Value} {R R' : List Value → List Nat → Prop} {S : List Nat} (h : RowOf w e sz v n R S) (hm : ∀ k ∈ S, w'.heap[k]? = w.heap[k]?) (hR : ∀ cs S', R cs S' → (∀ k ∈ S', k ∈ S) → R' cs S') : RowOf w' e sz v n R' S := by
  rcases h with h | ⟨g, cap, cur, S', hv, hn, hc, hh, hs, hr, rfl, hg⟩
  · exact .inl h
  · exact .inr ⟨g, cap, cur, S', hv, hn, hc, (hm g List.mem_cons_self).trans hh, hs, hR _ _ hr (fun k hk => List.mem_cons_of_mem _ hk), rfl, hg⟩
theorem frame_all (w w' : World) : (∀ t c S, OwT w t c S → (∀ k ∈ S, w'.heap[k]? = w.heap[k]?) → OwT w' t c S) ∧ ∀ ts cs S, OwC w ts cs S → (∀ k ∈ S, w'.heap[k]? = w.heap[k]?) → OwC w' ts cs S := by
  apply T.ind (P := fun t => ∀ c S, OwT w t c S → (∀ k ∈ S, w'.heap[k]? = w.heap[k]?) → OwT w' t c S) (Q := fun ts => ∀ cs S, OwC w ts cs S → (∀ k ∈ S, w'.heap[k]? = w.heap[k]?) → OwC w' ts cs S)
  · intro op nm st ts ih c S h hm
    rw [OwT_iff] at h ⊢
    obtain ⟨v, hc, hr⟩ := h
    exact ⟨v, hc, RowOf.imp hr hm (fun cs S' h hk => ih cs S' h (fun k hs => hm k (hk k hs)))⟩
  · intro cs S h _
    exact OwC_nil.2 (OwC_nil.1 h)
  · intro t ts iht ihs cs S h hm
    rw [OwC_cons] at h ⊢
    obtain ⟨c1, c2, S1, S2, rfl, rfl, h1, h2, hd⟩ := h
    exact ⟨c1, c2, S1, S2, rfl, rfl, iht _ _ h1 (fun k hk => hm k (List.mem_append_left _ hk)), ihs _ _ h2 (fun k hk => hm k (List.mem_append_right _ hk)), hd⟩
theorem OwL.frame {w w' : World} {v : Value} {ts : List T} {S : List Nat} (h : OwL w v ts S) (hm : ∀ k ∈ S, w'.heap[k]? = w.heap[k]?) : OwL w' v ts S := RowOf.imp h hm (fun cs S' h hk => (frame_all w w').2 ts cs S' h (fun k hs => hm k (hk k hs)))
theorem OwT.frame {w w' : World} {t : T} {c : List Value} {S : List Nat} (h : OwT w t c S) (hm : ∀ k ∈ S, w'.heap[k]? = w.heap[k]?) : OwT w' t c S := (frame_all w w').1 t c S h hm
theorem OwC.frame {w w' : World} {ts : List T} {c : List Value} {S : List Nat} (h : OwC w ts c S) (hm : ∀ k ∈ S, w'.heap[k]? = w.heap[k]?) : OwC w' ts c S := (frame_all w w').2 ts c S h hm

theorem heap_lt {w : World} {g : Nat} {o : Obj} (h : w.heap[g]? = some o) : g < w.heap.size := by
  rcases Nat.lt_or_ge g w.heap.size with h' | h'
  · exact h'
  · simp [Array.getElem?_eq_none h'] at h
theorem RowOf.lt {w : World} {e sz n : Nat} {v : Value} {R : List Value → List Nat → Prop} {S : List Nat} (h : RowOf w e sz v n R S) (hR : ∀ cs S', R cs S' → ∀ k ∈ S', k < w.heap.size) : ∀ k ∈ S, k < w.heap.size := by
  rcases h with ⟨_, _, rfl⟩ | ⟨g, cap, cur, S', hv, hn, hc, hh, hs, hr, rfl, hg⟩
  · intro k hk; cases hk
  · intro k hk
    rcases List.mem_cons.1 hk with rfl | hk
    · exact heap_lt hh
    · exact hR _ _ hr k hk
theorem lt_all (w : World) : (∀ t c S, OwT w t c S → ∀ k ∈ S, k < w.heap.size) ∧ ∀ ts cs S, OwC w ts cs S → ∀ k ∈ S, k < w.heap.size := by
  apply T.ind (P := fun t => ∀ c S, OwT w t c S → ∀ k ∈ S, k < w.heap.size) (Q := fun ts => ∀ cs S, OwC w ts cs S → ∀ k ∈ S, k < w.heap.size)
  · intro op nm st ts ih c S h
    rw [OwT_iff] at h
    obtain ⟨v, hc, hr⟩ := h
    exact RowOf.lt hr ih
  · intro cs S h k hk
    obtain ⟨_, rfl⟩ := OwC_nil.1 h
    cases hk
  · intro t ts iht ihs cs S h k hk
    rw [OwC_cons] at h
    obtain ⟨c1, c2, S1, S2, rfl, rfl, h1, h2, hd⟩ := h
    rcases List.mem_append.1 hk with hk | hk
    · exact iht _ _ h1 k hk
    · exact ihs _ _ h2 k hk
theorem OwL.lt {w : World} {v : Value} {ts : List T} {S : List Nat} (h : OwL w v ts S) : ∀ k ∈ S, k < w.heap.size := RowOf.lt h ((lt_all w).2 ts)
theorem OwT.lt {w : World} {t : T} {c : List Value} {S : List Nat} (h : OwT w t c S) : ∀ k ∈ S, k < w.heap.size := (lt_all w).1 t c S h
theorem OwC.lt {w : World} {ts : List T} {c : List Value} {S : List Nat} (h : OwC w ts c S) : ∀ k ∈ S, k < w.heap.size := (lt_all w).2 ts c S h
theorem OwT.len {w : World} {t : T} {c : List Value} {S : List Nat} (h : OwT w t c S) : c.length = 4 := by
  obtain ⟨op, nm, st, ts⟩ := t
  obtain ⟨v, rfl, _⟩ := OwT_iff.1 h
  rfl
theorem OwC.len {w : World} {ts : List T} {c : List Value} {S : List Nat} (h : OwC w ts c S) : c.length = ts.length * 4 := by
  induction ts generalizing c S with
  | nil => obtain ⟨rfl, _⟩ := OwC_nil.1 h; rfl
  | cons t ts ih =>
    obtain ⟨c1, c2, S1, S2, rfl, rfl, h1, h2, hd⟩ := OwC_cons.1 h
    rw [List.length_append, h1.len, ih h2]
    simp; omega

/-! ### what is owned reads -/
/-- A row of terms, read. -/
def RdL (w : World) (v : Value) (ts : List T) : Prop := ∃ A c, v = .slice A ts.length c ∧ ts.length ≤ c ∧ Kd.C kT w A ts.length ts
theorem RdL.below {w w' : World} {v : Value} {l : List T} (h : RdL w v l) (hb : Below w.heap.size w w') : RdL w' v l := by
  obtain ⟨A, c, e, hc, hr⟩ := h
  exact ⟨A, c, e, hc, Kd.C_below hr hb⟩
theorem RdL.len {w : World} {v : Value} {l : List T} (h : RdL w v l) : l.length ≤ 9223372036854775807 := by
  obtain ⟨A, c, e, hc, hr⟩ := h
  exact hr.2.1
/-- The cells of element j. -/
theorem OwC.get {w : World} {ts : List T} {cs : List Value} {S : List Nat} (h : OwC w ts cs S) {j : Nat} {t : T} (hj : ts[j]? = some t) : ∃ c S', c.length = 4 ∧ (∀ i u, c[i]? = some u → cs[j * 4 + i]? = some u) ∧ OwT w t c S' ∧ ∀ k ∈ S', k ∈ S := by
  induction ts generalizing cs S j with
  | nil => simp at hj
  | cons t0 ts ih =>
    obtain ⟨c1, c2, S1, S2, rfl, rfl, h1, h2, hd⟩ := OwC_cons.1 h
    cases j with
    | zero =>
      obtain rfl : t0 = t := by simpa using hj
      refine ⟨c1, S1, h1.len, fun i u hi => ?_, h1, fun k hk => List.mem_append_left _ hk⟩
      have hl : i < c1.length := (List.getElem?_eq_some_iff.1 hi).1
      rw [Nat.zero_mul, Nat.zero_add, List.getElem?_append_left hl]
      exact hi
    | succ j =>
      obtain ⟨c, S', hl, hc, ht, hs⟩ := ih h2 (by simpa using hj)
      refine ⟨c, S', hl, fun i u hi => ?_, ht, fun k hk => List.mem_append_right _ (hs k hk)⟩
      have e : (j + 1) * 4 + i = c1.length + (j * 4 + i) := by rw [h1.len]; omega
      rw [e, List.getElem?_append_right (by omega)]
      rw [Nat.add_sub_cancel_left]
      exact hc i u hi
theorem reads_all (w : World) : (∀ t c S, OwT w t c S → kT.K w t c) ∧ ∀ ts cs S, OwC w ts cs S → ∀ (j : Nat) t, ts[j]? = some t → ∃ c, c.length = 4 ∧ kT.K w t c ∧ ∀ i u, c[i]? = some u → cs[j * 4 + i]? = some u := by
  apply T.ind (P := fun t => ∀ c S, OwT w t c S → kT.K w t c) (Q := fun ts => ∀ cs S, OwC w ts cs S → ∀ (j : Nat) t, ts[j]? = some t → ∃ c, c.length = 4 ∧ kT.K w t c ∧ ∀ i u, c[i]? = some u → cs[j * 4 + i]? = some u)
  · intro op nm st ts ih c S h
    rw [OwT_iff] at h
    obtain ⟨v, rfl, hr⟩ := h
    rcases hr with ⟨rfl, hn, _⟩ | ⟨g, cap, cur, S', rfl, hn, hc, hh, hs, hr, rfl, hg⟩
    · obtain rfl : ts = [] := List.length_eq_zero_iff.1 hn
      exact k24_mk w ⟨op, nm, st, []⟩ (A3 := none) (c3 := 0) (Nat.le_refl _) ⟨rfl, by simp, fun h => by simp at h⟩
    · refine k24_mk w ⟨op, nm, st, ts⟩ (A3 := some ⟨g, 0, none⟩) (c3 := cap) hn ⟨rfl, by unfold maxLen at hc; show ts.length ≤ _; omega, fun _ => ⟨_, rfl, ?_⟩⟩
      intro j t hj
      obtain ⟨c, hl, hk, hcs⟩ := ih _ _ hr j t hj
      refine ⟨c, hl, hk, fun i u hi => ?_⟩
      have h1 := hcs i u hi
      have h2 : cur.toList[j * 4 + i]? = some u := by
        rw [List.getElem?_take] at h1
        split at h1
        · exact h1
        · cases h1
      have ha : (⟨g, 0, none⟩ : Addr).add (j * 4 + i) = ⟨g, j * 4 + i, none⟩ := by
        unfold Addr.add
        split
        · rename_i e; rw [e]
        · simp
      show w.cell? ((⟨g, 0, none⟩ : Addr).add (j * 4 + i)) = some u
      rw [ha]
      simp only [World.cell?, hh]
      simpa using h2
  · intro cs S h j t hj
    simp at hj
  · intro t ts iht ihs cs S h j t' hj
    rw [OwC_cons] at h
    obtain ⟨c1, c2, S1, S2, rfl, rfl, h1, h2, hd⟩ := h
    cases j with
    | zero =>
      obtain rfl : t = t' := by simpa using hj
      refine ⟨c1, h1.len, iht _ _ h1, fun i u hi => ?_⟩
      have hl : i < c1.length := (List.getElem?_eq_some_iff.1 hi).1
      rw [Nat.zero_mul, Nat.zero_add, List.getElem?_append_left hl]
      exact hi
    | succ j =>
      obtain ⟨c, hl, hk, hc⟩ := ihs _ _ h2 j t' (by simpa using hj)
      refine ⟨c, hl, hk, fun i u hi => ?_⟩
      have e : (j + 1) * 4 + i = c1.length + (j * 4 + i) := by rw [h1.len]; omega
      rw [e, List.getElem?_append_right (by omega), Nat.add_sub_cancel_left]
      exact hc i u hi
theorem OwL.rd {w : World} {v : Value} {ts : List T} {S : List Nat} (h : OwL w v ts S) : RdL w v ts := by
  have hk := (reads_all w).1 ⟨0, ⟨#[]⟩, 0, ts⟩ _ S (OwT_iff.2 ⟨v, rfl, h⟩)
  obtain ⟨A3, c3, he, hl, hC⟩ := k24_open hk
  have : v = .slice A3 ts.length c3 := by simpa using he
  exact ⟨A3, c3, this, hl, hC⟩
end Go.Proofs.YtfnkobcmhbdcoabDoor.Trees
end
section
/- laws.eqTerm, laws.eqTermS: the same tree, read twice, is found equal. -/

namespace Go.Proofs.YtfnkobcmhbdcoabDoor.EqT
open Go.RowKit Go.Proofs.YtfnkobcmhbdcoabDoorW.PrintWords Go.Proofs.YtfnkobcmhbdcoabDoorW.PrintLast Go.Proofs.YtfnkobcmhbdcoabDoor.Base Go.Proofs.YtfnkobcmhbdcoabDoor.XTypes Go.Proofs.YtfnkobcmhbdcoabDoor.PureInts Go.Proofs.YtfnkobcmhbdcoabDoor.Typed Go.Proofs.YtfnkobcmhbdcoabDoor.Trees
set_option linter.unusedVariables false
set_option linter.unusedSimpArgs false
set_option linter.unnecessarySimpa false

theorem T.all {P : T → Prop} (h1 : ∀ op nm st ts, (∀ t ∈ ts, P t) → P ⟨op, nm, st, ts⟩) : ∀ t, P t :=
  (T.ind (P := P) (Q := fun ts => ∀ t ∈ ts, P t) h1 (fun t ht => by cases ht) (fun t ts iht ihs t' ht => by
    rcases List.mem_cons.1 ht with rfl | ht
    · exact iht
    · exact ihs t' ht)).1
def EqT (t : T) : Prop := ∀ (v v' : Value) (w : World), RdL w v t.f3 → RdL w v' t.f3 →
  Calls Tryd.prog 7 #[.agg #[.int .i64 t.f0, .string t.f1, .int .i64 t.f2, v], .agg #[.int .i64 t.f0, .string t.f1, .int .i64 t.f2, v']] w fun e w' => e = .returned (.bool true) ∧ Below w.heap.size w w'
def EqL (ts : List T) : Prop := ∀ (v v' : Value) (w : World), RdL w v ts → RdL w v' ts →
  Calls Tryd.prog 14 #[v, v'] w fun e w' => e = .returned (.bool true) ∧ Below w.heap.size w w'

theorem EqT.use {t : T} (h : EqT t) {v v' : Value} {w : World} (hr : RdL w v t.f3) (hr' : RdL w v' t.f3) :
    Calls Tryd.prog 7 #[.agg #[.int .i64 t.f0, .string t.f1, .int .i64 t.f2, v], .agg #[.int .i64 t.f0, .string t.f1, .int .i64 t.f2, v']] w fun e w' => e = .returned (.bool true) ∧ Below w.heap.size w w' := h v v' w hr hr'
/-- An element, and what its own row reads. -/
theorem elem_at {w : World} {A : Option Addr} {n : Nat} {ts : List T} (h : Kd.C kT w A n ts) (i : Nat) (h1 : i < n) : ∃ ad v, A = some ad ∧
    w.cell? (ad.add (i * 4)) = some (.int .i64 (rd_T24 ts (i : Int)).f0) ∧ w.cell? ⟨(ad.add (i * 4)).block, (ad.add (i * 4)).off + 1, none⟩ = some (.string (rd_T24 ts (i : Int)).f1) ∧
    w.cell? ⟨(ad.add (i * 4)).block, (ad.add (i * 4)).off + 2, none⟩ = some (.int .i64 (rd_T24 ts (i : Int)).f2) ∧ w.cell? ⟨(ad.add (i * 4)).block, (ad.add (i * 4)).off + 3, none⟩ = some v ∧ RdL w v (rd_T24 ts (i : Int)).f3 := by
  obtain ⟨ad, A3, c3, e, h0, h1, h2, h3, l3, g3⟩ := at_T24 h (i : Int) (by omega) (by omega)
  simp only [Int.toNat_natCast] at h0 h1 h2 h3
  exact ⟨ad, _, e, h0, h1, h2, h3, A3, c3, rfl, l3, g3⟩
theorem rd_T {ts : List T} {i : Nat} (h : i < ts.length) : rd_T24 ts (i : Int) = ts[i] := by simp [rd_T24, h]

set_option maxHeartbeats 1000000 in
set_option maxRecDepth 100000 in
theorem eqT_of (t : T) (h : EqL t.f3) : EqT t := by
  intro v v' w hr hr'
  obtain ⟨op, nm, st, ts⟩ := t
  have HR := Lib.hid hr
  have HR' := Lib.hid hr'
  have HH := Lib.hid h
  clear hr hr' h
  simp only at HH HR HR'
  have e1 : (op != op) = false := by simp
  have e2 : (nm.toList != nm.toList) = false := by simp
  have e3 : (st != st) = false := by simp
  go_enter Tryd.func7, Tryd.ntmps7
  go_wp2_with fail
  refine name_calls ?_
  intro W1 hW
  have hb : Below w.heap.size w W1 := by rw [hW]; repeat (first | exact Below.refl _ _ | apply below_alloc)
  have HB := Lib.hid hb
  clear hW hb
  refine (HH.out _ _ W1 (HR.out.below HB.out) (HR'.out.below HB.out)).mono ?_
  rintro e W2 ⟨rfl, hb⟩
  have HB2 := Lib.hid (below_to HB.out hb HB.out.size)
  clear hb
  go_wp2_with fail
  go_ret
  exact ⟨rfl, HB2.out⟩

set_option maxHeartbeats 1000000 in
set_option maxRecDepth 100000 in
theorem eqL_of (ts : List T) (h : ∀ t ∈ ts, EqT t) : EqL ts := by
  intro v v' w hr hr'
  have hl := hr.len
  obtain ⟨A, c, rfl, hc, hC⟩ := hr
  obtain ⟨A', c', rfl, hc', hC'⟩ := hr'
  have HC := Lib.hid hC
  have HC' := Lib.hid hC'
  have HH := Lib.hid h
  clear hC hC' h
  go_enter Tryd.func14, Tryd.ntmps14
  go_wp2_with fail
  go_loopw [5] (fun i wr => ∃ k : Nat, k ≤ ts.length ∧ i = .int .i64 k ∧ Aside0 (Below w.heap.size w wr)) (fun i _ => ts.length - (intOf i).toNat)
  case atStart => exact ⟨0, Nat.zero_le _, rfl, ⟨Below.refl _ _⟩⟩
  case round =>
    obtain ⟨k, hk, rfl, hB⟩ := hrel
    by_cases hlt2 : k < ts.length
    · obtain ⟨ad, v3, rfl, e0, e1, e2, e3, hv3⟩ := elem_at (Kd.C_below HC.out hB.out) k hlt2
      obtain ⟨ad', v3', rfl, e0', e1', e2', e3', hv3'⟩ := elem_at (Kd.C_below HC'.out hB.out) k hlt2
      rw [rd_T hlt2] at e0 e1 e2 hv3 e0' e1' e2' hv3'
      have HV := Lib.hid hv3
      have HV' := Lib.hid hv3'
      have hmem : ts[k] ∈ ts := List.getElem_mem _
      generalize ts[k] = t at *
      have HM := Lib.hid hmem
      clear hv3 hv3' hmem
      go_upto_region 6 with (fail)
      go_cut [26] (fun t wx => t = .bool false ∧ Below wr.heap.size wr wx)
      case first =>
        go_region_held3 (fun w' => w'.cell? (ad.add (k * 4)) = some (.int .i64 t.f0) ∧ w'.cell? ⟨(ad.add (k * 4)).block, (ad.add (k * 4)).off + 1, none⟩ = some (.string t.f1) ∧ w'.cell? ⟨(ad.add (k * 4)).block, (ad.add (k * 4)).off + 2, none⟩ = some (.int .i64 t.f2) ∧ w'.cell? ⟨(ad.add (k * 4)).block, (ad.add (k * 4)).off + 3, none⟩ = some v3 ∧ w'.cell? (ad'.add (k * 4)) = some (.int .i64 t.f0) ∧ w'.cell? ⟨(ad'.add (k * 4)).block, (ad'.add (k * 4)).off + 1, none⟩ = some (.string t.f1) ∧ w'.cell? ⟨(ad'.add (k * 4)).block, (ad'.add (k * 4)).off + 2, none⟩ = some (.int .i64 t.f2) ∧ w'.cell? ⟨(ad'.add (k * 4)).block, (ad'.add (k * 4)).off + 3, none⟩ = some v3')
          (exact ⟨cell_below e0 (by repeat (first | exact BW | exact Below.refl _ _ | apply below_drew1)), cell_below e1 (by repeat (first | exact BW | exact Below.refl _ _ | apply below_drew1)), cell_below e2 (by repeat (first | exact BW | exact Below.refl _ _ | apply below_drew1)), cell_below e3 (by repeat (first | exact BW | exact Below.refl _ _ | apply below_drew1)), cell_below e0' (by repeat (first | exact BW | exact Below.refl _ _ | apply below_drew1)), cell_below e1' (by repeat (first | exact BW | exact Below.refl _ _ | apply below_drew1)), cell_below e2' (by repeat (first | exact BW | exact Below.refl _ _ | apply below_drew1)), cell_below e3' (by repeat (first | exact BW | exact Below.refl _ _ | apply below_drew1))⟩)
          (first
            | (go_at_call 7; refine name_calls ?_; intro Wq hWq; have BW : Below wr.heap.size wr Wq := (by rw [hWq]; first | done | (repeat (first | exact Below.refl _ _ | apply below_alloc | apply below_drew1 | apply pw_below_drewN))); clear hWq; (with_reducible refine ((HH.out t HM.out).use (HV.out.below BW) (HV'.out.below BW)).mono ?_); rintro e W1 ⟨rfl, hb⟩; replace BW : Below wr.heap.size wr W1 := below_to BW hb BW.size; clear hb))
        all_goals go_wp2_with fail
        all_goals go_meet
        all_goals exact ⟨rfl, BW⟩
      case rest =>
      obtain ⟨rfl, hb⟩ := hcut
      have HB2 := Lib.hid (below_to hB.out hb hB.out.size)
      clear hb hB e0 e1 e2 e3 e0' e1' e2' e3'
      go_wp2_with fail
      go_roundw
      case rel => exact ⟨k + 1, by omega, by go_num, ⟨HB2.out⟩⟩
      case measure => simp [intOf]; omega
    · obtain rfl : k = ts.length := by omega
      go_wp2_with fail
      go_ret
      exact ⟨rfl, hB.out⟩
theorem eq_all : ∀ t, EqT t := T.all (fun op nm st ts ih => eqT_of ⟨op, nm, st, ts⟩ (eqL_of ts ih))
theorem eqL_all (ts : List T) : EqL ts := eqL_of ts (fun t _ => eq_all t)
end Go.Proofs.YtfnkobcmhbdcoabDoor.EqT
end
section
-- Written by this session's program xprint.py out of the translation; not trusted: Lean checks it.

namespace Go.Proofs.YtfnkobcmhbdcoabDoor.XTm
open Go.RowKit Go.Proofs.YtfnkobcmhbdcoabDoorW.PrintWords Go.Proofs.YtfnkobcmhbdcoabDoorW.PrintLast Go.Proofs.YtfnkobcmhbdcoabDoorW.PrintMore
attribute [local go_sem] max2_int min2_int max_two min_two max_three min_three max_four min_four   -- for this text's walks alone
set_option linter.unusedVariables false
set_option linter.unusedSimpArgs false
open Go.Proofs.YtfnkobcmhbdcoabDoor.XTypes

end Go.Proofs.YtfnkobcmhbdcoabDoor.XTm
end
section
-- Written by this session's program xprint.py out of the translation; not trusted: Lean checks it.

namespace Go.Proofs.YtfnkobcmhbdcoabDoor.XTm
open Go.RowKit Go.Proofs.YtfnkobcmhbdcoabDoorW.PrintWords Go.Proofs.YtfnkobcmhbdcoabDoorW.PrintLast Go.Proofs.YtfnkobcmhbdcoabDoorW.PrintMore
attribute [local go_sem] max2_int min2_int max_two min_two max_three min_three max_four min_four   -- for this text's walks alone
set_option linter.unusedVariables false
set_option linter.unusedSimpArgs false
open Go.Proofs.YtfnkobcmhbdcoabDoor.XTypes

-- NOT PRINTED: function 14 (laws_eqTermS)

-- NOT PRINTED: function 7 (laws_eqTerm)

/-! ### laws_markText: function 20 -/
def laws_markText.l0 : Nat → Int → ByteArray → Option (ByteArray)
  | 0, _, _ => none
  | k + 1, x0, x3 => if x0 > 0 then ((some (([(wrap64 (48 + (Int.tmod x0 10))) % 256] : List Int) : List Int)).bind fun y105 => (if (strOfNums y105).size + x3.size ≤ 9223372036854775807 then (laws_markText.l0 k (wrap64 (Int.tdiv x0 10)) ((strOfNums y105) ++ x3)) else (none))) else (if 1 + x3.size ≤ 9223372036854775807 then (some ((⟨#[109]⟩ : ByteArray) ++ x3)) else (none))
def laws_markText.f (k : Nat) (a0 : Int) : Option (ByteArray) := if a0 ≤ 0 then (some (⟨#[109, 48]⟩ : ByteArray)) else (laws_markText.l0 k a0 (⟨#[]⟩ : ByteArray))
theorem laws_markText.mono_l : ∀ k, (∀ y0 y1, LeO (laws_markText.l0 k y0 y1) (laws_markText.l0 (k + 1) y0 y1))
  | 0 => fun _ _ r h => by simp [laws_markText.l0] at h
  | k + 1 => by
    have ih0 := laws_markText.mono_l k
    · intro y0 y1
      unfold laws_markText.l0
      repeat' first
      | (with_reducible exact ih0 _ _)
      | (with_reducible exact LeO.refl _)
      | (with_reducible exact LeO.none _)
      | (with_reducible refine LeO.ite ?_ ?_)
      | (with_reducible refine LeO.bind ?_ (fun _ => ?_))
      | exact ih0 _ _
      | exact LeO.none _
      | refine LeO.ite ?_ ?_
      | refine LeO.bind ?_ (fun _ => ?_)
theorem laws_markText.mono : ∀ a0 k, LeO (laws_markText.f k a0) (laws_markText.f (k + 1) a0) := by
  intro a0 k
  have ih0 := laws_markText.mono_l k
  unfold laws_markText.f
  repeat' first
      | (with_reducible exact ih0 _ _)
      | (with_reducible exact LeO.refl _)
      | (with_reducible exact LeO.none _)
      | (with_reducible refine LeO.ite ?_ ?_)
      | (with_reducible refine LeO.bind ?_ (fun _ => ?_))
      | exact ih0 _ _
      | exact LeO.none _
      | refine LeO.ite ?_ ?_
      | refine LeO.bind ?_ (fun _ => ?_)
set_option maxHeartbeats 8000000 in
set_option maxRecDepth 100000 in
theorem laws_markText.calls (k : Nat) (a0 : Int) (r : ByteArray) (w : World) (h : laws_markText.f k a0 = some r) :
    Calls Tryd.prog 20 #[.int .i64 a0] w fun e w' => e = .returned (.string r) ∧ Below w.heap.size w w' := by
  have HB := Aside0.mk (Below.refl w.heap.size w)
  have H : (if a0 ≤ 0 then (some (⟨#[109, 48]⟩ : ByteArray)) else (laws_markText.l0 k a0 (⟨#[]⟩ : ByteArray))) = some r := h
  clear h
  by_cases c2 : a0 ≤ 0
  · rw [if_pos c2] at H
    have c2b0 : decide (a0 ≤ 0) = true := decide_eq_true c2
    clear c2
    obtain rfl := Option.some.inj H
    go_enter Tryd.func20, Tryd.ntmps20
    go_wp2
    go_ret
    exact ⟨by first | rfl | (simp [errW_none, errW_some] <;> rfl) | (simp [*, errW_none, errW_some] <;> rfl), by repeat (first | (with_reducible first | exact HB.out | apply below_alloc | apply pw_below_drewN | apply below_drew1) | exact HB.out)⟩
  · rw [if_neg c2] at H
    have c2b0 : decide (a0 ≤ 0) = false := decide_eq_false c2
    clear c2
    have H' := Aside0.mk H
    clear H
    go_enter Tryd.func20, Tryd.ntmps20
    go_wp2
    go_loopg [0, 3] k (fun kq v0 v3 w' => ∃ (x0_1 : Int) (x3_1 : ByteArray), v0 = .int .i64 x0_1 ∧ v3 = .string x3_1 ∧ Aside0 (laws_markText.l0 kq x0_1 x3_1 = some r) ∧ Aside0 (kq ≤ k) ∧ Aside0 (Below w.heap.size w w'))
    case atStart => exact ⟨(a0), ((⟨#[]⟩ : ByteArray)), (by first | rfl | (simp; done) | (simp [*]; done)), (by first | rfl | (simp; done) | (simp [*]; done)), H', ⟨Nat.le_refl _⟩, ⟨by repeat (first | (with_reducible first | exact HB.out | apply below_alloc | apply pw_below_drewN | apply below_drew1) | exact HB.out)⟩⟩
    case round =>
      clear H'
      try clear c2
      try clear c2b0
      try clear p2
      obtain ⟨x0_1, x3_1, rfl, rfl, HA, HK1, HB⟩ := hrel
      cases gk with
      | zero => exact absurd HA.out (by simp [laws_markText.l0])
      | succ k1 =>
        have H := HA.out
        clear HA
        simp only [laws_markText.l0] at H
        by_cases c3 : x0_1 > 0
        · rw [if_pos c3] at H
          have c3b0 : decide (0 < x0_1) = true := decide_eq_true c3
          clear c3
          obtain ⟨y105, hy105⟩ : ∃ y_ : List Int, y_ = (([(wrap64 (48 + (Int.tmod x0_1 10))) % 256] : List Int)) := ⟨_, rfl⟩
          replace H : (if (strOfNums y105).size + x3_1.size ≤ 9223372036854775807 then (laws_markText.l0 k1 (wrap64 (Int.tdiv x0_1 10)) ((strOfNums y105) ++ x3_1)) else (none)) = some r := by first | (rw [hy105]; with_reducible exact H) | (have H2_ := (Option.bind_some _ _).symm.trans H; rw [hy105]; with_reducible exact H2_) | (have H2_ := (Option.bind_some _ _).symm.trans H; with_reducible exact H2_) | with_reducible exact H | (rw [hy105]; exact H) | exact H
          have Ny105 := Aside0.mk hy105
          clear hy105
          by_cases c4 : (strOfNums y105).size + x3_1.size ≤ 9223372036854775807
          · rw [if_pos c4] at H
            have c4b0 := eq_true c4
            have c4b1 : decide ((strOfNums y105).size + x3_1.size ≤ 9223372036854775807) = true := decide_eq_true c4
            try have c4b2 : (9223372036854775807 < (strOfNums y105).size + x3_1.size) = False := eq_false (Nat.not_lt.2 c4)
            have H' := Aside0.mk H
            clear H
            go_wp2_with (first | ((with_reducible refine gate_dst (N := 12) rfl ?_); refine Kd.R_lit (Kd.int .u8) _ 5 ?hg (N := 12) ?hd (xs := ([(wrap64 (48 + (Int.tmod x0_1 10))) % 256] : List Int)) (inner := [.int .u8 ((wrap64 (48 + (Int.tmod x0_1 10))) % 256)]) (ok := fun _ => True) (okp := fun _ => True) ?hr ?hp (fun _ hk => hk) trivial (Below.refl _ _) (Nat.le_refl _) (by simp) ?_; (case hd => rfl); (case hg => rfl); (case hr => first | (go_simp; done) | (go_simp; rfl)); (case hp => exact (Reps.one (show Kd.M (Kd.int .u8) _ _ _ ((wrap64 (48 + (Int.tmod x0_1 10))) % 256) [.int .u8 ((wrap64 (48 + (Int.tmod x0_1 10))) % 256)] from rfl) (Reps.none _ _))); intro v106 w5 ho6 hb hg_ hnew_; clear hg_ hnew_; (first | rw [← Ny105.out] at ho6 | (simp only [Int.reduceToNat] at ho6; rw [← Ny105.out] at ho6)); have n0_ := Aside0.mk (Kd.R_lower ho6 (below_size (by repeat (first | (with_reducible first | exact HB.out | apply below_alloc | apply pw_below_drewN | apply below_drew1) | exact HB.out)))); have n1_ := Aside0.mk (below_step (by repeat (first | (with_reducible first | exact HB.out | apply below_alloc | apply pw_below_drewN | apply below_drew1) | exact HB.out)) hb); clear HB; have HO107 := n0_; have HB := n1_; clear n0_ n1_; clear hb ho6; have hcv7 := own_string (P := Tryd.prog) Tryd.underlying43 Tryd.underlying5 Tryd.underlying9 (Kd.own_of_R HO107.out)))
            go_roundg k1
            case measure => have := HK1.out; omega
            case rel => exact ⟨(wrap64 (Int.tdiv x0_1 10)), ((strOfNums y105) ++ x3_1), (by first | rfl | (simp; done) | (simp [*]; done)), (by first | rfl | (simp; done) | (simp [*]; done)), H', ⟨by have := HK1.out; omega⟩, ⟨by repeat (first | (with_reducible first | exact HB.out | apply below_alloc | apply pw_below_drewN | apply below_drew1) | exact HB.out)⟩⟩
          · rw [if_neg c4] at H
            exact absurd H (by simp)
        · rw [if_neg c3] at H
          have c3b0 : decide (0 < x0_1) = false := decide_eq_false c3
          clear c3
          by_cases c8 : 1 + x3_1.size ≤ 9223372036854775807
          · rw [if_pos c8] at H
            have c8b0 := eq_true c8
            have c8b1 : decide (1 + x3_1.size ≤ 9223372036854775807) = true := decide_eq_true c8
            try have c8b2 : (9223372036854775807 < 1 + x3_1.size) = False := eq_false (Nat.not_lt.2 c8)
            obtain rfl := Option.some.inj H
            go_wp2
            go_ret
            exact ⟨by first | rfl | (simp [errW_none, errW_some] <;> rfl) | (simp [*, errW_none, errW_some] <;> rfl), by repeat (first | (with_reducible first | exact HB.out | apply below_alloc | apply pw_below_drewN | apply below_drew1) | exact HB.out)⟩
          · rw [if_neg c8] at H
            exact absurd H (by simp)

end Go.Proofs.YtfnkobcmhbdcoabDoor.XTm
end
section
/- laws.markTerm, laws.markTermS over a tree of one's own. -/


namespace Go.Proofs.YtfnkobcmhbdcoabDoor.MarkT
open Go.RowKit Go.Proofs.YtfnkobcmhbdcoabDoorW.PrintWords Go.Proofs.YtfnkobcmhbdcoabDoorW.PrintLast Go.Proofs.YtfnkobcmhbdcoabDoor.Base Go.Proofs.YtfnkobcmhbdcoabDoor.XTypes Go.Proofs.YtfnkobcmhbdcoabDoor.PureInts Go.Proofs.YtfnkobcmhbdcoabDoor.Typed Go.Proofs.YtfnkobcmhbdcoabDoor.Trees Go.Proofs.YtfnkobcmhbdcoabDoor.XTm
set_option linter.unusedVariables false
set_option linter.unusedSimpArgs false
set_option linter.unnecessarySimpa false

/-! ### the marks -/
theorem strOfNums_one (n : Int) : (strOfNums [n]).size = 1 := rfl
theorem text_l0 : ∀ (n : Nat) (x : Int) (s : ByteArray), 0 ≤ x → x < 10 ^ n → x < 9223372036854775808 → s.size + n ≤ 1000 → ∃ r, laws_markText.l0 (n + 1) x s = some r := by
  intro n
  induction n with
  | zero =>
    intro x s h0 h1 h2 h3
    simp only [laws_markText.l0]
    rw [if_neg (by omega), if_pos (by omega)]
    exact ⟨_, rfl⟩
  | succ n ih =>
    intro x s h0 h1 h2 h3
    rw [laws_markText.l0]
    by_cases hx : x > 0
    · rw [if_pos hx]
      simp only [Option.bind_some]
      rw [if_pos (by rw [strOfNums_one]; omega)]
      have e : Int.tdiv x 10 = x / 10 := by rw [Int.tdiv_eq_ediv_of_nonneg h0]
      rw [e, wrap_id (by omega) (by omega)]
      refine ih _ _ (by omega) ?_ (by omega) (by rw [ByteArray.size_append, strOfNums_one]; omega)
      rw [Int.pow_succ] at h1
      omega
    · rw [if_neg hx, if_pos (by omega)]
      exact ⟨_, rfl⟩
theorem text_any (x : Int) (h : x < 9223372036854775808) : ∃ r, laws_markText.f 30 x = some r := by
  unfold laws_markText.f
  by_cases hx : x ≤ 0
  · rw [if_pos hx]; exact ⟨_, rfl⟩
  · rw [if_neg hx]
    exact text_l0 29 x _ (by omega) (by omega) h (by show (0 : Nat) + 29 ≤ 1000; omega)
/-- The text of a mark. -/
def mt (k : Nat) : ByteArray := (laws_markText.f 30 (k : Int)).getD ⟨#[]⟩
theorem mt_is {k : Nat} (h : k < 9223372036854775808) : laws_markText.f 30 (k : Int) = some (mt k) := by
  obtain ⟨r, hr⟩ := text_any (k : Int) (by omega)
  unfold mt
  rw [hr]
  rfl
mutual
/-- How many terms a term is made of. -/
def nod : T → Nat
  | ⟨_, _, _, ts⟩ => 1 + nodL ts
def nodL : List T → Nat
  | [] => 0
  | t :: ts => nod t + nodL ts
end
mutual
def mkT : T → Nat → T
  | ⟨_, _, _, ts⟩, k => ⟨k, mt (k + 1), k + 2, mkL ts (k + 3)⟩
def mkL : List T → Nat → List T
  | [], _ => []
  | t :: ts, k => mkT t k :: mkL ts (k + 3 * nod t)
end
theorem mkL_len (ts : List T) (k : Nat) : (mkL ts k).length = ts.length := by
  induction ts generalizing k with
  | nil => simp [mkL]
  | cons t ts ih => simp [mkL, ih]
theorem nodL_append (xs ys : List T) : nodL (xs ++ ys) = nodL xs + nodL ys := by
  induction xs with
  | nil => simp [nodL]
  | cons t ts ih => simp only [List.cons_append, nodL, ih]; omega
theorem mkL_append (xs ys : List T) (k : Nat) : mkL (xs ++ ys) k = mkL xs k ++ mkL ys (k + 3 * nodL xs) := by
  induction xs generalizing k with
  | nil => simp [mkL, nodL]
  | cons t ts ih =>
    simp only [List.cons_append, mkL, nodL, ih]
    congr 3
    omega

/-! ### one element of an owned row -/
theorem OwC_mid {w : World} {xs ys : List T} {t : T} {cs : List Value} {S : List Nat} : OwC w (xs ++ t :: ys) cs S ↔ ∃ c1 c c2 S1 St S2, cs = c1 ++ (c ++ c2) ∧ S = S1 ++ (St ++ S2) ∧ OwC w xs c1 S1 ∧ OwT w t c St ∧ OwC w ys c2 S2 ∧ (∀ k ∈ S1, k ∉ St ++ S2) ∧ ∀ k ∈ St, k ∉ S2 := by
  induction xs generalizing cs S with
  | nil =>
    rw [List.nil_append, OwC_cons]
    constructor
    · rintro ⟨c1, c2, S1, S2, rfl, rfl, h1, h2, hd⟩
      exact ⟨[], c1, c2, [], S1, S2, rfl, rfl, OwC_nil.2 ⟨rfl, rfl⟩, h1, h2, (fun k hk => by cases hk), hd⟩
    · rintro ⟨c1, c, c2, S1, St, S2, rfl, rfl, h1, h2, h3, hd1, hd2⟩
      obtain ⟨rfl, rfl⟩ := OwC_nil.1 h1
      exact ⟨c, c2, St, S2, rfl, rfl, h2, h3, hd2⟩
  | cons a xs ih =>
    rw [List.cons_append, OwC_cons]
    constructor
    · rintro ⟨d1, d2, R1, R2, rfl, rfl, h1, h2, hd⟩
      obtain ⟨c1, c, c2, S1, St, S2, rfl, rfl, g1, g2, g3, hd1, hd2⟩ := ih.1 h2
      refine ⟨d1 ++ c1, c, c2, R1 ++ S1, St, S2, by simp, by simp, OwC_cons.2 ⟨d1, c1, R1, S1, rfl, rfl, h1, g1, fun k hk hk' => hd k hk (List.mem_append_left _ hk')⟩, g2, g3, fun k hk => ?_, hd2⟩
      rcases List.mem_append.1 hk with hk | hk
      · exact fun hk' => hd k hk (List.mem_append_right _ hk')
      · exact hd1 k hk
    · rintro ⟨c1, c, c2, S1, St, S2, rfl, rfl, h1, h2, h3, hd1, hd2⟩
      obtain ⟨d1, d2, R1, R2, rfl, rfl, g1, g2, gd⟩ := OwC_cons.1 h1
      refine ⟨d1, d2 ++ (c ++ c2), R1, R2 ++ (St ++ S2), by simp, by simp, g1, ih.2 ⟨d2, c, c2, R2, St, S2, rfl, rfl, g2, h2, h3, fun k hk => hd1 k (List.mem_append_right _ hk), hd2⟩, fun k hk hk' => ?_⟩
      rcases List.mem_append.1 hk' with hk' | hk'
      · exact gd k hk hk'
      · exact hd1 k (List.mem_append_left _ hk) hk'
/-- An element, its cells, its own row; and how the whole is owned again when they have been changed. -/
theorem OwL.at {w : World} {v : Value} {xs ys ts : List T} {op st : Int} {nm : ByteArray} {S : List Nat} (h : OwL w v (xs ++ ⟨op, nm, st, ts⟩ :: ys) S) :
    ∃ g cap va St, ∃ cur : Array Value, v = .slice (some ⟨g, 0, none⟩) (xs.length + (ys.length + 1)) cap ∧ xs.length + (ys.length + 1) ≤ cap ∧ w.heap[g]? = some (.cells cur 24 (0, 0)) ∧ xs.length * 4 + 3 < cur.size ∧
      cur[xs.length * 4]? = some (.int .i64 op) ∧ cur[xs.length * 4 + 1]? = some (.string nm) ∧ cur[xs.length * 4 + 2]? = some (.int .i64 st) ∧ cur[xs.length * 4 + 3]? = some va ∧
      OwL w va ts St ∧ g ∈ S ∧ g ∉ St ∧ (∀ k ∈ St, k ∈ S) ∧
      ∀ (w' : World) (op' st' : Int) (nm' : ByteArray) (ts' : List T), ts'.length = ts.length → w'.heap[g]? = some (.cells (((cur.setIfInBounds (xs.length * 4) (.int .i64 op')).setIfInBounds (xs.length * 4 + 1) (.string nm')).setIfInBounds (xs.length * 4 + 2) (.int .i64 st')) 24 (0, 0)) →
        OwL w' va ts' St → (∀ k ∈ S, k ≠ g → k ∉ St → w'.heap[k]? = w.heap[k]?) → OwL w' v (xs ++ ⟨op', nm', st', ts'⟩ :: ys) S := by
  rcases h with ⟨_, hn, _⟩ | ⟨g, cap, cur, S', hv, hn, hc, hh, hs, hr, rfl, hg⟩
  · simp at hn
  · obtain ⟨c1, c, c2, S1, St, S2, ecs, rfl, h1, h2, h3, hd1, hd2⟩ := OwC_mid.1 hr
    obtain ⟨va, rfl, hva⟩ := OwT_iff.1 h2
    have l1 := h1.len
    have l2 := h3.len
    have hlen : (xs ++ (⟨op, nm, st, ts⟩ : T) :: ys).length = xs.length + (ys.length + 1) := by simp
    rw [hlen] at hv hn ecs
    have hsz : cur.toList.length = cap * 4 := by simpa using hs
    have hget : ∀ i u, i < 4 → [Value.int .i64 op, .string nm, .int .i64 st, va][i]? = some u → cur[xs.length * 4 + i]? = some u := by
      intro i u hi hu
      have e : (cur.toList.take ((xs.length + (ys.length + 1)) * 4))[xs.length * 4 + i]? = some u := by
        rw [ecs, List.getElem?_append_right (by omega), l1, Nat.add_sub_cancel_left, List.getElem?_append_left (by simpa using hi)]
        exact hu
      rw [List.getElem?_take] at e
      split at e
      · simpa using e
      · cases e
    refine ⟨g, cap, va, St, cur, hv, hn, hh, by omega, hget 0 _ (by omega) rfl, hget 1 _ (by omega) rfl, hget 2 _ (by omega) rfl, hget 3 _ (by omega) rfl, hva, List.mem_cons_self, fun hk => hg (List.mem_append_right _ (List.mem_append_left _ hk)), fun k hk => List.mem_cons_of_mem _ (List.mem_append_right _ (List.mem_append_left _ hk)), ?_⟩
    intro w' op' st' nm' ts' hl hh' hva' hrest
    refine .inr ⟨g, cap, _, S1 ++ (St ++ S2), by rw [hv]; simp, by simpa using hn, hc, hh', by simpa using hs, ?_, rfl, hg⟩
    refine OwC_mid.2 ⟨c1, [.int .i64 op', .string nm', .int .i64 st', va], c2, S1, St, S2, ?_, rfl, OwC.frame h1 (fun k hk => hrest k (List.mem_cons_of_mem _ (List.mem_append_left _ hk)) (fun e => hg (by rw [← e]; exact List.mem_append_left _ hk)) (fun hk' => hd1 k hk (List.mem_append_left _ hk'))), OwT_iff.2 ⟨va, rfl, hva'⟩, OwC.frame h3 (fun k hk => hrest k (List.mem_cons_of_mem _ (List.mem_append_right _ (List.mem_append_right _ hk))) (fun e => hg (by rw [← e]; exact List.mem_append_right _ (List.mem_append_right _ hk))) (fun hk' => hd2 k hk' hk)), hd1, hd2⟩
    have hlen' : (xs ++ (⟨op', nm', st', ts'⟩ : T) :: ys).length = xs.length + (ys.length + 1) := by simp
    rw [hlen']
    simp only [Array.toList_setIfInBounds, List.take_set, ecs]
    rw [List.set_append_right _ _ (by omega), List.set_append_right _ _ (by omega), List.set_append_right _ _ (by omega)]
    congr 1
    simp [l1]

/-! ### the walk -/
theorem cells4 {w : World} {g i e : Nat} {cur : Array Value} (hg : w.heap[g]? = some (.cells cur e (0, 0))) (hs : i + 3 < cur.size) {a b c d : Value}
    (h0 : cur[i]? = some a) (h1 : cur[i + 1]? = some b) (h2 : cur[i + 2]? = some c) (h3 : cur[i + 3]? = some d) :
    w.cell? ⟨g, i, none⟩ = some a ∧ w.frozen? ⟨g, i, none⟩ = false ∧ w.cell? ⟨g, i + 1, none⟩ = some b ∧ w.frozen? ⟨g, i + 1, none⟩ = false ∧ w.cell? ⟨g, i + 2, none⟩ = some c ∧ w.frozen? ⟨g, i + 2, none⟩ = false ∧ w.cell? ⟨g, i + 3, none⟩ = some d ∧ w.frozen? ⟨g, i + 3, none⟩ = false := by
  simp [World.cell?, World.frozen?, hg, h0, h1, h2, h3]
/-- Of what was there, nothing but S was touched. -/
structure Stirs (S : List Nat) (w w' : World) : Prop where
  os : w'.os = w.os
  tape : w'.tape = w.tape
  output : w'.output = w.output
  size : w.heap.size ≤ w'.heap.size
  block : ∀ k, k < w.heap.size → k ∉ S → w'.heap[k]? = w.heap[k]?
theorem Stirs.refl (S : List Nat) (w : World) : Stirs S w w := ⟨rfl, rfl, rfl, Nat.le_refl _, fun _ _ _ => rfl⟩
theorem Stirs.trans {S : List Nat} {a b c : World} (h : Stirs S a b) (k : Stirs S b c) : Stirs S a c :=
  ⟨k.os.trans h.os, k.tape.trans h.tape, k.output.trans h.output, Nat.le_trans h.size k.size, fun i hi hs => (k.block i (Nat.lt_of_lt_of_le hi h.size) hs).trans (h.block i hi hs)⟩
theorem Stirs.sub {S S' : List Nat} {a b : World} (h : Stirs S a b) (hs : ∀ k ∈ S, k ∈ S') : Stirs S' a b := ⟨h.os, h.tape, h.output, h.size, fun k hk hn => h.block k hk (fun e => hn (hs k e))⟩
theorem Stirs.of_below {S : List Nat} {a b : World} (h : Below a.heap.size a b) : Stirs S a b := ⟨h.os, h.tape, h.output, h.size, fun k hk _ => h.block k hk⟩
theorem Stirs.below {S : List Nat} {n : Nat} {a b : World} (h : Stirs S a b) (hn : n ≤ a.heap.size) (hs : ∀ k ∈ S, n ≤ k) : Below n a b := ⟨h.os, h.tape, h.output, h.size, fun k hk => h.block k (by omega) (fun e => by have := hs k e; omega)⟩
theorem Stirs.set {S : List Nat} {g i : Nat} (w : World) (v : Value) (hg : g ∈ S) : Stirs S w (w.setCell ⟨g, i, none⟩ v) :=
  ⟨rfl, rfl, rfl, by simp [World.setCell], fun k _ hs => Go.Deep.blk_setCell_other w ⟨g, i, none⟩ v k (fun e => hs (by rw [e]; exact hg))⟩
theorem set_at {w : World} {g i e : Nat} {cur : Array Value} (hg : w.heap[g]? = some (.cells cur e (0, 0))) (v : Value) : (w.setCell ⟨g, i, none⟩ v).heap[g]? = some (.cells (cur.setIfInBounds i v) e (0, 0)) := by
  simp [World.setCell, Array.getElem?_modify, hg]
/-- What a marking leaves: the same blocks own the marked tree, and nothing else that was there has moved. -/
def MkL (ts : List T) : Prop := ∀ (v : Value) (S : List Nat) (k : Nat) (w : World), OwL w v ts S → k + 3 * nodL ts < 9223372036854775800 →
  Calls Tryd.prog 15 #[v, .int .i64 k] w fun e w' => e = .returned (.int .i64 (k + 3 * nodL ts : Nat)) ∧ OwL w' v (mkL ts k) S ∧ Stirs S w w'
theorem MkL.use {ts : List T} (h : MkL ts) {v : Value} {S : List Nat} {k : Nat} {w : World} (hw : OwL w v ts S) (hk : k + 3 * nodL ts < 9223372036854775800) :
    Calls Tryd.prog 15 #[v, .int .i64 k] w fun e w' => e = .returned (.int .i64 (k + 3 * nodL ts : Nat)) ∧ OwL w' v (mkL ts k) S ∧ Stirs S w w' := h v S k w hw hk
theorem nodT_eq (op : Int) (nm : ByteArray) (st : Int) (ts : List T) : nod ⟨op, nm, st, ts⟩ = 1 + nodL ts := by simp only [nod]
theorem nodL_split {ts : List T} {i : Nat} (h : i < ts.length) : nodL ts = nodL (ts.take i) + (1 + nodL ts[i].f3) + nodL (ts.drop (i + 1)) := by
  have e : ts = ts.take i ++ ts[i] :: ts.drop (i + 1) := by rw [List.getElem_cons_drop, List.take_append_drop]
  have e2 := congrArg nodL e
  rw [nodL_append] at e2
  rw [e2]
  simp only [nodL]
  cases ts[i]
  simp only [nodT_eq]
  omega

set_option maxHeartbeats 1000000 in
set_option maxRecDepth 100000 in
theorem mkL_of (ts : List T) (h : ∀ t ∈ ts, MkL t.f3) : MkL ts := by
  intro v S k w hw hk
  have HW := Lib.hid hw
  have HH := Lib.hid h
  obtain ⟨A, c, rfl, hc, hC⟩ := hw.rd
  have hl := hC.2.1
  clear hw h hC
  go_enter Tryd.func15, Tryd.ntmps15
  go_wp2_with fail
  go_loopw [1, 5] (fun q i wr => ∃ j : Nat, j ≤ ts.length ∧ i = .int .i64 j ∧ q = .int .i64 (k + 3 * nodL (ts.take j) : Nat) ∧ Aside0 (OwL wr (.slice A ts.length c) (mkL (ts.take j) k ++ ts.drop j) S) ∧ Aside0 (Stirs S w wr)) (fun _ i _ => ts.length - (intOf i).toNat)
  case atStart => exact ⟨0, Nat.zero_le _, rfl, by simp [nodL], ⟨by simpa [mkL] using HW.out⟩, ⟨Stirs.refl _ _⟩⟩
  case round =>
    obtain ⟨j, hj, rfl, rfl, hO, hF⟩ := hrel
    by_cases hlt2 : j < ts.length
    · have hsp := nodL_split hlt2
      have hmem : ts[j] ∈ ts := List.getElem_mem _
      have ho := hO.out
      have hd : ts.drop j = ts[j] :: ts.drop (j + 1) := (List.getElem_cons_drop hlt2).symm
      rw [hd] at ho
      have hm : (mkL (ts.take j) k).length = j := by rw [mkL_len, List.length_take]; omega
      have hdl : j + ((ts.drop (j + 1)).length + 1) = ts.length := by rw [List.length_drop]; omega
      have HHt := HH.out _ hmem
      have hstep : mkL (ts.take (j + 1)) k = mkL (ts.take j) k ++ [mkT ts[j] (k + 3 * nodL (ts.take j))] := by
        rw [List.take_succ_eq_append_getElem hlt2, mkL_append]
        simp [mkL]
      have hnod : nodL (ts.take (j + 1)) = nodL (ts.take j) + (1 + nodL ts[j].f3) := by
        rw [List.take_succ_eq_append_getElem hlt2, nodL_append]
        cases ts[j]
        simp [nodL, nod]
      generalize ts[j] = t at *
      obtain ⟨op, nm, st, us⟩ := t
      obtain ⟨g, cap, va, St, cur, hv, hcap, hg, hsz, e0, e1, e2, e3, hva, hgS, hgt, hSt, hback⟩ := OwL.at ho
      rw [hm] at e0 e1 e2 e3 hv hback hsz hcap
      rw [hdl] at hv hcap
      injection hv with eA _ ec
      subst eA
      subst ec
      generalize hn0 : nodL (ts.take j) = n0 at *
      simp only [] at hsp hnod HHt
      have hb1 : k + 3 * n0 + 3 + 3 * nodL us < 9223372036854775800 := by omega
      have HBACK := Lib.hid hback
      have HSP := Lib.hid hsp
      have HT := Lib.hid HHt
      have HVA := Lib.hid hva
      have HG := Lib.hid hg
      have e0' := e0; have e1' := e1; have e2' := e2; have e3' := e3
      have HSTEP := Lib.hid hstep
      have HD := Lib.hid hd
      clear hback hsp HHt hva e0 e1 e2 e3 hstep hd ho hmem
      have hb2 : k + 3 * n0 < 9223372036854775800 := by omega
      generalize hq : k + 3 * n0 = q at *
      obtain ⟨c0, f0, c1, f1, c2, f2, c3, f3⟩ := cells4 HG.out (by omega) e0' e1' e2' e3'
      go_wp2_with fail
      refine name_calls ?_
      intro W1 hW
      have g1 : W1.heap[g]? = some (.cells (cur.setIfInBounds (j * 4) (.int .i64 q)) 24 (0, 0)) := by rw [hW]; exact set_at HG.out _
      have t1 : Stirs S wr W1 := by rw [hW]; exact Stirs.set _ _ hgS
      have t1' : Stirs [g] wr W1 := by rw [hW]; exact Stirs.set _ _ List.mem_cons_self
      clear hW c0 f0 c1 f1 c2 f2 c3 f3
      have e1q : ((q : Int) + 1) = ((q + 1 : Nat) : Int) := by omega
      rw [e1q]
      clear e1q
      refine (laws_markText.calls 30 _ _ W1 (mt_is (by omega))).mono ?_
      rintro e W2 ⟨rfl, hb⟩
      have g2 : W2.heap[g]? = some (.cells (cur.setIfInBounds (j * 4) (.int .i64 q)) 24 (0, 0)) := blk_below g1 hb
      have t2 : Stirs S wr W2 := t1.trans (Stirs.of_below hb)
      have t2' : Stirs [g] wr W2 := t1'.trans (Stirs.of_below hb)
      clear t1 t1' g1 hb
      obtain ⟨c0, f0, c1, f1, c2, f2, c3, f3⟩ := cells4 g2 (a := .int .i64 q) (b := .string nm) (c := .int .i64 st) (d := va) (by simpa using hsz) (by rw [Array.getElem?_setIfInBounds_self_of_lt (by omega)]) (by rw [Array.getElem?_setIfInBounds_ne (by omega)]; exact e1') (by rw [Array.getElem?_setIfInBounds_ne (by omega)]; exact e2') (by rw [Array.getElem?_setIfInBounds_ne (by omega)]; exact e3')
      have G2 := Lib.hid g2
      clear g2
      go_wp2_with fail
      refine name_calls ?_
      intro W3 hW
      have e3q : ((q : Int) + 1 + 1 + 1) = ((q + 3 : Nat) : Int) := by omega
      have e2q : ((q : Int) + 1 + 1) = ((q + 2 : Nat) : Int) := by omega
      have g3 : W3.heap[g]? = some (.cells (((cur.setIfInBounds (j * 4) (.int .i64 (q : Nat))).setIfInBounds (j * 4 + 1) (.string (mt (q + 1)))).setIfInBounds (j * 4 + 2) (.int .i64 (q + 2 : Nat))) 24 (0, 0)) := by rw [hW, e2q]; exact set_at (set_at G2.out _) _
      have t3' : Stirs [g] wr W3 := by rw [hW]; exact t2'.trans ((Stirs.set _ _ List.mem_cons_self).trans (Stirs.set _ _ List.mem_cons_self))
      clear hW c0 f0 c1 f1 c2 f2 c3 f3 t2 t2' G2
      rw [e3q]
      clear e3q e2q
      have hva3 : OwL W3 va us St := OwL.frame HVA.out (fun k hk => t3'.block k (HVA.out.lt k hk) (fun e => hgt (by rw [List.mem_singleton.1 e] at hk; exact hk)))
      refine (HT.out.use hva3 (by omega)).mono ?_
      rintro e W4 ⟨rfl, hva4, t4⟩
      have g4 := (t4.block g (heap_lt g3) hgt).trans g3
      have hfin := HBACK.out W4 q (q + 2 : Nat) (mt (q + 1)) (mkL us (q + 3)) (mkL_len _ _) g4 hva4 (fun k hk hkg hkt => by
        have hlt : k < wr.heap.size := hO.out.lt k hk
        exact (t4.block k (Nat.lt_of_lt_of_le hlt t3'.size) hkt).trans (t3'.block k hlt (fun e => hkg (List.mem_singleton.1 e))))
      have tf : Stirs S wr W4 := (t3'.sub (fun k hk => by rw [List.mem_singleton.1 hk]; exact hgS)).trans (t4.sub hSt)
      have HFIN := Lib.hid hfin
      have HTF := Lib.hid (hF.out.trans tf)
      clear hfin tf g4 hva4 t4 g3 t3' hva3
      go_wp2_with fail
      go_roundw
      case rel =>
        refine ⟨j + 1, by omega, by go_num, ?_, ⟨?_⟩, ⟨HTF.out⟩⟩
        · rw [hnod]; congr 2; omega
        · rw [HSTEP.out]
          have := HFIN.out
          simpa [mkT, hq] using this
      case measure => simp [intOf]; omega
    · obtain rfl : j = ts.length := by omega
      have ho := hO.out
      rw [List.take_length, List.drop_length, List.append_nil] at ho
      rw [List.take_length]
      have HO := Lib.hid ho
      clear ho
      go_wp2_with fail
      go_ret
      exact ⟨rfl, HO.out, hF.out⟩
theorem markL_all (ts : List T) : MkL ts := by
  have key : ∀ t : T, MkL t.f3 := (T.ind (P := fun t => MkL t.f3) (Q := fun ts => ∀ t ∈ ts, MkL t.f3) (fun op nm st ts ih => mkL_of ts ih) (fun t ht => by cases ht) (fun t ts iht ihs t' ht => by
    rcases List.mem_cons.1 ht with rfl | ht
    · exact iht
    · exact ihs t' ht)).1
  exact mkL_of ts (fun t _ => key t)
end Go.Proofs.YtfnkobcmhbdcoabDoor.MarkT
end
section
-- Written by this session's program xprint.py out of the translation; not trusted: Lean checks it.


namespace Go.Proofs.YtfnkobcmhbdcoabDoor.XTm
open Go.RowKit Go.Proofs.YtfnkobcmhbdcoabDoorW.PrintWords Go.Proofs.YtfnkobcmhbdcoabDoorW.PrintLast Go.Proofs.YtfnkobcmhbdcoabDoorW.PrintMore
attribute [local go_sem] max2_int min2_int max_two min_two max_three min_three max_four min_four   -- for this text's walks alone
set_option linter.unusedVariables false
set_option linter.unusedSimpArgs false
open Go.Proofs.YtfnkobcmhbdcoabDoor.XTypes

/-! ### laws_heldTermS: function 16 -/
mutual
def laws_heldTermS.l0 : Nat → List (S24) → Int → Int → Option (Int)
  | 0, _, _, _ => none
  | k + 1, x0, x1, x5 => if x5 < (x0.length : Int) then (if 0 ≤ x5 then (if ((rd_T24 x0 x5).f0) = x1 then ((laws_markText.f k (wrap64 (x1 + 1))).bind fun t110 => (if ((rd_T24 x0 x5).f1).toList = t110.toList then (if ((rd_T24 x0 x5).f2) = (wrap64 ((wrap64 (x1 + 1)) + 1)) then ((laws_heldTermS.f k ((rd_T24 x0 x5).f3) (wrap64 ((wrap64 ((wrap64 (x1 + 1)) + 1)) + 1))).bind fun t113 => (if t113 < 0 then (some (-1)) else (laws_heldTermS.l0 k x0 t113 (wrap64 (x5 + 1))))) else (some (-1))) else (some (-1)))) else (some (-1))) else (none)) else (some x1)
def laws_heldTermS.f : Nat → List (S24) → Int → Option (Int)
  | 0, _, _ => none
  | k + 1, l0, a1 => laws_heldTermS.l0 k l0 a1 0
end
theorem laws_heldTermS.mono_l : ∀ k, (∀ y0 y1, LeO (laws_heldTermS.f k y0 y1) (laws_heldTermS.f (k + 1) y0 y1)) ∧ (∀ y0 y1 y2, LeO (laws_heldTermS.l0 k y0 y1 y2) (laws_heldTermS.l0 (k + 1) y0 y1 y2))
  | 0 => ⟨fun _ _ r h => by simp [laws_heldTermS.f] at h, fun _ _ _ r h => by simp [laws_heldTermS.l0] at h⟩
  | k + 1 => by
    obtain ⟨ih0, ih1⟩ := laws_heldTermS.mono_l k
    refine ⟨?_, ?_⟩
    · intro y0 y1
      unfold laws_heldTermS.f
      repeat' first
      | (with_reducible exact ih0 _ _)
      | (with_reducible exact ih1 _ _ _)
      | (with_reducible exact laws_markText.mono _ _)
      | (with_reducible exact LeO.refl _)
      | (with_reducible exact LeO.none _)
      | (with_reducible refine LeO.ite ?_ ?_)
      | (with_reducible refine LeO.bind ?_ (fun _ => ?_))
      | exact ih0 _ _
      | exact ih1 _ _ _
      | exact laws_markText.mono _ _
      | exact LeO.none _
      | refine LeO.ite ?_ ?_
      | refine LeO.bind ?_ (fun _ => ?_)
    · intro y0 y1 y2
      unfold laws_heldTermS.l0
      repeat' first
      | (with_reducible exact ih0 _ _)
      | (with_reducible exact ih1 _ _ _)
      | (with_reducible exact laws_markText.mono _ _)
      | (with_reducible exact LeO.refl _)
      | (with_reducible exact LeO.none _)
      | (with_reducible refine LeO.ite ?_ ?_)
      | (with_reducible refine LeO.bind ?_ (fun _ => ?_))
      | exact ih0 _ _
      | exact ih1 _ _ _
      | exact laws_markText.mono _ _
      | exact LeO.none _
      | refine LeO.ite ?_ ?_
      | refine LeO.bind ?_ (fun _ => ?_)
theorem laws_heldTermS.mono : ∀ a0 a1 k, LeO (laws_heldTermS.f k a0 a1) (laws_heldTermS.f (k + 1) a0 a1) := by
  intro a0 a1 k
  obtain ⟨ih0, ih1⟩ := laws_heldTermS.mono_l k
  exact ih0 a0 a1
def laws_heldTermS.T7 : Bool × List (List Nat × List Nat) := (true, [([], []), ([], []), ([0, 1], [0, 1]), ([2], [2]), ([3], [3]), ([], []), ([5], [5]), ([4, 6], [4, 6])])
def laws_heldTermS.B7 : List Nat := [0, 0, 3, 7, 15, 0, 32, 127]
theorem laws_heldTermS.tab7 : rtab .any (opsOf Tryd.f16 7) = laws_heldTermS.T7 := by kernel_rfl
theorem laws_heldTermS.bits7 : waitsOk laws_heldTermS.T7.2 laws_heldTermS.B7 = true := by kernel_rfl
set_option maxHeartbeats 8000000 in
set_option maxRecDepth 100000 in
theorem laws_heldTermS.calls (k : Nat) : ∀ (A0 : Option Addr) (c0 : Nat) (l0 : List (S24)) (a1 : Int) (r : Int) (w : World) (hr0 : Kd.C k24 w A0 l0.length l0) (hc0 : l0.length ≤ c0) (h : laws_heldTermS.f k l0 a1 = some r),
    Calls Tryd.prog 16 #[.slice A0 l0.length c0, .int .i64 a1] w fun e w' => e = .returned (.int .i64 r) ∧ Below w.heap.size w w' := by
  induction k using Nat.strongRecOn with
  | _ k ih =>
  intro A0 c0 l0 a1 r w hr0 hc0 h
  cases k with
  | zero => exact absurd h (by simp [laws_heldTermS.f])
  | succ k =>
  simp only [laws_heldTermS.f] at h
  have HR0 := Aside0.mk hr0
  have HC0 := Aside0.mk hc0
  clear hr0 hc0
  have HB := Aside0.mk (Below.refl w.heap.size w)
  have H : (laws_heldTermS.l0 k l0 a1 0) = some r := h
  clear h
  have H' := Aside0.mk H
  clear H
  go_enter Tryd.func16, Tryd.ntmps16
  go_wp2
  go_loopg [1, 5] k (fun kq v1 v5 w' => ∃ (x1_1 : Int) (x5_1 : Int), v1 = .int .i64 x1_1 ∧ v5 = .int .i64 x5_1 ∧ Aside0 (laws_heldTermS.l0 kq l0 x1_1 x5_1 = some r) ∧ Aside0 (kq ≤ k) ∧ Aside0 (Below w.heap.size w w'))
  case atStart => exact ⟨(a1), (0), (by first | rfl | (simp; done) | (simp [*]; done)), (by first | rfl | (simp; done) | (simp [*]; done)), H', ⟨Nat.le_refl _⟩, ⟨by repeat (first | (with_reducible first | exact HB.out | apply below_alloc | apply pw_below_drewN | apply below_drew1) | exact HB.out)⟩⟩
  case round =>
    clear H'
    try clear c1
    try clear p2
    obtain ⟨x1_1, x5_1, rfl, rfl, HA, HK1, HB⟩ := hrel
    cases gk with
    | zero => exact absurd HA.out (by simp [laws_heldTermS.l0])
    | succ k1 =>
      have H := HA.out
      clear HA
      simp only [laws_heldTermS.l0] at H
      by_cases c3 : x5_1 < (l0.length : Int)
      · rw [if_pos c3] at H
        have c3b0 : decide (x5_1 < (l0.length : Int)) = true := decide_eq_true c3
        clear c3
        by_cases c4 : 0 ≤ x5_1
        · rw [if_pos c4] at H
          have c4b0 : decide (0 ≤ x5_1) = true := decide_eq_true c4
          clear c4
          by_cases c5 : ((rd_T24 l0 x5_1).f0) = x1_1
          · rw [if_pos c5] at H
            have c5b0 : (((rd_T24 l0 x5_1).f0) == x1_1) = true := beq_iff_eq.mpr c5
            have c5b1 : (((rd_T24 l0 x5_1).f0) != x1_1) = false := bne_eq_false_iff_eq.mpr c5
            clear c5
            replace H := Option.bind_eq_some_iff.mp H
            obtain ⟨t110, A60, H⟩ := H
            replace H : (if ((rd_T24 l0 x5_1).f1).toList = t110.toList then (if ((rd_T24 l0 x5_1).f2) = (wrap64 ((wrap64 (x1_1 + 1)) + 1)) then ((laws_heldTermS.f k1 ((rd_T24 l0 x5_1).f3) (wrap64 ((wrap64 ((wrap64 (x1_1 + 1)) + 1)) + 1))).bind fun t113 => (if t113 < 0 then (some (-1)) else (laws_heldTermS.l0 k1 l0 t113 (wrap64 (x5_1 + 1))))) else (some (-1))) else (some (-1))) = some r := H
            have A6 := Aside0.mk A60
            clear A60
            by_cases c7 : ((rd_T24 l0 x5_1).f1).toList = t110.toList
            · rw [if_pos c7] at H
              have c7b0 : (((rd_T24 l0 x5_1).f1).toList == t110.toList) = true := beq_iff_eq.mpr c7
              have c7b1 : (((rd_T24 l0 x5_1).f1).toList != t110.toList) = false := bne_eq_false_iff_eq.mpr c7
              clear c7
              by_cases c8 : ((rd_T24 l0 x5_1).f2) = (wrap64 ((wrap64 (x1_1 + 1)) + 1))
              · rw [if_pos c8] at H
                have c8b0 : (((rd_T24 l0 x5_1).f2) == (wrap64 ((wrap64 (x1_1 + 1)) + 1))) = true := beq_iff_eq.mpr c8
                have c8b1 : (((rd_T24 l0 x5_1).f2) != (wrap64 ((wrap64 (x1_1 + 1)) + 1))) = false := bne_eq_false_iff_eq.mpr c8
                clear c8
                replace H := Option.bind_eq_some_iff.mp H
                obtain ⟨t113, A90, H⟩ := H
                replace H : (if t113 < 0 then (some (-1)) else (laws_heldTermS.l0 k1 l0 t113 (wrap64 (x5_1 + 1)))) = some r := H
                have A9 := Aside0.mk A90
                clear A90
                by_cases c10 : t113 < 0
                · rw [if_pos c10] at H
                  have c10b0 : decide (t113 < 0) = true := decide_eq_true c10
                  clear c10
                  obtain rfl := Option.some.inj H
                  have p108 : 0 ≤ (x5_1 : Int) := of_decide_eq_true (by first | (with_reducible assumption) | assumption)
                  have q108 : x5_1 < (l0.length : Int) := of_decide_eq_true (by first | (with_reducible assumption) | assumption)
                  obtain ⟨ad108, A108_3, c108_3, e108, hx108_0, hx108_1, hx108_2, hx108_3, hl108_3, hi108_3⟩ := at_T24 HR0.out x5_1 p108 q108
                  cases e108
                  replace hx108_0 := (HB.out.cell (World.block_lt_of_cell? w _ hx108_0)).trans hx108_0
                  replace hx108_1 := (HB.out.cell (World.block_lt_of_cell? w _ hx108_1)).trans hx108_1
                  replace hx108_2 := (HB.out.cell (World.block_lt_of_cell? w _ hx108_2)).trans hx108_2
                  replace hx108_3 := (HB.out.cell (World.block_lt_of_cell? w _ hx108_3)).trans hx108_3
                  have HR108_3 := Aside0.mk hi108_3
                  have HC108_3 := Aside0.mk hl108_3
                  clear hi108_3 hl108_3
                  replace p108 := eq_true p108
                  replace q108 := eq_true q108
                  try go_wp2
                  have n0_ := Aside0.mk (below_drew1 HB.out)
                  clear HB
                  have HB := n0_
                  clear n0_
                  have p109 : 0 ≤ (x5_1 : Int) := of_decide_eq_true (by first | (with_reducible assumption) | assumption)
                  have q109 : x5_1 < (l0.length : Int) := of_decide_eq_true (by first | (with_reducible assumption) | assumption)
                  obtain ⟨ad109, A109_3, c109_3, e109, hx109_0, hx109_1, hx109_2, hx109_3, hl109_3, hi109_3⟩ := at_T24 HR0.out x5_1 p109 q109
                  have hw109_3 := hx109_3
                  have hw109_2 := hx109_2
                  have hw109_1 := hx109_1
                  have hw109_0 := hx109_0
                  obtain rfl : ad108 = ad109 := (by injection e109)
                  replace hx109_0 := (HB.out.cell (World.block_lt_of_cell? w _ hx109_0)).trans hx109_0
                  replace hx109_1 := (HB.out.cell (World.block_lt_of_cell? w _ hx109_1)).trans hx109_1
                  replace hx109_2 := (HB.out.cell (World.block_lt_of_cell? w _ hx109_2)).trans hx109_2
                  replace hx109_3 := (HB.out.cell (World.block_lt_of_cell? w _ hx109_3)).trans hx109_3
                  have HR109_3 := Aside0.mk hi109_3
                  have HC109_3 := Aside0.mk hl109_3
                  clear hi109_3 hl109_3
                  replace p109 := eq_true p109
                  replace q109 := eq_true q109
                  refine start_ (n := 8) (S := fun w' => w'.cell? (ad108.add ((x5_1).toNat * 4)) = some (.int .i64 ((rd_T24 l0 x5_1).f0)) ∧ w'.cell? ⟨(ad108.add ((x5_1).toNat * 4)).block, (ad108.add ((x5_1).toNat * 4)).off + 1, none⟩ = some (.string ((rd_T24 l0 x5_1).f1)) ∧ w'.cell? ⟨(ad108.add ((x5_1).toNat * 4)).block, (ad108.add ((x5_1).toNat * 4)).off + 2, none⟩ = some (.int .i64 ((rd_T24 l0 x5_1).f2)) ∧ w'.cell? ⟨(ad108.add ((x5_1).toNat * 4)).block, (ad108.add ((x5_1).toNat * 4)).off + 3, none⟩ = some (.slice A109_3 ((rd_T24 l0 x5_1).f3).length c109_3)) (ds := []) #[false, false, false, false, false, false, false, false] (by kernel_rfl) rfl rfl ⟨((HB.out.cell (World.block_lt_of_cell? w _ hw109_0)).trans hw109_0), ((HB.out.cell (World.block_lt_of_cell? w _ hw109_1)).trans hw109_1), ((HB.out.cell (World.block_lt_of_cell? w _ hw109_2)).trans hw109_2), ((HB.out.cell (World.block_lt_of_cell? w _ hw109_3)).trans hw109_3)⟩ (fun hHeld => ?_); refine with_tabW laws_heldTermS.tab7 laws_heldTermS.bits7 (fun HT_ HW_ => ?_)
                  generalize wr.drew = w11 at HB HR109_3 hx109_0 hx109_1 hx109_2 hx109_3 hHeld ⊢
                  refine pure_ (i := 0) (N := some 21) (v := ?_) (a' := ?_) #[true, false, false, false, false, false, false, false] rfl rfl (any_of HT_.out (by kernel_rfl)) (fun _ _ _ h => h) (Or.inl ⟨by rfl, ?_⟩) ?_ ?_
                  rotate_left
                  · intro w'
                    go_simp
                    with_reducible rfl
                  rotate_left
                  · simp only [Act.put, List.setIfInBounds_toArray, List.set_cons_zero, List.set_cons_succ, i64_w, i32_w]
                    rfl
                  refine pure_ (i := 1) (N := some 22) (v := ?_) (a' := ?_) #[true, true, false, false, false, false, false, false] rfl rfl (any_of HT_.out (by kernel_rfl)) (fun _ _ _ h => h) (Or.inl ⟨by rfl, ?_⟩) ?_ ?_
                  rotate_left
                  · intro w'
                    go_simp
                    with_reducible rfl
                  rotate_left
                  · simp only [Act.put, List.setIfInBounds_toArray, List.set_cons_zero, List.set_cons_succ, i64_w, i32_w]
                    rfl
                  refine pure_ (i := 2) (N := some 23) (v := ?_) (a' := ?_) #[true, true, true, false, false, false, false, false] rfl rfl (any_of HT_.out (by kernel_rfl)) (fun _ _ _ h => h) (Or.inl ⟨by rfl, ?_⟩) ?_ ?_
                  rotate_left
                  · intro w'
                    go_simp
                    with_reducible rfl
                  rotate_left
                  · simp only [Act.put, List.setIfInBounds_toArray, List.set_cons_zero, List.set_cons_succ, i64_w, i32_w]
                    rfl
                  refine pure_ (i := 3) (N := some 24) (v := ?_) (a' := ?_) #[true, true, true, true, false, false, false, false] rfl rfl (any_of HT_.out (by kernel_rfl)) (fun _ _ _ h => h) (Or.inl ⟨by rfl, ?_⟩) ?_ ?_
                  rotate_left
                  · intro w'
                    go_simp
                    with_reducible rfl
                  rotate_left
                  · simp only [Act.put, List.setIfInBounds_toArray, List.set_cons_zero, List.set_cons_succ, i64_w, i32_w]
                    rfl
                  refine pure_ (i := 5) (N := some 26) (v := ?_) (a' := ?_) #[true, true, true, true, false, true, false, false] rfl rfl (any_of HT_.out (by kernel_rfl)) (fun _ _ _ h => h) (Or.inl ⟨by rfl, ?_⟩) ?_ ?_
                  rotate_left
                  · intro w'
                    go_simp
                    with_reducible rfl
                  rotate_left
                  · simp only [Act.put, List.setIfInBounds_toArray, List.set_cons_zero, List.set_cons_succ, i64_w, i32_w]
                    rfl
                  refine take_ (i := 4) (N := some 25) (v := ?_) (a' := ?_) #[true, true, true, true, true, true, false, false] rfl rfl (take_ofW HT_.out HW_.out (by kernel_rfl)) (fun _ _ _ h => h) (Or.inl ⟨by rfl, ?_⟩) hHeld ?_ ?_
                  rotate_left
                  · rintro w' ⟨s0, s1, s2, s3⟩
                    go_simp
                    with_reducible rfl
                  rotate_left
                  · simp only [Act.put, List.setIfInBounds_toArray, List.set_cons_zero, List.set_cons_succ, i64_w, i32_w]
                    rfl
                  refine one_ (i := 6) (N := some 27) #[true, true, true, true, true, true, true, false] rfl rfl (one_of HT_.out (by kernel_rfl)) (by decide) (fun K hK => ?_)
                  refine goes_ Tryd.func20 (by kernel_rfl) rfl #[.int .i64 (wrap64 (x1_1 + 1))] (by rfl) rfl rfl (by (try simp only [List.map_toArray, List.map_cons, List.map_nil]); first | done | rfl | (simp only [List.length_drop, List.length_take]; rfl)) ?_
                  with_reducible refine (laws_markText.calls k1 (wrap64 (x1_1 + 1)) t110 _ A6.out).mono ?_
                  rintro e w12 ⟨rfl, hb⟩
                  refine ⟨_, rfl, ?_⟩
                  have n0_ := Aside0.mk (below_step (by repeat (first | (with_reducible first | exact HB.out | apply below_alloc | apply pw_below_drewN | apply below_drew1) | exact HB.out)) hb)
                  clear HB
                  have HB := n0_
                  clear n0_
                  (try clear hb)
                  (try clear hb2)
                  (try clear hk)
                  (try clear hi)
                  refine hK.out _ _ ⟨((HB.out.cell (World.block_lt_of_cell? w _ hw109_0)).trans hw109_0), ((HB.out.cell (World.block_lt_of_cell? w _ hw109_1)).trans hw109_1), ((HB.out.cell (World.block_lt_of_cell? w _ hw109_2)).trans hw109_2), ((HB.out.cell (World.block_lt_of_cell? w _ hw109_3)).trans hw109_3)⟩ (fun hHeld => ?_)
                  clear hK K
                  refine norm_ (a' := ?_) ?_ ?_
                  rotate_left
                  · show Act.put _ (some 27) _ = _
                    simp only [Act.put, List.setIfInBounds_toArray, List.set_cons_zero, List.set_cons_succ, i64_w, i32_w]
                    rfl
                  refine pure_ (i := 7) (N := some 28) (v := ?_) (a' := ?_) #[true, true, true, true, true, true, true, true] rfl rfl (any_of HT_.out (by kernel_rfl)) (fun _ _ _ h => h) (Or.inl ⟨by rfl, ?_⟩) ?_ ?_
                  rotate_left
                  · intro w'
                    go_simp
                    with_reducible rfl
                  rotate_left
                  · simp only [Act.put, List.setIfInBounds_toArray, List.set_cons_zero, List.set_cons_succ, i64_w, i32_w]
                    rfl
                  refine done_ (done_of HT_.out (by kernel_rfl)) ?_
                  have p111 : 0 ≤ (x5_1 : Int) := of_decide_eq_true (by first | (with_reducible assumption) | assumption)
                  have q111 : x5_1 < (l0.length : Int) := of_decide_eq_true (by first | (with_reducible assumption) | assumption)
                  obtain ⟨ad111, A111_3, c111_3, e111, hx111_0, hx111_1, hx111_2, hx111_3, hl111_3, hi111_3⟩ := at_T24 HR0.out x5_1 p111 q111
                  obtain rfl : ad108 = ad111 := (by injection e111)
                  replace hx111_0 := (HB.out.cell (World.block_lt_of_cell? w _ hx111_0)).trans hx111_0
                  replace hx111_1 := (HB.out.cell (World.block_lt_of_cell? w _ hx111_1)).trans hx111_1
                  replace hx111_2 := (HB.out.cell (World.block_lt_of_cell? w _ hx111_2)).trans hx111_2
                  replace hx111_3 := (HB.out.cell (World.block_lt_of_cell? w _ hx111_3)).trans hx111_3
                  have HR111_3 := Aside0.mk hi111_3
                  have HC111_3 := Aside0.mk hl111_3
                  clear hi111_3 hl111_3
                  replace p111 := eq_true p111
                  replace q111 := eq_true q111
                  have p112 : 0 ≤ (x5_1 : Int) := of_decide_eq_true (by first | (with_reducible assumption) | assumption)
                  have q112 : x5_1 < (l0.length : Int) := of_decide_eq_true (by first | (with_reducible assumption) | assumption)
                  obtain ⟨ad112, A112_3, c112_3, e112, hx112_0, hx112_1, hx112_2, hx112_3, hl112_3, hi112_3⟩ := at_T24 HR0.out x5_1 p112 q112
                  obtain rfl : ad108 = ad112 := (by injection e112)
                  replace hx112_0 := (HB.out.cell (World.block_lt_of_cell? w _ hx112_0)).trans hx112_0
                  replace hx112_1 := (HB.out.cell (World.block_lt_of_cell? w _ hx112_1)).trans hx112_1
                  replace hx112_2 := (HB.out.cell (World.block_lt_of_cell? w _ hx112_2)).trans hx112_2
                  replace hx112_3 := (HB.out.cell (World.block_lt_of_cell? w _ hx112_3)).trans hx112_3
                  have HR112_3 := Aside0.mk hi112_3
                  have HC112_3 := Aside0.mk hl112_3
                  clear hi112_3 hl112_3
                  replace p112 := eq_true p112
                  replace q112 := eq_true q112
                  have ea_ := Option.some.inj (hx111_3.symm.trans hx112_3)
                  injection ea_ with ea_ en_ ec_
                  subst ea_
                  subst ec_
                  clear en_
                  have eb_ := Option.some.inj (hx112_3.symm.trans ((HB.out.cell (World.block_lt_of_cell? w _ hw109_3)).trans hw109_3))
                  injection eb_ with eb_ en_ ec_
                  subst eb_
                  subst ec_
                  clear en_
                  try go_wp2_with (first | ((with_reducible refine gate_callee (f := 16) rfl ?_); refine goesL_ (some 46) rfl rfl Tryd.func16 (by kernel_rfl) rfl #[.slice A111_3 ((rd_T24 l0 x5_1).f3).length c111_3, .int .i64 (wrap64 ((wrap64 ((wrap64 (x1_1 + 1)) + 1)) + 1))] rfl (by (try simp only [List.map_toArray, List.map_cons, List.map_nil]); first | done | rfl | (simp only [List.length_drop, List.length_take]; rfl)) ?_; (with_reducible refine (ih k1 (by have := HK1.out; omega) _ _ ((rd_T24 l0 x5_1).f3) (wrap64 ((wrap64 ((wrap64 (x1_1 + 1)) + 1)) + 1)) t113 _ ?side1 ?side2 A9.out).mono ?_); (case side1 => repeat (first | exact (Kd.C_below HR112_3.out HB.out) | (with_reducible refine Kd.C_alloc ?_ _) | (with_reducible refine Kd.C_drewN ?_ _) | (with_reducible refine Kd.C_drew ?_))); (case side2 => exact HC112_3.out); rintro e w13 ⟨rfl, hb⟩; refine ⟨_, rfl, ?_⟩; have n0_ := Aside0.mk (below_step (by repeat (first | (with_reducible first | exact HB.out | apply below_alloc | apply pw_below_drewN | apply below_drew1) | exact HB.out)) hb); clear HB; have HB := n0_; clear n0_; (try clear hb); (try clear hb2); (try clear hk); (try clear hi)))
                  go_ret
                  exact ⟨by first | rfl | (simp [errW_none, errW_some] <;> rfl) | (simp [*, errW_none, errW_some] <;> rfl), by repeat (first | (with_reducible first | exact HB.out | apply below_alloc | apply pw_below_drewN | apply below_drew1) | exact HB.out)⟩
                · rw [if_neg c10] at H
                  have c10b0 : decide (t113 < 0) = false := decide_eq_false c10
                  clear c10
                  have H' := Aside0.mk H
                  clear H
                  have p108 : 0 ≤ (x5_1 : Int) := of_decide_eq_true (by first | (with_reducible assumption) | assumption)
                  have q108 : x5_1 < (l0.length : Int) := of_decide_eq_true (by first | (with_reducible assumption) | assumption)
                  obtain ⟨ad108, A108_3, c108_3, e108, hx108_0, hx108_1, hx108_2, hx108_3, hl108_3, hi108_3⟩ := at_T24 HR0.out x5_1 p108 q108
                  cases e108
                  replace hx108_0 := (HB.out.cell (World.block_lt_of_cell? w _ hx108_0)).trans hx108_0
                  replace hx108_1 := (HB.out.cell (World.block_lt_of_cell? w _ hx108_1)).trans hx108_1
                  replace hx108_2 := (HB.out.cell (World.block_lt_of_cell? w _ hx108_2)).trans hx108_2
                  replace hx108_3 := (HB.out.cell (World.block_lt_of_cell? w _ hx108_3)).trans hx108_3
                  have HR108_3 := Aside0.mk hi108_3
                  have HC108_3 := Aside0.mk hl108_3
                  clear hi108_3 hl108_3
                  replace p108 := eq_true p108
                  replace q108 := eq_true q108
                  try go_wp2
                  have n0_ := Aside0.mk (below_drew1 HB.out)
                  clear HB
                  have HB := n0_
                  clear n0_
                  have p109 : 0 ≤ (x5_1 : Int) := of_decide_eq_true (by first | (with_reducible assumption) | assumption)
                  have q109 : x5_1 < (l0.length : Int) := of_decide_eq_true (by first | (with_reducible assumption) | assumption)
                  obtain ⟨ad109, A109_3, c109_3, e109, hx109_0, hx109_1, hx109_2, hx109_3, hl109_3, hi109_3⟩ := at_T24 HR0.out x5_1 p109 q109
                  have hw109_3 := hx109_3
                  have hw109_2 := hx109_2
                  have hw109_1 := hx109_1
                  have hw109_0 := hx109_0
                  obtain rfl : ad108 = ad109 := (by injection e109)
                  replace hx109_0 := (HB.out.cell (World.block_lt_of_cell? w _ hx109_0)).trans hx109_0
                  replace hx109_1 := (HB.out.cell (World.block_lt_of_cell? w _ hx109_1)).trans hx109_1
                  replace hx109_2 := (HB.out.cell (World.block_lt_of_cell? w _ hx109_2)).trans hx109_2
                  replace hx109_3 := (HB.out.cell (World.block_lt_of_cell? w _ hx109_3)).trans hx109_3
                  have HR109_3 := Aside0.mk hi109_3
                  have HC109_3 := Aside0.mk hl109_3
                  clear hi109_3 hl109_3
                  replace p109 := eq_true p109
                  replace q109 := eq_true q109
                  refine start_ (n := 8) (S := fun w' => w'.cell? (ad108.add ((x5_1).toNat * 4)) = some (.int .i64 ((rd_T24 l0 x5_1).f0)) ∧ w'.cell? ⟨(ad108.add ((x5_1).toNat * 4)).block, (ad108.add ((x5_1).toNat * 4)).off + 1, none⟩ = some (.string ((rd_T24 l0 x5_1).f1)) ∧ w'.cell? ⟨(ad108.add ((x5_1).toNat * 4)).block, (ad108.add ((x5_1).toNat * 4)).off + 2, none⟩ = some (.int .i64 ((rd_T24 l0 x5_1).f2)) ∧ w'.cell? ⟨(ad108.add ((x5_1).toNat * 4)).block, (ad108.add ((x5_1).toNat * 4)).off + 3, none⟩ = some (.slice A109_3 ((rd_T24 l0 x5_1).f3).length c109_3)) (ds := []) #[false, false, false, false, false, false, false, false] (by kernel_rfl) rfl rfl ⟨((HB.out.cell (World.block_lt_of_cell? w _ hw109_0)).trans hw109_0), ((HB.out.cell (World.block_lt_of_cell? w _ hw109_1)).trans hw109_1), ((HB.out.cell (World.block_lt_of_cell? w _ hw109_2)).trans hw109_2), ((HB.out.cell (World.block_lt_of_cell? w _ hw109_3)).trans hw109_3)⟩ (fun hHeld => ?_); refine with_tabW laws_heldTermS.tab7 laws_heldTermS.bits7 (fun HT_ HW_ => ?_)
                  generalize wr.drew = w14 at HB HR109_3 hx109_0 hx109_1 hx109_2 hx109_3 hHeld ⊢
                  refine pure_ (i := 0) (N := some 21) (v := ?_) (a' := ?_) #[true, false, false, false, false, false, false, false] rfl rfl (any_of HT_.out (by kernel_rfl)) (fun _ _ _ h => h) (Or.inl ⟨by rfl, ?_⟩) ?_ ?_
                  rotate_left
                  · intro w'
                    go_simp
                    with_reducible rfl
                  rotate_left
                  · simp only [Act.put, List.setIfInBounds_toArray, List.set_cons_zero, List.set_cons_succ, i64_w, i32_w]
                    rfl
                  refine pure_ (i := 1) (N := some 22) (v := ?_) (a' := ?_) #[true, true, false, false, false, false, false, false] rfl rfl (any_of HT_.out (by kernel_rfl)) (fun _ _ _ h => h) (Or.inl ⟨by rfl, ?_⟩) ?_ ?_
                  rotate_left
                  · intro w'
                    go_simp
                    with_reducible rfl
                  rotate_left
                  · simp only [Act.put, List.setIfInBounds_toArray, List.set_cons_zero, List.set_cons_succ, i64_w, i32_w]
                    rfl
                  refine pure_ (i := 2) (N := some 23) (v := ?_) (a' := ?_) #[true, true, true, false, false, false, false, false] rfl rfl (any_of HT_.out (by kernel_rfl)) (fun _ _ _ h => h) (Or.inl ⟨by rfl, ?_⟩) ?_ ?_
                  rotate_left
                  · intro w'
                    go_simp
                    with_reducible rfl
                  rotate_left
                  · simp only [Act.put, List.setIfInBounds_toArray, List.set_cons_zero, List.set_cons_succ, i64_w, i32_w]
                    rfl
                  refine pure_ (i := 3) (N := some 24) (v := ?_) (a' := ?_) #[true, true, true, true, false, false, false, false] rfl rfl (any_of HT_.out (by kernel_rfl)) (fun _ _ _ h => h) (Or.inl ⟨by rfl, ?_⟩) ?_ ?_
                  rotate_left
                  · intro w'
                    go_simp
                    with_reducible rfl
                  rotate_left
                  · simp only [Act.put, List.setIfInBounds_toArray, List.set_cons_zero, List.set_cons_succ, i64_w, i32_w]
                    rfl
                  refine pure_ (i := 5) (N := some 26) (v := ?_) (a' := ?_) #[true, true, true, true, false, true, false, false] rfl rfl (any_of HT_.out (by kernel_rfl)) (fun _ _ _ h => h) (Or.inl ⟨by rfl, ?_⟩) ?_ ?_
                  rotate_left
                  · intro w'
                    go_simp
                    with_reducible rfl
                  rotate_left
                  · simp only [Act.put, List.setIfInBounds_toArray, List.set_cons_zero, List.set_cons_succ, i64_w, i32_w]
                    rfl
                  refine take_ (i := 4) (N := some 25) (v := ?_) (a' := ?_) #[true, true, true, true, true, true, false, false] rfl rfl (take_ofW HT_.out HW_.out (by kernel_rfl)) (fun _ _ _ h => h) (Or.inl ⟨by rfl, ?_⟩) hHeld ?_ ?_
                  rotate_left
                  · rintro w' ⟨s0, s1, s2, s3⟩
                    go_simp
                    with_reducible rfl
                  rotate_left
                  · simp only [Act.put, List.setIfInBounds_toArray, List.set_cons_zero, List.set_cons_succ, i64_w, i32_w]
                    rfl
                  refine one_ (i := 6) (N := some 27) #[true, true, true, true, true, true, true, false] rfl rfl (one_of HT_.out (by kernel_rfl)) (by decide) (fun K hK => ?_)
                  refine goes_ Tryd.func20 (by kernel_rfl) rfl #[.int .i64 (wrap64 (x1_1 + 1))] (by rfl) rfl rfl (by (try simp only [List.map_toArray, List.map_cons, List.map_nil]); first | done | rfl | (simp only [List.length_drop, List.length_take]; rfl)) ?_
                  with_reducible refine (laws_markText.calls k1 (wrap64 (x1_1 + 1)) t110 _ A6.out).mono ?_
                  rintro e w15 ⟨rfl, hb⟩
                  refine ⟨_, rfl, ?_⟩
                  have n0_ := Aside0.mk (below_step (by repeat (first | (with_reducible first | exact HB.out | apply below_alloc | apply pw_below_drewN | apply below_drew1) | exact HB.out)) hb)
                  clear HB
                  have HB := n0_
                  clear n0_
                  (try clear hb)
                  (try clear hb2)
                  (try clear hk)
                  (try clear hi)
                  refine hK.out _ _ ⟨((HB.out.cell (World.block_lt_of_cell? w _ hw109_0)).trans hw109_0), ((HB.out.cell (World.block_lt_of_cell? w _ hw109_1)).trans hw109_1), ((HB.out.cell (World.block_lt_of_cell? w _ hw109_2)).trans hw109_2), ((HB.out.cell (World.block_lt_of_cell? w _ hw109_3)).trans hw109_3)⟩ (fun hHeld => ?_)
                  clear hK K
                  refine norm_ (a' := ?_) ?_ ?_
                  rotate_left
                  · show Act.put _ (some 27) _ = _
                    simp only [Act.put, List.setIfInBounds_toArray, List.set_cons_zero, List.set_cons_succ, i64_w, i32_w]
                    rfl
                  refine pure_ (i := 7) (N := some 28) (v := ?_) (a' := ?_) #[true, true, true, true, true, true, true, true] rfl rfl (any_of HT_.out (by kernel_rfl)) (fun _ _ _ h => h) (Or.inl ⟨by rfl, ?_⟩) ?_ ?_
                  rotate_left
                  · intro w'
                    go_simp
                    with_reducible rfl
                  rotate_left
                  · simp only [Act.put, List.setIfInBounds_toArray, List.set_cons_zero, List.set_cons_succ, i64_w, i32_w]
                    rfl
                  refine done_ (done_of HT_.out (by kernel_rfl)) ?_
                  have p111 : 0 ≤ (x5_1 : Int) := of_decide_eq_true (by first | (with_reducible assumption) | assumption)
                  have q111 : x5_1 < (l0.length : Int) := of_decide_eq_true (by first | (with_reducible assumption) | assumption)
                  obtain ⟨ad111, A111_3, c111_3, e111, hx111_0, hx111_1, hx111_2, hx111_3, hl111_3, hi111_3⟩ := at_T24 HR0.out x5_1 p111 q111
                  obtain rfl : ad108 = ad111 := (by injection e111)
                  replace hx111_0 := (HB.out.cell (World.block_lt_of_cell? w _ hx111_0)).trans hx111_0
                  replace hx111_1 := (HB.out.cell (World.block_lt_of_cell? w _ hx111_1)).trans hx111_1
                  replace hx111_2 := (HB.out.cell (World.block_lt_of_cell? w _ hx111_2)).trans hx111_2
                  replace hx111_3 := (HB.out.cell (World.block_lt_of_cell? w _ hx111_3)).trans hx111_3
                  have HR111_3 := Aside0.mk hi111_3
                  have HC111_3 := Aside0.mk hl111_3
                  clear hi111_3 hl111_3
                  replace p111 := eq_true p111
                  replace q111 := eq_true q111
                  have p112 : 0 ≤ (x5_1 : Int) := of_decide_eq_true (by first | (with_reducible assumption) | assumption)
                  have q112 : x5_1 < (l0.length : Int) := of_decide_eq_true (by first | (with_reducible assumption) | assumption)
                  obtain ⟨ad112, A112_3, c112_3, e112, hx112_0, hx112_1, hx112_2, hx112_3, hl112_3, hi112_3⟩ := at_T24 HR0.out x5_1 p112 q112
                  obtain rfl : ad108 = ad112 := (by injection e112)
                  replace hx112_0 := (HB.out.cell (World.block_lt_of_cell? w _ hx112_0)).trans hx112_0
                  replace hx112_1 := (HB.out.cell (World.block_lt_of_cell? w _ hx112_1)).trans hx112_1
                  replace hx112_2 := (HB.out.cell (World.block_lt_of_cell? w _ hx112_2)).trans hx112_2
                  replace hx112_3 := (HB.out.cell (World.block_lt_of_cell? w _ hx112_3)).trans hx112_3
                  have HR112_3 := Aside0.mk hi112_3
                  have HC112_3 := Aside0.mk hl112_3
                  clear hi112_3 hl112_3
                  replace p112 := eq_true p112
                  replace q112 := eq_true q112
                  have ea_ := Option.some.inj (hx111_3.symm.trans hx112_3)
                  injection ea_ with ea_ en_ ec_
                  subst ea_
                  subst ec_
                  clear en_
                  have eb_ := Option.some.inj (hx112_3.symm.trans ((HB.out.cell (World.block_lt_of_cell? w _ hw109_3)).trans hw109_3))
                  injection eb_ with eb_ en_ ec_
                  subst eb_
                  subst ec_
                  clear en_
                  try go_wp2_with (first | ((with_reducible refine gate_callee (f := 16) rfl ?_); refine goesL_ (some 46) rfl rfl Tryd.func16 (by kernel_rfl) rfl #[.slice A111_3 ((rd_T24 l0 x5_1).f3).length c111_3, .int .i64 (wrap64 ((wrap64 ((wrap64 (x1_1 + 1)) + 1)) + 1))] rfl (by (try simp only [List.map_toArray, List.map_cons, List.map_nil]); first | done | rfl | (simp only [List.length_drop, List.length_take]; rfl)) ?_; (with_reducible refine (ih k1 (by have := HK1.out; omega) _ _ ((rd_T24 l0 x5_1).f3) (wrap64 ((wrap64 ((wrap64 (x1_1 + 1)) + 1)) + 1)) t113 _ ?side1 ?side2 A9.out).mono ?_); (case side1 => repeat (first | exact (Kd.C_below HR112_3.out HB.out) | (with_reducible refine Kd.C_alloc ?_ _) | (with_reducible refine Kd.C_drewN ?_ _) | (with_reducible refine Kd.C_drew ?_))); (case side2 => exact HC112_3.out); rintro e w16 ⟨rfl, hb⟩; refine ⟨_, rfl, ?_⟩; have n0_ := Aside0.mk (below_step (by repeat (first | (with_reducible first | exact HB.out | apply below_alloc | apply pw_below_drewN | apply below_drew1) | exact HB.out)) hb); clear HB; have HB := n0_; clear n0_; (try clear hb); (try clear hb2); (try clear hk); (try clear hi)))
                  go_roundg k1
                  case measure => have := HK1.out; omega
                  case rel => exact ⟨(t113), (wrap64 (x5_1 + 1)), (by first | rfl | (simp; done) | (simp [*]; done)), (by first | rfl | (simp; done) | (simp [*]; done)), H', ⟨by have := HK1.out; omega⟩, ⟨by repeat (first | (with_reducible first | exact HB.out | apply below_alloc | apply pw_below_drewN | apply below_drew1) | exact HB.out)⟩⟩
              · rw [if_neg c8] at H
                have c8b0 : (((rd_T24 l0 x5_1).f2) == (wrap64 ((wrap64 (x1_1 + 1)) + 1))) = false := beq_eq_false_iff_ne.mpr c8
                have c8b1 : (((rd_T24 l0 x5_1).f2) != (wrap64 ((wrap64 (x1_1 + 1)) + 1))) = true := bne_iff_ne.mpr c8
                obtain rfl := Option.some.inj H
                have p108 : 0 ≤ (x5_1 : Int) := of_decide_eq_true (by first | (with_reducible assumption) | assumption)
                have q108 : x5_1 < (l0.length : Int) := of_decide_eq_true (by first | (with_reducible assumption) | assumption)
                obtain ⟨ad108, A108_3, c108_3, e108, hx108_0, hx108_1, hx108_2, hx108_3, hl108_3, hi108_3⟩ := at_T24 HR0.out x5_1 p108 q108
                cases e108
                replace hx108_0 := (HB.out.cell (World.block_lt_of_cell? w _ hx108_0)).trans hx108_0
                replace hx108_1 := (HB.out.cell (World.block_lt_of_cell? w _ hx108_1)).trans hx108_1
                replace hx108_2 := (HB.out.cell (World.block_lt_of_cell? w _ hx108_2)).trans hx108_2
                replace hx108_3 := (HB.out.cell (World.block_lt_of_cell? w _ hx108_3)).trans hx108_3
                have HR108_3 := Aside0.mk hi108_3
                have HC108_3 := Aside0.mk hl108_3
                clear hi108_3 hl108_3
                replace p108 := eq_true p108
                replace q108 := eq_true q108
                try go_wp2
                have n0_ := Aside0.mk (below_drew1 HB.out)
                clear HB
                have HB := n0_
                clear n0_
                have p109 : 0 ≤ (x5_1 : Int) := of_decide_eq_true (by first | (with_reducible assumption) | assumption)
                have q109 : x5_1 < (l0.length : Int) := of_decide_eq_true (by first | (with_reducible assumption) | assumption)
                obtain ⟨ad109, A109_3, c109_3, e109, hx109_0, hx109_1, hx109_2, hx109_3, hl109_3, hi109_3⟩ := at_T24 HR0.out x5_1 p109 q109
                have hw109_3 := hx109_3
                have hw109_2 := hx109_2
                have hw109_1 := hx109_1
                have hw109_0 := hx109_0
                obtain rfl : ad108 = ad109 := (by injection e109)
                replace hx109_0 := (HB.out.cell (World.block_lt_of_cell? w _ hx109_0)).trans hx109_0
                replace hx109_1 := (HB.out.cell (World.block_lt_of_cell? w _ hx109_1)).trans hx109_1
                replace hx109_2 := (HB.out.cell (World.block_lt_of_cell? w _ hx109_2)).trans hx109_2
                replace hx109_3 := (HB.out.cell (World.block_lt_of_cell? w _ hx109_3)).trans hx109_3
                have HR109_3 := Aside0.mk hi109_3
                have HC109_3 := Aside0.mk hl109_3
                clear hi109_3 hl109_3
                replace p109 := eq_true p109
                replace q109 := eq_true q109
                refine start_ (n := 8) (S := fun w' => w'.cell? (ad108.add ((x5_1).toNat * 4)) = some (.int .i64 ((rd_T24 l0 x5_1).f0)) ∧ w'.cell? ⟨(ad108.add ((x5_1).toNat * 4)).block, (ad108.add ((x5_1).toNat * 4)).off + 1, none⟩ = some (.string ((rd_T24 l0 x5_1).f1)) ∧ w'.cell? ⟨(ad108.add ((x5_1).toNat * 4)).block, (ad108.add ((x5_1).toNat * 4)).off + 2, none⟩ = some (.int .i64 ((rd_T24 l0 x5_1).f2)) ∧ w'.cell? ⟨(ad108.add ((x5_1).toNat * 4)).block, (ad108.add ((x5_1).toNat * 4)).off + 3, none⟩ = some (.slice A109_3 ((rd_T24 l0 x5_1).f3).length c109_3)) (ds := []) #[false, false, false, false, false, false, false, false] (by kernel_rfl) rfl rfl ⟨((HB.out.cell (World.block_lt_of_cell? w _ hw109_0)).trans hw109_0), ((HB.out.cell (World.block_lt_of_cell? w _ hw109_1)).trans hw109_1), ((HB.out.cell (World.block_lt_of_cell? w _ hw109_2)).trans hw109_2), ((HB.out.cell (World.block_lt_of_cell? w _ hw109_3)).trans hw109_3)⟩ (fun hHeld => ?_); refine with_tabW laws_heldTermS.tab7 laws_heldTermS.bits7 (fun HT_ HW_ => ?_)
                generalize wr.drew = w17 at HB HR109_3 hx109_0 hx109_1 hx109_2 hx109_3 hHeld ⊢
                refine pure_ (i := 0) (N := some 21) (v := ?_) (a' := ?_) #[true, false, false, false, false, false, false, false] rfl rfl (any_of HT_.out (by kernel_rfl)) (fun _ _ _ h => h) (Or.inl ⟨by rfl, ?_⟩) ?_ ?_
                rotate_left
                · intro w'
                  go_simp
                  with_reducible rfl
                rotate_left
                · simp only [Act.put, List.setIfInBounds_toArray, List.set_cons_zero, List.set_cons_succ, i64_w, i32_w]
                  rfl
                refine pure_ (i := 1) (N := some 22) (v := ?_) (a' := ?_) #[true, true, false, false, false, false, false, false] rfl rfl (any_of HT_.out (by kernel_rfl)) (fun _ _ _ h => h) (Or.inl ⟨by rfl, ?_⟩) ?_ ?_
                rotate_left
                · intro w'
                  go_simp
                  with_reducible rfl
                rotate_left
                · simp only [Act.put, List.setIfInBounds_toArray, List.set_cons_zero, List.set_cons_succ, i64_w, i32_w]
                  rfl
                refine pure_ (i := 2) (N := some 23) (v := ?_) (a' := ?_) #[true, true, true, false, false, false, false, false] rfl rfl (any_of HT_.out (by kernel_rfl)) (fun _ _ _ h => h) (Or.inl ⟨by rfl, ?_⟩) ?_ ?_
                rotate_left
                · intro w'
                  go_simp
                  with_reducible rfl
                rotate_left
                · simp only [Act.put, List.setIfInBounds_toArray, List.set_cons_zero, List.set_cons_succ, i64_w, i32_w]
                  rfl
                refine pure_ (i := 3) (N := some 24) (v := ?_) (a' := ?_) #[true, true, true, true, false, false, false, false] rfl rfl (any_of HT_.out (by kernel_rfl)) (fun _ _ _ h => h) (Or.inl ⟨by rfl, ?_⟩) ?_ ?_
                rotate_left
                · intro w'
                  go_simp
                  with_reducible rfl
                rotate_left
                · simp only [Act.put, List.setIfInBounds_toArray, List.set_cons_zero, List.set_cons_succ, i64_w, i32_w]
                  rfl
                refine pure_ (i := 5) (N := some 26) (v := ?_) (a' := ?_) #[true, true, true, true, false, true, false, false] rfl rfl (any_of HT_.out (by kernel_rfl)) (fun _ _ _ h => h) (Or.inl ⟨by rfl, ?_⟩) ?_ ?_
                rotate_left
                · intro w'
                  go_simp
                  with_reducible rfl
                rotate_left
                · simp only [Act.put, List.setIfInBounds_toArray, List.set_cons_zero, List.set_cons_succ, i64_w, i32_w]
                  rfl
                refine take_ (i := 4) (N := some 25) (v := ?_) (a' := ?_) #[true, true, true, true, true, true, false, false] rfl rfl (take_ofW HT_.out HW_.out (by kernel_rfl)) (fun _ _ _ h => h) (Or.inl ⟨by rfl, ?_⟩) hHeld ?_ ?_
                rotate_left
                · rintro w' ⟨s0, s1, s2, s3⟩
                  go_simp
                  with_reducible rfl
                rotate_left
                · simp only [Act.put, List.setIfInBounds_toArray, List.set_cons_zero, List.set_cons_succ, i64_w, i32_w]
                  rfl
                refine one_ (i := 6) (N := some 27) #[true, true, true, true, true, true, true, false] rfl rfl (one_of HT_.out (by kernel_rfl)) (by decide) (fun K hK => ?_)
                refine goes_ Tryd.func20 (by kernel_rfl) rfl #[.int .i64 (wrap64 (x1_1 + 1))] (by rfl) rfl rfl (by (try simp only [List.map_toArray, List.map_cons, List.map_nil]); first | done | rfl | (simp only [List.length_drop, List.length_take]; rfl)) ?_
                with_reducible refine (laws_markText.calls k1 (wrap64 (x1_1 + 1)) t110 _ A6.out).mono ?_
                rintro e w18 ⟨rfl, hb⟩
                refine ⟨_, rfl, ?_⟩
                have n0_ := Aside0.mk (below_step (by repeat (first | (with_reducible first | exact HB.out | apply below_alloc | apply pw_below_drewN | apply below_drew1) | exact HB.out)) hb)
                clear HB
                have HB := n0_
                clear n0_
                (try clear hb)
                (try clear hb2)
                (try clear hk)
                (try clear hi)
                refine hK.out _ _ ⟨((HB.out.cell (World.block_lt_of_cell? w _ hw109_0)).trans hw109_0), ((HB.out.cell (World.block_lt_of_cell? w _ hw109_1)).trans hw109_1), ((HB.out.cell (World.block_lt_of_cell? w _ hw109_2)).trans hw109_2), ((HB.out.cell (World.block_lt_of_cell? w _ hw109_3)).trans hw109_3)⟩ (fun hHeld => ?_)
                clear hK K
                refine norm_ (a' := ?_) ?_ ?_
                rotate_left
                · show Act.put _ (some 27) _ = _
                  simp only [Act.put, List.setIfInBounds_toArray, List.set_cons_zero, List.set_cons_succ, i64_w, i32_w]
                  rfl
                refine pure_ (i := 7) (N := some 28) (v := ?_) (a' := ?_) #[true, true, true, true, true, true, true, true] rfl rfl (any_of HT_.out (by kernel_rfl)) (fun _ _ _ h => h) (Or.inl ⟨by rfl, ?_⟩) ?_ ?_
                rotate_left
                · intro w'
                  go_simp
                  with_reducible rfl
                rotate_left
                · simp only [Act.put, List.setIfInBounds_toArray, List.set_cons_zero, List.set_cons_succ, i64_w, i32_w]
                  rfl
                refine done_ (done_of HT_.out (by kernel_rfl)) ?_
                have p111 : 0 ≤ (x5_1 : Int) := of_decide_eq_true (by first | (with_reducible assumption) | assumption)
                have q111 : x5_1 < (l0.length : Int) := of_decide_eq_true (by first | (with_reducible assumption) | assumption)
                obtain ⟨ad111, A111_3, c111_3, e111, hx111_0, hx111_1, hx111_2, hx111_3, hl111_3, hi111_3⟩ := at_T24 HR0.out x5_1 p111 q111
                obtain rfl : ad108 = ad111 := (by injection e111)
                replace hx111_0 := (HB.out.cell (World.block_lt_of_cell? w _ hx111_0)).trans hx111_0
                replace hx111_1 := (HB.out.cell (World.block_lt_of_cell? w _ hx111_1)).trans hx111_1
                replace hx111_2 := (HB.out.cell (World.block_lt_of_cell? w _ hx111_2)).trans hx111_2
                replace hx111_3 := (HB.out.cell (World.block_lt_of_cell? w _ hx111_3)).trans hx111_3
                have HR111_3 := Aside0.mk hi111_3
                have HC111_3 := Aside0.mk hl111_3
                clear hi111_3 hl111_3
                replace p111 := eq_true p111
                replace q111 := eq_true q111
                try go_wp2
                go_ret
                exact ⟨by first | rfl | (simp [errW_none, errW_some] <;> rfl) | (simp [*, errW_none, errW_some] <;> rfl), by repeat (first | (with_reducible first | exact HB.out | apply below_alloc | apply pw_below_drewN | apply below_drew1) | exact HB.out)⟩
            · rw [if_neg c7] at H
              have c7b0 : (((rd_T24 l0 x5_1).f1).toList == t110.toList) = false := beq_eq_false_iff_ne.mpr c7
              have c7b1 : (((rd_T24 l0 x5_1).f1).toList != t110.toList) = true := bne_iff_ne.mpr c7
              obtain rfl := Option.some.inj H
              have p108 : 0 ≤ (x5_1 : Int) := of_decide_eq_true (by first | (with_reducible assumption) | assumption)
              have q108 : x5_1 < (l0.length : Int) := of_decide_eq_true (by first | (with_reducible assumption) | assumption)
              obtain ⟨ad108, A108_3, c108_3, e108, hx108_0, hx108_1, hx108_2, hx108_3, hl108_3, hi108_3⟩ := at_T24 HR0.out x5_1 p108 q108
              cases e108
              replace hx108_0 := (HB.out.cell (World.block_lt_of_cell? w _ hx108_0)).trans hx108_0
              replace hx108_1 := (HB.out.cell (World.block_lt_of_cell? w _ hx108_1)).trans hx108_1
              replace hx108_2 := (HB.out.cell (World.block_lt_of_cell? w _ hx108_2)).trans hx108_2
              replace hx108_3 := (HB.out.cell (World.block_lt_of_cell? w _ hx108_3)).trans hx108_3
              have HR108_3 := Aside0.mk hi108_3
              have HC108_3 := Aside0.mk hl108_3
              clear hi108_3 hl108_3
              replace p108 := eq_true p108
              replace q108 := eq_true q108
              try go_wp2
              have n0_ := Aside0.mk (below_drew1 HB.out)
              clear HB
              have HB := n0_
              clear n0_
              have p109 : 0 ≤ (x5_1 : Int) := of_decide_eq_true (by first | (with_reducible assumption) | assumption)
              have q109 : x5_1 < (l0.length : Int) := of_decide_eq_true (by first | (with_reducible assumption) | assumption)
              obtain ⟨ad109, A109_3, c109_3, e109, hx109_0, hx109_1, hx109_2, hx109_3, hl109_3, hi109_3⟩ := at_T24 HR0.out x5_1 p109 q109
              have hw109_3 := hx109_3
              have hw109_2 := hx109_2
              have hw109_1 := hx109_1
              have hw109_0 := hx109_0
              obtain rfl : ad108 = ad109 := (by injection e109)
              replace hx109_0 := (HB.out.cell (World.block_lt_of_cell? w _ hx109_0)).trans hx109_0
              replace hx109_1 := (HB.out.cell (World.block_lt_of_cell? w _ hx109_1)).trans hx109_1
              replace hx109_2 := (HB.out.cell (World.block_lt_of_cell? w _ hx109_2)).trans hx109_2
              replace hx109_3 := (HB.out.cell (World.block_lt_of_cell? w _ hx109_3)).trans hx109_3
              have HR109_3 := Aside0.mk hi109_3
              have HC109_3 := Aside0.mk hl109_3
              clear hi109_3 hl109_3
              replace p109 := eq_true p109
              replace q109 := eq_true q109
              refine start_ (n := 8) (S := fun w' => w'.cell? (ad108.add ((x5_1).toNat * 4)) = some (.int .i64 ((rd_T24 l0 x5_1).f0)) ∧ w'.cell? ⟨(ad108.add ((x5_1).toNat * 4)).block, (ad108.add ((x5_1).toNat * 4)).off + 1, none⟩ = some (.string ((rd_T24 l0 x5_1).f1)) ∧ w'.cell? ⟨(ad108.add ((x5_1).toNat * 4)).block, (ad108.add ((x5_1).toNat * 4)).off + 2, none⟩ = some (.int .i64 ((rd_T24 l0 x5_1).f2)) ∧ w'.cell? ⟨(ad108.add ((x5_1).toNat * 4)).block, (ad108.add ((x5_1).toNat * 4)).off + 3, none⟩ = some (.slice A109_3 ((rd_T24 l0 x5_1).f3).length c109_3)) (ds := []) #[false, false, false, false, false, false, false, false] (by kernel_rfl) rfl rfl ⟨((HB.out.cell (World.block_lt_of_cell? w _ hw109_0)).trans hw109_0), ((HB.out.cell (World.block_lt_of_cell? w _ hw109_1)).trans hw109_1), ((HB.out.cell (World.block_lt_of_cell? w _ hw109_2)).trans hw109_2), ((HB.out.cell (World.block_lt_of_cell? w _ hw109_3)).trans hw109_3)⟩ (fun hHeld => ?_); refine with_tabW laws_heldTermS.tab7 laws_heldTermS.bits7 (fun HT_ HW_ => ?_)
              generalize wr.drew = w19 at HB HR109_3 hx109_0 hx109_1 hx109_2 hx109_3 hHeld ⊢
              refine pure_ (i := 0) (N := some 21) (v := ?_) (a' := ?_) #[true, false, false, false, false, false, false, false] rfl rfl (any_of HT_.out (by kernel_rfl)) (fun _ _ _ h => h) (Or.inl ⟨by rfl, ?_⟩) ?_ ?_
              rotate_left
              · intro w'
                go_simp
                with_reducible rfl
              rotate_left
              · simp only [Act.put, List.setIfInBounds_toArray, List.set_cons_zero, List.set_cons_succ, i64_w, i32_w]
                rfl
              refine pure_ (i := 1) (N := some 22) (v := ?_) (a' := ?_) #[true, true, false, false, false, false, false, false] rfl rfl (any_of HT_.out (by kernel_rfl)) (fun _ _ _ h => h) (Or.inl ⟨by rfl, ?_⟩) ?_ ?_
              rotate_left
              · intro w'
                go_simp
                with_reducible rfl
              rotate_left
              · simp only [Act.put, List.setIfInBounds_toArray, List.set_cons_zero, List.set_cons_succ, i64_w, i32_w]
                rfl
              refine pure_ (i := 2) (N := some 23) (v := ?_) (a' := ?_) #[true, true, true, false, false, false, false, false] rfl rfl (any_of HT_.out (by kernel_rfl)) (fun _ _ _ h => h) (Or.inl ⟨by rfl, ?_⟩) ?_ ?_
              rotate_left
              · intro w'
                go_simp
                with_reducible rfl
              rotate_left
              · simp only [Act.put, List.setIfInBounds_toArray, List.set_cons_zero, List.set_cons_succ, i64_w, i32_w]
                rfl
              refine pure_ (i := 3) (N := some 24) (v := ?_) (a' := ?_) #[true, true, true, true, false, false, false, false] rfl rfl (any_of HT_.out (by kernel_rfl)) (fun _ _ _ h => h) (Or.inl ⟨by rfl, ?_⟩) ?_ ?_
              rotate_left
              · intro w'
                go_simp
                with_reducible rfl
              rotate_left
              · simp only [Act.put, List.setIfInBounds_toArray, List.set_cons_zero, List.set_cons_succ, i64_w, i32_w]
                rfl
              refine pure_ (i := 5) (N := some 26) (v := ?_) (a' := ?_) #[true, true, true, true, false, true, false, false] rfl rfl (any_of HT_.out (by kernel_rfl)) (fun _ _ _ h => h) (Or.inl ⟨by rfl, ?_⟩) ?_ ?_
              rotate_left
              · intro w'
                go_simp
                with_reducible rfl
              rotate_left
              · simp only [Act.put, List.setIfInBounds_toArray, List.set_cons_zero, List.set_cons_succ, i64_w, i32_w]
                rfl
              refine take_ (i := 4) (N := some 25) (v := ?_) (a' := ?_) #[true, true, true, true, true, true, false, false] rfl rfl (take_ofW HT_.out HW_.out (by kernel_rfl)) (fun _ _ _ h => h) (Or.inl ⟨by rfl, ?_⟩) hHeld ?_ ?_
              rotate_left
              · rintro w' ⟨s0, s1, s2, s3⟩
                go_simp
                with_reducible rfl
              rotate_left
              · simp only [Act.put, List.setIfInBounds_toArray, List.set_cons_zero, List.set_cons_succ, i64_w, i32_w]
                rfl
              refine one_ (i := 6) (N := some 27) #[true, true, true, true, true, true, true, false] rfl rfl (one_of HT_.out (by kernel_rfl)) (by decide) (fun K hK => ?_)
              refine goes_ Tryd.func20 (by kernel_rfl) rfl #[.int .i64 (wrap64 (x1_1 + 1))] (by rfl) rfl rfl (by (try simp only [List.map_toArray, List.map_cons, List.map_nil]); first | done | rfl | (simp only [List.length_drop, List.length_take]; rfl)) ?_
              with_reducible refine (laws_markText.calls k1 (wrap64 (x1_1 + 1)) t110 _ A6.out).mono ?_
              rintro e w20 ⟨rfl, hb⟩
              refine ⟨_, rfl, ?_⟩
              have n0_ := Aside0.mk (below_step (by repeat (first | (with_reducible first | exact HB.out | apply below_alloc | apply pw_below_drewN | apply below_drew1) | exact HB.out)) hb)
              clear HB
              have HB := n0_
              clear n0_
              (try clear hb)
              (try clear hb2)
              (try clear hk)
              (try clear hi)
              refine hK.out _ _ ⟨((HB.out.cell (World.block_lt_of_cell? w _ hw109_0)).trans hw109_0), ((HB.out.cell (World.block_lt_of_cell? w _ hw109_1)).trans hw109_1), ((HB.out.cell (World.block_lt_of_cell? w _ hw109_2)).trans hw109_2), ((HB.out.cell (World.block_lt_of_cell? w _ hw109_3)).trans hw109_3)⟩ (fun hHeld => ?_)
              clear hK K
              refine norm_ (a' := ?_) ?_ ?_
              rotate_left
              · show Act.put _ (some 27) _ = _
                simp only [Act.put, List.setIfInBounds_toArray, List.set_cons_zero, List.set_cons_succ, i64_w, i32_w]
                rfl
              refine pure_ (i := 7) (N := some 28) (v := ?_) (a' := ?_) #[true, true, true, true, true, true, true, true] rfl rfl (any_of HT_.out (by kernel_rfl)) (fun _ _ _ h => h) (Or.inl ⟨by rfl, ?_⟩) ?_ ?_
              rotate_left
              · intro w'
                go_simp
                with_reducible rfl
              rotate_left
              · simp only [Act.put, List.setIfInBounds_toArray, List.set_cons_zero, List.set_cons_succ, i64_w, i32_w]
                rfl
              refine done_ (done_of HT_.out (by kernel_rfl)) ?_
              try go_wp2
              go_ret
              exact ⟨by first | rfl | (simp [errW_none, errW_some] <;> rfl) | (simp [*, errW_none, errW_some] <;> rfl), by repeat (first | (with_reducible first | exact HB.out | apply below_alloc | apply pw_below_drewN | apply below_drew1) | exact HB.out)⟩
          · rw [if_neg c5] at H
            have c5b0 : (((rd_T24 l0 x5_1).f0) == x1_1) = false := beq_eq_false_iff_ne.mpr c5
            have c5b1 : (((rd_T24 l0 x5_1).f0) != x1_1) = true := bne_iff_ne.mpr c5
            obtain rfl := Option.some.inj H
            have p108 : 0 ≤ (x5_1 : Int) := of_decide_eq_true (by first | (with_reducible assumption) | assumption)
            have q108 : x5_1 < (l0.length : Int) := of_decide_eq_true (by first | (with_reducible assumption) | assumption)
            obtain ⟨ad108, A108_3, c108_3, e108, hx108_0, hx108_1, hx108_2, hx108_3, hl108_3, hi108_3⟩ := at_T24 HR0.out x5_1 p108 q108
            cases e108
            replace hx108_0 := (HB.out.cell (World.block_lt_of_cell? w _ hx108_0)).trans hx108_0
            replace hx108_1 := (HB.out.cell (World.block_lt_of_cell? w _ hx108_1)).trans hx108_1
            replace hx108_2 := (HB.out.cell (World.block_lt_of_cell? w _ hx108_2)).trans hx108_2
            replace hx108_3 := (HB.out.cell (World.block_lt_of_cell? w _ hx108_3)).trans hx108_3
            have HR108_3 := Aside0.mk hi108_3
            have HC108_3 := Aside0.mk hl108_3
            clear hi108_3 hl108_3
            replace p108 := eq_true p108
            replace q108 := eq_true q108
            go_wp2
            go_ret
            exact ⟨by first | rfl | (simp [errW_none, errW_some] <;> rfl) | (simp [*, errW_none, errW_some] <;> rfl), by repeat (first | (with_reducible first | exact HB.out | apply below_alloc | apply pw_below_drewN | apply below_drew1) | exact HB.out)⟩
        · rw [if_neg c4] at H
          exact absurd H (by simp)
      · rw [if_neg c3] at H
        have c3b0 : decide (x5_1 < (l0.length : Int)) = false := decide_eq_false c3
        clear c3
        obtain rfl := Option.some.inj H
        go_wp2
        go_ret
        exact ⟨by first | rfl | (simp [errW_none, errW_some] <;> rfl) | (simp [*, errW_none, errW_some] <;> rfl), by repeat (first | (with_reducible first | exact HB.out | apply below_alloc | apply pw_below_drewN | apply below_drew1) | exact HB.out)⟩

end Go.Proofs.YtfnkobcmhbdcoabDoor.XTm
end
section
-- Written by this session's program xprint.py out of the translation; not trusted: Lean checks it.


namespace Go.Proofs.YtfnkobcmhbdcoabDoor.XTm
open Go.RowKit Go.Proofs.YtfnkobcmhbdcoabDoorW.PrintWords Go.Proofs.YtfnkobcmhbdcoabDoorW.PrintLast Go.Proofs.YtfnkobcmhbdcoabDoorW.PrintMore
attribute [local go_sem] max2_int min2_int max_two min_two max_three min_three max_four min_four   -- for this text's walks alone
set_option linter.unusedVariables false
set_option linter.unusedSimpArgs false
open Go.Proofs.YtfnkobcmhbdcoabDoor.XTypes

/-! ### laws_heldTerm: function 9 -/
def laws_heldTerm.f (k : Nat) (a0_0 : Int) (a0_1 : ByteArray) (a0_2 : Int) (l0_3 : List (S24)) (a1 : Int) : Option (Int) := (laws_heldTermS.f k l0_3 a1).bind fun t115 => (if t115 < 0 then (some (-1)) else (some t115))
theorem laws_heldTerm.mono : ∀ a0 a1 a2 a3 a4 k, LeO (laws_heldTerm.f k a0 a1 a2 a3 a4) (laws_heldTerm.f (k + 1) a0 a1 a2 a3 a4) := by
  intro a0 a1 a2 a3 a4 k
  unfold laws_heldTerm.f
  repeat' first
      | (with_reducible exact laws_heldTermS.mono _ _ _)
      | (with_reducible exact LeO.refl _)
      | (with_reducible exact LeO.none _)
      | (with_reducible refine LeO.ite ?_ ?_)
      | (with_reducible refine LeO.bind ?_ (fun _ => ?_))
      | exact laws_heldTermS.mono _ _ _
      | exact LeO.none _
      | refine LeO.ite ?_ ?_
      | refine LeO.bind ?_ (fun _ => ?_)
set_option maxHeartbeats 8000000 in
set_option maxRecDepth 100000 in
theorem laws_heldTerm.calls (k : Nat) (a0_0 : Int) (a0_1 : ByteArray) (a0_2 : Int) (A0_3 : Option Addr) (c0_3 : Nat) (l0_3 : List (S24)) (a1 : Int) (r : Int) (w : World) (hr0_3 : Kd.C k24 w A0_3 l0_3.length l0_3) (hc0_3 : l0_3.length ≤ c0_3) (h : laws_heldTerm.f k a0_0 a0_1 a0_2 l0_3 a1 = some r) :
    Calls Tryd.prog 9 #[.agg #[.int .i64 a0_0, .string a0_1, .int .i64 a0_2, .slice A0_3 l0_3.length c0_3], .int .i64 a1] w fun e w' => e = .returned (.int .i64 r) ∧ Below w.heap.size w w' := by
  have hu24 := Tryd.underlying24
  have HR0_3 := Aside0.mk hr0_3
  have HC0_3 := Aside0.mk hc0_3
  clear hr0_3 hc0_3
  have HB := Aside0.mk (Below.refl w.heap.size w)
  have H : ((laws_heldTermS.f k l0_3 a1).bind fun t115 => (if t115 < 0 then (some (-1)) else (some t115))) = some r := h
  clear h
  replace H := Option.bind_eq_some_iff.mp H
  obtain ⟨t115, A30, H⟩ := H
  replace H : (if t115 < 0 then (some (-1)) else (some t115)) = some r := H
  have A3 := Aside0.mk A30
  clear A30
  by_cases c4 : t115 < 0
  · rw [if_pos c4] at H
    have c4b0 : decide (t115 < 0) = true := decide_eq_true c4
    clear c4
    obtain rfl := Option.some.inj H
    go_enter Tryd.func9, Tryd.ntmps9
    go_wp2_with (first | ((with_reducible refine gate_dst (N := 2) rfl ?_); refine box_event ?hg (N := 2) ?hd (cs := #[.int .i64 a0_0, .string a0_1, .int .i64 a0_2, .slice A0_3 l0_3.length c0_3]) (t := 24) ?hr ?_; (case hd => rfl); (case hg => rfl); (case hr => first | (go_simp; done) | (go_simp; rfl)); intro gb114 hg w5 hbox hb; have n0_ := Aside0.mk (below_step (by repeat (first | (with_reducible first | exact HB.out | apply below_alloc | apply pw_below_drewN | apply below_drew1) | exact HB.out)) hb); have n1_ := Aside0.mk (hbox); have n2_ := Aside0.mk ((by rw [hg]; exact (below_size (by repeat (first | (with_reducible first | exact HB.out | apply below_alloc | apply pw_below_drewN | apply below_drew1) | exact HB.out))) : w.heap.size ≤ gb114)); have n3_ := Aside0.mk ((by rw [hg]; exact (below_size (by repeat (first | (with_reducible first | exact HB.out | apply below_alloc | apply pw_below_drewN | apply below_drew1) | exact HB.out))) : w.heap.size ≤ gb114)); clear HB; have HB := n0_; have BK114 := n1_; have GW114 := n2_; have GE114 := n3_; clear n0_ n1_ n2_ n3_; clear hb hbox hg; have hcz6_0 : w5.cell? ⟨gb114, 0, none⟩ = some (.int .i64 a0_0) := (blk_cell BK114.out 0).trans rfl; have hcz6_1 : w5.cell? ⟨gb114, 1, none⟩ = some (.string a0_1) := (blk_cell BK114.out 1).trans rfl; have hcz6_2 : w5.cell? ⟨gb114, 2, none⟩ = some (.int .i64 a0_2) := (blk_cell BK114.out 2).trans rfl; have hcz6_3 : w5.cell? ⟨gb114, 3, none⟩ = some (.slice A0_3 l0_3.length c0_3) := (blk_cell BK114.out 3).trans rfl; have hfz6_0 := blk_frozen BK114.out 0; have hfz6_1 := blk_frozen BK114.out 1; have hfz6_2 := blk_frozen BK114.out 2; have hfz6_3 := blk_frozen BK114.out 3) | ((with_reducible refine gate_callee (f := 16) rfl ?_); refine goesL_ (some 8) rfl rfl Tryd.func16 (by kernel_rfl) rfl #[.slice A0_3 l0_3.length c0_3, .int .i64 a1] rfl (by (try simp only [List.map_toArray, List.map_cons, List.map_nil]); first | done | rfl | (simp only [List.length_drop, List.length_take]; rfl)) ?_; (with_reducible refine (laws_heldTermS.calls k _ _ l0_3 a1 t115 _ ?side1 ?side2 A3.out).mono ?_); (case side1 => repeat (first | exact (Kd.C_below HR0_3.out HB.out) | (with_reducible refine Kd.C_alloc ?_ _) | (with_reducible refine Kd.C_drewN ?_ _) | (with_reducible refine Kd.C_drew ?_))); (case side2 => exact HC0_3.out); rintro e w7 ⟨rfl, hb⟩; refine ⟨_, rfl, ?_⟩; have n0_ := Aside0.mk (blk_below (g := gb114) (o := .cells #[.int .i64 a0_0, .string a0_1, .int .i64 a0_2, .slice A0_3 l0_3.length c0_3] 24 (0, 0)) (by (with_reducible repeat (first | refine blk_drewN ?_ _ | refine blk_drew ?_ | refine blk_alloc ?_ _)); exact BK114.out) hb); have n1_ := Aside0.mk (below_step (by repeat (first | (with_reducible first | exact HB.out | apply below_alloc | apply pw_below_drewN | apply below_drew1 | refine below_set ?_ GE114.out) | exact HB.out)) hb); clear BK114; clear HB; have BK114 := n0_; have HB := n1_; clear n0_ n1_; (try clear hb); (try clear hb2); (try clear hk); (try clear hi)))
    go_ret
    exact ⟨by first | rfl | (simp [errW_none, errW_some] <;> rfl) | (simp [*, errW_none, errW_some] <;> rfl), by repeat (first | (with_reducible first | exact HB.out | apply below_alloc | apply pw_below_drewN | apply below_drew1 | refine below_set ?_ GE114.out) | exact HB.out)⟩
  · rw [if_neg c4] at H
    have c4b0 : decide (t115 < 0) = false := decide_eq_false c4
    clear c4
    obtain rfl := Option.some.inj H
    go_enter Tryd.func9, Tryd.ntmps9
    go_wp2_with (first | ((with_reducible refine gate_dst (N := 2) rfl ?_); refine box_event ?hg (N := 2) ?hd (cs := #[.int .i64 a0_0, .string a0_1, .int .i64 a0_2, .slice A0_3 l0_3.length c0_3]) (t := 24) ?hr ?_; (case hd => rfl); (case hg => rfl); (case hr => first | (go_simp; done) | (go_simp; rfl)); intro gb114 hg w8 hbox hb; have n0_ := Aside0.mk (below_step (by repeat (first | (with_reducible first | exact HB.out | apply below_alloc | apply pw_below_drewN | apply below_drew1) | exact HB.out)) hb); have n1_ := Aside0.mk (hbox); have n2_ := Aside0.mk ((by rw [hg]; exact (below_size (by repeat (first | (with_reducible first | exact HB.out | apply below_alloc | apply pw_below_drewN | apply below_drew1) | exact HB.out))) : w.heap.size ≤ gb114)); have n3_ := Aside0.mk ((by rw [hg]; exact (below_size (by repeat (first | (with_reducible first | exact HB.out | apply below_alloc | apply pw_below_drewN | apply below_drew1) | exact HB.out))) : w.heap.size ≤ gb114)); clear HB; have HB := n0_; have BK114 := n1_; have GW114 := n2_; have GE114 := n3_; clear n0_ n1_ n2_ n3_; clear hb hbox hg; have hcz9_0 : w8.cell? ⟨gb114, 0, none⟩ = some (.int .i64 a0_0) := (blk_cell BK114.out 0).trans rfl; have hcz9_1 : w8.cell? ⟨gb114, 1, none⟩ = some (.string a0_1) := (blk_cell BK114.out 1).trans rfl; have hcz9_2 : w8.cell? ⟨gb114, 2, none⟩ = some (.int .i64 a0_2) := (blk_cell BK114.out 2).trans rfl; have hcz9_3 : w8.cell? ⟨gb114, 3, none⟩ = some (.slice A0_3 l0_3.length c0_3) := (blk_cell BK114.out 3).trans rfl; have hfz9_0 := blk_frozen BK114.out 0; have hfz9_1 := blk_frozen BK114.out 1; have hfz9_2 := blk_frozen BK114.out 2; have hfz9_3 := blk_frozen BK114.out 3) | ((with_reducible refine gate_callee (f := 16) rfl ?_); refine goesL_ (some 8) rfl rfl Tryd.func16 (by kernel_rfl) rfl #[.slice A0_3 l0_3.length c0_3, .int .i64 a1] rfl (by (try simp only [List.map_toArray, List.map_cons, List.map_nil]); first | done | rfl | (simp only [List.length_drop, List.length_take]; rfl)) ?_; (with_reducible refine (laws_heldTermS.calls k _ _ l0_3 a1 t115 _ ?side1 ?side2 A3.out).mono ?_); (case side1 => repeat (first | exact (Kd.C_below HR0_3.out HB.out) | (with_reducible refine Kd.C_alloc ?_ _) | (with_reducible refine Kd.C_drewN ?_ _) | (with_reducible refine Kd.C_drew ?_))); (case side2 => exact HC0_3.out); rintro e w10 ⟨rfl, hb⟩; refine ⟨_, rfl, ?_⟩; have n0_ := Aside0.mk (blk_below (g := gb114) (o := .cells #[.int .i64 a0_0, .string a0_1, .int .i64 a0_2, .slice A0_3 l0_3.length c0_3] 24 (0, 0)) (by (with_reducible repeat (first | refine blk_drewN ?_ _ | refine blk_drew ?_ | refine blk_alloc ?_ _)); exact BK114.out) hb); have n1_ := Aside0.mk (below_step (by repeat (first | (with_reducible first | exact HB.out | apply below_alloc | apply pw_below_drewN | apply below_drew1 | refine below_set ?_ GE114.out) | exact HB.out)) hb); clear BK114; clear HB; have BK114 := n0_; have HB := n1_; clear n0_ n1_; (try clear hb); (try clear hb2); (try clear hk); (try clear hi)))
    go_ret
    exact ⟨by first | rfl | (simp [errW_none, errW_some] <;> rfl) | (simp [*, errW_none, errW_some] <;> rfl), by repeat (first | (with_reducible first | exact HB.out | apply below_alloc | apply pw_below_drewN | apply below_drew1 | refine below_set ?_ GE114.out) | exact HB.out)⟩

-- NOT PRINTED: function 15 (laws_markTermS)

-- NOT PRINTED: function 8 (laws_markTerm)

/-! ### spec_l36Letter: function 12 -/
def spec_l36Letter.f (a0 : Int) (a1 : Int) : Option (Int) := if a0 < 97 then (some (-1)) else (if a0 > 99 then (some (-1)) else (some (wrap64 (a1 + ((a0 - 97) % 256)))))
set_option maxHeartbeats 8000000 in
set_option maxRecDepth 100000 in
theorem spec_l36Letter.calls (a0 : Int) (a1 : Int) (r : Int) (w : World) (h : spec_l36Letter.f a0 a1 = some r) :
    Calls Tryd.prog 12 #[.int .u8 a0, .int .i64 a1] w fun e w' => e = .returned (.int .i64 r) ∧ Drawn0 w w' := by
  have H : (if a0 < 97 then (some (-1)) else (if a0 > 99 then (some (-1)) else (some (wrap64 (a1 + ((a0 - 97) % 256)))))) = some r := h
  clear h
  by_cases c3 : a0 < 97
  · rw [if_pos c3] at H
    have c3b0 : decide (a0 < 97) = true := decide_eq_true c3
    clear c3
    obtain rfl := Option.some.inj H
    go_enter Tryd.func12, Tryd.ntmps12
    go_wp2
    go_ret
    exact ⟨by first | rfl | (simp; done) | (simp [*]; done), by repeat (first | exact Drawn0.refl _ | apply Drawn0.step)⟩
  · rw [if_neg c3] at H
    have c3b0 : decide (a0 < 97) = false := decide_eq_false c3
    clear c3
    by_cases c4 : a0 > 99
    · rw [if_pos c4] at H
      have c4b0 : decide (99 < a0) = true := decide_eq_true c4
      clear c4
      obtain rfl := Option.some.inj H
      go_enter Tryd.func12, Tryd.ntmps12
      go_wp2
      go_ret
      exact ⟨by first | rfl | (simp; done) | (simp [*]; done), by repeat (first | exact Drawn0.refl _ | apply Drawn0.step)⟩
    · rw [if_neg c4] at H
      have c4b0 : decide (99 < a0) = false := decide_eq_false c4
      clear c4
      obtain rfl := Option.some.inj H
      go_enter Tryd.func12, Tryd.ntmps12
      go_wp2
      go_ret
      exact ⟨by first | rfl | (simp; done) | (simp [*]; done), by repeat (first | exact Drawn0.refl _ | apply Drawn0.step)⟩

/-! ### spec_ListOfWord: function 5 -/
def spec_ListOfWord.l0 : Nat → ByteArray → Int → Int → ByteArray → Int → List (S24) → Option (Int × ByteArray × Int × (List (S24)) × Bool)
  | 0, _, _, _, _, _, _ => none
  | k + 1, x0, x5, x119000, x119001, x119002, x119003 => if x5 ≥ 0 then (if 0 ≤ x5 then (if x5 < (x0.size : Int) then ((spec_l36Letter.f (bt x0 x5) 0).bind fun t119 => (if t119 < 0 then (some (0, (⟨#[]⟩ : ByteArray), 0, ([] : List (S24)), false)) else (spec_ListOfWord.l0 k x0 (wrap64 (x5 - 1)) 4 (⟨#[]⟩ : ByteArray) 0 (([(⟨t119, (⟨#[]⟩ : ByteArray), 0, ([] : List (S24))⟩ : S24), (⟨x119000, x119001, x119002, x119003⟩ : S24)] : List (S24)))))) else (none)) else (none)) else (some (x119000, x119001, x119002, x119003, true))
def spec_ListOfWord.f (k : Nat) (a0 : ByteArray) : Option (Int × ByteArray × Int × (List (S24)) × Bool) := if (a0.size : Int) > 12 then (some (0, (⟨#[]⟩ : ByteArray), 0, ([] : List (S24)), false)) else (spec_ListOfWord.l0 k a0 (wrap64 ((a0.size : Int) - 1)) 3 (⟨#[]⟩ : ByteArray) 0 ([] : List (S24)))
theorem spec_ListOfWord.mono_l : ∀ k, (∀ y0 y1 y2 y3 y4 y5, LeO (spec_ListOfWord.l0 k y0 y1 y2 y3 y4 y5) (spec_ListOfWord.l0 (k + 1) y0 y1 y2 y3 y4 y5))
  | 0 => fun _ _ _ _ _ _ r h => by simp [spec_ListOfWord.l0] at h
  | k + 1 => by
    have ih0 := spec_ListOfWord.mono_l k
    · intro y0 y1 y2 y3 y4 y5
      unfold spec_ListOfWord.l0
      repeat' first
      | (with_reducible exact ih0 _ _ _ _ _ _)
      | (with_reducible exact LeO.refl _)
      | (with_reducible exact LeO.none _)
      | (with_reducible refine LeO.ite ?_ ?_)
      | (with_reducible refine LeO.bind ?_ (fun _ => ?_))
      | exact ih0 _ _ _ _ _ _
      | exact LeO.none _
      | refine LeO.ite ?_ ?_
      | refine LeO.bind ?_ (fun _ => ?_)
theorem spec_ListOfWord.mono : ∀ a0 k, LeO (spec_ListOfWord.f k a0) (spec_ListOfWord.f (k + 1) a0) := by
  intro a0 k
  have ih0 := spec_ListOfWord.mono_l k
  unfold spec_ListOfWord.f
  repeat' first
      | (with_reducible exact ih0 _ _ _ _ _ _)
      | (with_reducible exact LeO.refl _)
      | (with_reducible exact LeO.none _)
      | (with_reducible refine LeO.ite ?_ ?_)
      | (with_reducible refine LeO.bind ?_ (fun _ => ?_))
      | exact ih0 _ _ _ _ _ _
      | exact LeO.none _
      | refine LeO.ite ?_ ?_
      | refine LeO.bind ?_ (fun _ => ?_)
set_option maxHeartbeats 8000000 in
set_option maxRecDepth 100000 in
theorem spec_ListOfWord.calls (k : Nat) (a0 : ByteArray) (r1 : Int) (r2 : ByteArray) (r3 : Int) (r4 : List (S24)) (r5 : Bool) (w : World) (h : spec_ListOfWord.f k a0 = some (r1, r2, r3, r4, r5)) :
    Calls Tryd.prog 5 #[.string a0] w fun e w' => ∃ v3_ : Value, e = .returned (.tuple #[.agg #[.int .i64 r1, .string r2, .int .i64 r3, v3_], .bool r5]) ∧ Kd.N k24 24 w' w.heap.size (fun k_ => (w.heap.size ≤ k_)) v3_ r4 ∧ Below w.heap.size w w' := by
  have hu24 := Tryd.underlying24
  have HB := Aside0.mk (Below.refl w.heap.size w)
  have H : (if (a0.size : Int) > 12 then (some (0, (⟨#[]⟩ : ByteArray), 0, ([] : List (S24)), false)) else (spec_ListOfWord.l0 k a0 (wrap64 ((a0.size : Int) - 1)) 3 (⟨#[]⟩ : ByteArray) 0 ([] : List (S24)))) = some (r1, r2, r3, r4, r5) := h
  clear h
  by_cases c2 : (a0.size : Int) > 12
  · rw [if_pos c2] at H
    have c2b0 : decide (12 < (a0.size : Int)) = true := decide_eq_true c2
    have c2b1 : decide (12 < a0.size) = true := decide_eq_true (by omega)
    clear c2
    simp only [Option.some.injEq, Prod.mk.injEq] at H
    obtain ⟨rfl, rfl, rfl, rfl, rfl⟩ := H
    go_enter Tryd.func5, Tryd.ntmps5
    go_wp2_with (first | ((with_reducible refine gate_dst (N := 2) rfl ?_); refine box_event ?hg (N := 2) ?hd (cs := #[.int .i64 0, .string (⟨#[]⟩ : ByteArray), .int .i64 0, .slice none 0 0]) (t := 24) ?hr ?_; (case hd => rfl); (case hg => rfl); (case hr => first | (go_simp; done) | (go_simp; rfl)); intro gb117 hg w3 hbox hb; have n0_ := Aside0.mk (below_step (by repeat (first | (with_reducible first | exact HB.out | apply below_alloc | apply pw_below_drewN | apply below_drew1) | exact HB.out)) hb); have n1_ := Aside0.mk (hbox); have n2_ := Aside0.mk ((by rw [hg]; exact (below_size (by repeat (first | (with_reducible first | exact HB.out | apply below_alloc | apply pw_below_drewN | apply below_drew1) | exact HB.out))) : w.heap.size ≤ gb117)); have n3_ := Aside0.mk ((by rw [hg]; exact (below_size (by repeat (first | (with_reducible first | exact HB.out | apply below_alloc | apply pw_below_drewN | apply below_drew1) | exact HB.out))) : w.heap.size ≤ gb117)); clear HB; have HB := n0_; have BK117 := n1_; have GW117 := n2_; have GE117 := n3_; clear n0_ n1_ n2_ n3_; clear hb hbox hg; have hcz4_0 : w3.cell? ⟨gb117, 0, none⟩ = some (.int .i64 0) := (blk_cell BK117.out 0).trans rfl; have hcz4_1 : w3.cell? ⟨gb117, 1, none⟩ = some (.string (⟨#[]⟩ : ByteArray)) := (blk_cell BK117.out 1).trans rfl; have hcz4_2 : w3.cell? ⟨gb117, 2, none⟩ = some (.int .i64 0) := (blk_cell BK117.out 2).trans rfl; have hcz4_3 : w3.cell? ⟨gb117, 3, none⟩ = some (.slice none 0 0) := (blk_cell BK117.out 3).trans rfl; have hfz4_0 := blk_frozen BK117.out 0; have hfz4_1 := blk_frozen BK117.out 1; have hfz4_2 := blk_frozen BK117.out 2; have hfz4_3 := blk_frozen BK117.out 3))
    refine bodyPost_ret (results_ct rfl _ _ gb117 24 #[.int .i64 0, .string (⟨#[]⟩ : ByteArray), .int .i64 0, .slice none 0 0] (0, 0) _ rfl (by (with_reducible repeat (first | refine blk_drewN ?_ _ | refine blk_drew ?_ | refine blk_alloc ?_ _)); refine blk_put (cs := #[.int .i64 0, .string (⟨#[]⟩ : ByteArray), .int .i64 0, .slice none 0 0]) ?_ 3 _ rfl; (with_reducible repeat (first | refine blk_drewN ?_ _ | refine blk_drew ?_ | refine blk_alloc ?_ _)); refine blk_put (cs := #[.int .i64 0, .string (⟨#[]⟩ : ByteArray), .int .i64 0, .slice none 0 0]) ?_ 2 _ rfl; (with_reducible repeat (first | refine blk_drewN ?_ _ | refine blk_drew ?_ | refine blk_alloc ?_ _)); refine blk_put (cs := #[.int .i64 0, .string (⟨#[]⟩ : ByteArray), .int .i64 0, .slice none 0 0]) ?_ 1 _ rfl; (with_reducible repeat (first | refine blk_drewN ?_ _ | refine blk_drew ?_ | refine blk_alloc ?_ _)); refine blk_put (cs := #[.int .i64 0, .string (⟨#[]⟩ : ByteArray), .int .i64 0, .slice none 0 0]) ?_ 0 _ rfl; (with_reducible repeat (first | refine blk_drewN ?_ _ | refine blk_drew ?_ | refine blk_alloc ?_ _)); exact BK117.out) Tryd.underlying24 rfl (by kernel_rfl)) rfl ?_
    exact ⟨_, by first | rfl | (simp [errW_none, errW_some] <;> rfl) | (simp [*, errW_none, errW_some] <;> rfl), by first | exact Kd.R_nil _ _ _ 0 _ | exact Kd.N_nil _ _ _ _ _ | exact Kd.V_nil _ _ _ _ _ | exact Kd.Q_nil _ _ _ _ _ | exact Kd.R_nil _ _ _ 0 _, by repeat (first | (with_reducible first | exact HB.out | apply below_alloc | apply pw_below_drewN | apply below_drew1 | refine below_set ?_ GE117.out) | exact HB.out)⟩
  · rw [if_neg c2] at H
    have c2b0 : decide (12 < (a0.size : Int)) = false := decide_eq_false c2
    have c2b1 : decide (12 < a0.size) = false := decide_eq_false (by omega)
    clear c2
    have H' := Aside0.mk H
    clear H
    go_enter Tryd.func5, Tryd.ntmps5
    go_wp2_with (first | ((with_reducible refine gate_dst (N := 2) rfl ?_); refine box_event ?hg (N := 2) ?hd (cs := #[.int .i64 0, .string (⟨#[]⟩ : ByteArray), .int .i64 0, .slice none 0 0]) (t := 24) ?hr ?_; (case hd => rfl); (case hg => rfl); (case hr => first | (go_simp; done) | (go_simp; rfl)); intro gb117 hg w5 hbox hb; have n0_ := Aside0.mk (below_step (by repeat (first | (with_reducible first | exact HB.out | apply below_alloc | apply pw_below_drewN | apply below_drew1) | exact HB.out)) hb); have n1_ := Aside0.mk (hbox); have n2_ := Aside0.mk ((by rw [hg]; exact (below_size (by repeat (first | (with_reducible first | exact HB.out | apply below_alloc | apply pw_below_drewN | apply below_drew1) | exact HB.out))) : w.heap.size ≤ gb117)); have n3_ := Aside0.mk ((by rw [hg]; exact (below_size (by repeat (first | (with_reducible first | exact HB.out | apply below_alloc | apply pw_below_drewN | apply below_drew1) | exact HB.out))) : w.heap.size ≤ gb117)); clear HB; have HB := n0_; have BK117 := n1_; have GW117 := n2_; have GE117 := n3_; clear n0_ n1_ n2_ n3_; clear hb hbox hg) | ((with_reducible refine gate_dst (N := 4) rfl ?_); refine box_event ?hg (N := 4) ?hd (cs := #[.int .i64 0, .string (⟨#[]⟩ : ByteArray), .int .i64 0, .slice none 0 0]) (t := 24) ?hr ?_; (case hd => rfl); (case hg => rfl); (case hr => first | (go_simp; done) | (go_simp; rfl)); intro gb118 hg w6 hbox hb; have n0_ := Aside0.mk (blk_below (g := gb117) (o := .cells #[.int .i64 0, .string (⟨#[]⟩ : ByteArray), .int .i64 0, .slice none 0 0] 24 (0, 0)) (by (with_reducible repeat (first | refine blk_drewN ?_ _ | refine blk_drew ?_ | refine blk_alloc ?_ _)); exact BK117.out) hb); have n1_ := Aside0.mk (below_step (by repeat (first | (with_reducible first | exact HB.out | apply below_alloc | apply pw_below_drewN | apply below_drew1 | refine below_set ?_ GE117.out) | exact HB.out)) hb); have n2_ := Aside0.mk (hbox); have n3_ := Aside0.mk ((by rw [hg]; exact (below_size (by repeat (first | (with_reducible first | exact HB.out | apply below_alloc | apply pw_below_drewN | apply below_drew1 | refine below_set ?_ GE117.out) | exact HB.out))) : w.heap.size ≤ gb118)); have n4_ := Aside0.mk ((by rw [hg]; exact (below_size (by repeat (first | (with_reducible first | exact HB.out | apply below_alloc | apply pw_below_drewN | apply below_drew1 | refine below_set ?_ GE117.out) | exact HB.out))) : w.heap.size ≤ gb118)); have n5_ := Aside0.mk ((by rw [hg]; exact Nat.ne_of_lt (blk_lt (g := gb117) (o := .cells #[.int .i64 0, .string (⟨#[]⟩ : ByteArray), .int .i64 0, .slice none 0 0] 24 (0, 0)) (by (with_reducible repeat (first | refine blk_drewN ?_ _ | refine blk_drew ?_ | refine blk_alloc ?_ _)); exact BK117.out)) : gb117 ≠ gb118)); have n6_ := Aside0.mk ((by rw [hg]; exact Nat.ne_of_gt (blk_lt (g := gb117) (o := .cells #[.int .i64 0, .string (⟨#[]⟩ : ByteArray), .int .i64 0, .slice none 0 0] 24 (0, 0)) (by (with_reducible repeat (first | refine blk_drewN ?_ _ | refine blk_drew ?_ | refine blk_alloc ?_ _)); exact BK117.out)) : gb118 ≠ gb117)); clear BK117; clear HB; have BK117 := n0_; have HB := n1_; have BK118 := n2_; have GW118 := n3_; have GE118 := n4_; have NB117_118 := n5_; have NB118_117 := n6_; clear n0_ n1_ n2_ n3_ n4_ n5_ n6_; clear hb hbox hg; have hnb7 := NB118_117.out; have hnc7 := NB117_118.out; have hcz8_0 : w6.cell? ⟨gb118, 0, none⟩ = some (.int .i64 0) := (blk_cell BK118.out 0).trans rfl; have hcz8_1 : w6.cell? ⟨gb118, 1, none⟩ = some (.string (⟨#[]⟩ : ByteArray)) := (blk_cell BK118.out 1).trans rfl; have hcz8_2 : w6.cell? ⟨gb118, 2, none⟩ = some (.int .i64 0) := (blk_cell BK118.out 2).trans rfl; have hcz8_3 : w6.cell? ⟨gb118, 3, none⟩ = some (.slice none 0 0) := (blk_cell BK118.out 3).trans rfl; have hfz8_0 := blk_frozen BK118.out 0; have hfz8_1 := blk_frozen BK118.out 1; have hfz8_2 := blk_frozen BK118.out 2; have hfz8_3 := blk_frozen BK118.out 3))
    go_loopg [5] k (fun kq v5 w' => ∃ (x5_1 : Int) (x118000_1 : Int) (x118001_1 : ByteArray) (x118002_1 : Int) (x119000_1 : Int) (x119001_1 : ByteArray) (x119002_1 : Int) (x119003_1 : List (S24)) (u119003 : Value), v5 = .int .i64 x5_1 ∧ Aside0 (spec_ListOfWord.l0 kq a0 x5_1 x119000_1 x119001_1 x119002_1 x119003_1 = some (r1, r2, r3, r4, r5)) ∧ Aside0 (kq ≤ k) ∧ Aside0 (Kd.N k24 24 w' w.heap.size (fun k_ => (w.heap.size ≤ k_) ∧ k_ ≠ gb117 ∧ k_ ≠ gb118) u119003 x119003_1) ∧ Aside0 (w'.heap[gb117]? = some (.cells #[.int .i64 x118000_1, .string x118001_1, .int .i64 x118002_1, (.slice none 0 0)] 24 (0, 0))) ∧ Aside0 (w'.heap[gb118]? = some (.cells #[.int .i64 x119000_1, .string x119001_1, .int .i64 x119002_1, u119003] 24 (0, 0))) ∧ Aside0 (Below w.heap.size w w'))
    case atStart => exact ⟨(wrap64 ((a0.size : Int) - 1)), (0), ((⟨#[]⟩ : ByteArray)), (0), (3), ((⟨#[]⟩ : ByteArray)), (0), (([] : List (S24))), (.slice none 0 0), (by first | rfl | (simp; done) | (simp [*]; done)), H', ⟨Nat.le_refl _⟩, ⟨by first | exact Kd.R_nil _ _ _ 0 _ | exact Kd.N_nil _ _ _ _ _ | exact Kd.V_nil _ _ _ _ _ | exact Kd.Q_nil _ _ _ _ _ | exact Kd.R_nil _ _ _ 0 _⟩, ⟨by (with_reducible repeat (first | refine blk_drewN ?_ _ | refine blk_drew ?_ | refine blk_alloc ?_ _)); refine blk_far ?_ NB117_118.out _; (with_reducible repeat (first | refine blk_drewN ?_ _ | refine blk_drew ?_ | refine blk_alloc ?_ _)); refine blk_far ?_ NB117_118.out _; (with_reducible repeat (first | refine blk_drewN ?_ _ | refine blk_drew ?_ | refine blk_alloc ?_ _)); refine blk_far ?_ NB117_118.out _; (with_reducible repeat (first | refine blk_drewN ?_ _ | refine blk_drew ?_ | refine blk_alloc ?_ _)); refine blk_far ?_ NB117_118.out _; (with_reducible repeat (first | refine blk_drewN ?_ _ | refine blk_drew ?_ | refine blk_alloc ?_ _)); exact BK117.out⟩, ⟨by (with_reducible repeat (first | refine blk_drewN ?_ _ | refine blk_drew ?_ | refine blk_alloc ?_ _)); refine blk_put (cs := #[.int .i64 3, .string (⟨#[]⟩ : ByteArray), .int .i64 0, .slice none 0 0]) ?_ 3 _ rfl; (with_reducible repeat (first | refine blk_drewN ?_ _ | refine blk_drew ?_ | refine blk_alloc ?_ _)); refine blk_put (cs := #[.int .i64 3, .string (⟨#[]⟩ : ByteArray), .int .i64 0, .slice none 0 0]) ?_ 2 _ rfl; (with_reducible repeat (first | refine blk_drewN ?_ _ | refine blk_drew ?_ | refine blk_alloc ?_ _)); refine blk_put (cs := #[.int .i64 3, .string (⟨#[]⟩ : ByteArray), .int .i64 0, .slice none 0 0]) ?_ 1 _ rfl; (with_reducible repeat (first | refine blk_drewN ?_ _ | refine blk_drew ?_ | refine blk_alloc ?_ _)); refine blk_put (cs := #[.int .i64 0, .string (⟨#[]⟩ : ByteArray), .int .i64 0, .slice none 0 0]) ?_ 0 _ rfl; (with_reducible repeat (first | refine blk_drewN ?_ _ | refine blk_drew ?_ | refine blk_alloc ?_ _)); exact BK118.out⟩, ⟨by repeat (first | (with_reducible first | exact HB.out | apply below_alloc | apply pw_below_drewN | apply below_drew1 | refine below_set ?_ GE117.out | refine below_set ?_ GE118.out) | exact HB.out)⟩⟩
    case round =>
      clear H'
      try clear c2
      try clear c2b0
      try clear c2b1
      try clear p2
      try clear c5
      try clear p6
      try clear c7
      try clear hcz4_0
      try clear hcz4_1
      try clear hcz4_2
      try clear hcz4_3
      try clear hcz8_0
      try clear hcz8_1
      try clear hcz8_2
      try clear hcz8_3
      try clear hfz4_0
      try clear hfz4_1
      try clear hfz4_2
      try clear hfz4_3
      try clear hfz8_0
      try clear hfz8_1
      try clear hfz8_2
      try clear hfz8_3
      obtain ⟨x5_1, x118000_1, x118001_1, x118002_1, x119000_1, x119001_1, x119002_1, x119003_1, u119003, rfl, HA, HK1, HO_119003, BK117, BK118, HB⟩ := hrel
      cases gk with
      | zero => exact absurd HA.out (by simp [spec_ListOfWord.l0])
      | succ k1 =>
        have H := HA.out
        clear HA
        simp only [spec_ListOfWord.l0] at H
        by_cases c9 : x5_1 ≥ 0
        · rw [if_pos c9] at H
          have c9b0 : decide (0 ≤ x5_1) = true := decide_eq_true c9
          clear c9
          by_cases c10 : 0 ≤ x5_1
          · rw [if_pos c10] at H
            have c10b0 : decide (0 ≤ x5_1) = true := decide_eq_true c10
            clear c10
            by_cases c11 : x5_1 < (a0.size : Int)
            · rw [if_pos c11] at H
              have c11b0 : decide (x5_1 < (a0.size : Int)) = true := decide_eq_true c11
              clear c11
              replace H := Option.bind_eq_some_iff.mp H
              obtain ⟨t119, A130, H⟩ := H
              replace H : (if t119 < 0 then (some (0, (⟨#[]⟩ : ByteArray), 0, ([] : List (S24)), false)) else (spec_ListOfWord.l0 k1 a0 (wrap64 (x5_1 - 1)) 4 (⟨#[]⟩ : ByteArray) 0 (([(⟨t119, (⟨#[]⟩ : ByteArray), 0, ([] : List (S24))⟩ : S24), (⟨x119000_1, x119001_1, x119002_1, x119003_1⟩ : S24)] : List (S24))))) = some (r1, r2, r3, r4, r5) := H
              have A13 := Aside0.mk A130
              clear A130
              by_cases c14 : t119 < 0
              · rw [if_pos c14] at H
                have c14b0 : decide (t119 < 0) = true := decide_eq_true c14
                clear c14
                simp only [Option.some.injEq, Prod.mk.injEq] at H
                obtain ⟨rfl, rfl, rfl, rfl, rfl⟩ := H
                have p12 : 0 ≤ (x5_1 : Int) := of_decide_eq_true (by first | (with_reducible assumption) | assumption)
                have q12 : x5_1 < (a0.size : Int) := of_decide_eq_true (by first | (with_reducible assumption) | assumption)
                have hx12 := bt_at a0 x5_1
                replace p12 := eq_true p12
                replace q12 := eq_true q12
                go_wp2_with (first | ((with_reducible refine gate_callee (f := 12) rfl ?_); refine goesL_ (some 22) rfl rfl Tryd.func12 (by kernel_rfl) rfl #[.int .u8 (bt a0 x5_1), .int .i64 0] rfl (by (try simp only [List.map_toArray, List.map_cons, List.map_nil]); first | done | rfl | (simp only [List.length_drop, List.length_take]; rfl)) ?_; (with_reducible refine (spec_l36Letter.calls (bt a0 x5_1) 0 t119 _ A13.out).mono ?_); rintro e w' ⟨rfl, ⟨nd, rfl⟩⟩; refine ⟨_, rfl, ?_⟩; (try (rw [drewN_self wr]; generalize hq_ : World.drewN wr _ = wr; have n0_ : Aside0 (Kd.N k24 24 wr w.heap.size (fun k_ => (w.heap.size ≤ k_) ∧ k_ ≠ gb117 ∧ k_ ≠ gb118) u119003 x119003_1) := ⟨by rw [← hq_]; exact (by (with_reducible repeat (first | apply Kd.N_alloc | apply Kd.N_drewN | apply Kd.N_drew)); exact HO_119003.out)⟩; have n1_ : Aside0 (wr.heap[gb117]? = some (.cells #[.int .i64 x118000_1, .string x118001_1, .int .i64 x118002_1, .slice none 0 0] 24 (0, 0))) := ⟨by rw [← hq_]; exact (by (with_reducible repeat (first | refine blk_drewN ?_ _ | refine blk_drew ?_ | refine blk_alloc ?_ _)); exact BK117.out)⟩; have n2_ : Aside0 (wr.heap[gb118]? = some (.cells #[.int .i64 x119000_1, .string x119001_1, .int .i64 x119002_1, u119003] 24 (0, 0))) := ⟨by rw [← hq_]; exact (by (with_reducible repeat (first | refine blk_drewN ?_ _ | refine blk_drew ?_ | refine blk_alloc ?_ _)); exact BK118.out)⟩; have n3_ : Aside0 (Below w.heap.size w wr) := ⟨by rw [← hq_]; exact (by repeat (first | (with_reducible first | exact HB.out | apply below_alloc | apply pw_below_drewN | apply below_drew1 | refine below_set ?_ GE117.out | refine below_set ?_ GE118.out) | exact HB.out))⟩; clear HO_119003 BK117 BK118 HB hq_; have HO_119003 := n0_; have BK117 := n1_; have BK118 := n2_; have HB := n3_; clear n0_ n1_ n2_ n3_)); have hnb15 := NB117_118.out; have hnc15 := NB118_117.out; have hcz16_0 : wr.cell? ⟨gb117, 0, none⟩ = some (.int .i64 x118000_1) := (blk_cell BK117.out 0).trans rfl; have hcz16_1 : wr.cell? ⟨gb117, 1, none⟩ = some (.string x118001_1) := (blk_cell BK117.out 1).trans rfl; have hcz16_2 : wr.cell? ⟨gb117, 2, none⟩ = some (.int .i64 x118002_1) := (blk_cell BK117.out 2).trans rfl; have hcz16_3 : wr.cell? ⟨gb117, 3, none⟩ = some (.slice none 0 0) := (blk_cell BK117.out 3).trans rfl; have hfz16_0 := blk_frozen BK117.out 0; have hfz16_1 := blk_frozen BK117.out 1; have hfz16_2 := blk_frozen BK117.out 2; have hfz16_3 := blk_frozen BK117.out 3))
                refine bodyPost_ret (results_ct rfl _ _ gb117 24 #[.int .i64 0, .string (⟨#[]⟩ : ByteArray), .int .i64 0, .slice none 0 0] (0, 0) _ rfl (by (with_reducible repeat (first | refine blk_drewN ?_ _ | refine blk_drew ?_ | refine blk_alloc ?_ _)); refine blk_put (cs := #[.int .i64 0, .string (⟨#[]⟩ : ByteArray), .int .i64 0, .slice none 0 0]) ?_ 3 _ rfl; (with_reducible repeat (first | refine blk_drewN ?_ _ | refine blk_drew ?_ | refine blk_alloc ?_ _)); refine blk_put (cs := #[.int .i64 0, .string (⟨#[]⟩ : ByteArray), .int .i64 x118002_1, .slice none 0 0]) ?_ 2 _ rfl; (with_reducible repeat (first | refine blk_drewN ?_ _ | refine blk_drew ?_ | refine blk_alloc ?_ _)); refine blk_put (cs := #[.int .i64 0, .string x118001_1, .int .i64 x118002_1, .slice none 0 0]) ?_ 1 _ rfl; (with_reducible repeat (first | refine blk_drewN ?_ _ | refine blk_drew ?_ | refine blk_alloc ?_ _)); refine blk_put (cs := #[.int .i64 x118000_1, .string x118001_1, .int .i64 x118002_1, .slice none 0 0]) ?_ 0 _ rfl; (with_reducible repeat (first | refine blk_drewN ?_ _ | refine blk_drew ?_ | refine blk_alloc ?_ _)); exact BK117.out) Tryd.underlying24 rfl (by kernel_rfl)) rfl ?_
                exact ⟨_, by first | rfl | (simp [errW_none, errW_some] <;> rfl) | (simp [*, errW_none, errW_some] <;> rfl), by first | exact Kd.R_nil _ _ _ 0 _ | exact Kd.N_nil _ _ _ _ _ | exact Kd.V_nil _ _ _ _ _ | exact Kd.Q_nil _ _ _ _ _ | exact Kd.R_nil _ _ _ 0 _, by repeat (first | (with_reducible first | exact HB.out | apply below_alloc | apply pw_below_drewN | apply below_drew1 | refine below_set ?_ GE117.out | refine below_set ?_ GE118.out) | exact HB.out)⟩
              · rw [if_neg c14] at H
                have c14b0 : decide (t119 < 0) = false := decide_eq_false c14
                clear c14
                obtain ⟨y120, hy120⟩ : ∃ y_ : List (S24), y_ = (([(⟨t119, (⟨#[]⟩ : ByteArray), 0, ([] : List (S24))⟩ : S24), (⟨x119000_1, x119001_1, x119002_1, x119003_1⟩ : S24)] : List (S24))) := ⟨_, rfl⟩
                replace H : (spec_ListOfWord.l0 k1 a0 (wrap64 (x5_1 - 1)) 4 (⟨#[]⟩ : ByteArray) 0 y120) = some (r1, r2, r3, r4, r5) := by first | (rw [hy120]; with_reducible exact H) | (have H2_ := (Option.bind_some _ _).symm.trans H; rw [hy120]; with_reducible exact H2_) | (have H2_ := (Option.bind_some _ _).symm.trans H; with_reducible exact H2_) | with_reducible exact H | (rw [hy120]; exact H) | exact H
                have Ny120 := Aside0.mk hy120
                clear hy120
                have H' := Aside0.mk H
                clear H
                have p12 : 0 ≤ (x5_1 : Int) := of_decide_eq_true (by first | (with_reducible assumption) | assumption)
                have q12 : x5_1 < (a0.size : Int) := of_decide_eq_true (by first | (with_reducible assumption) | assumption)
                have hx12 := bt_at a0 x5_1
                replace p12 := eq_true p12
                replace q12 := eq_true q12
                go_wp2_with (first | ((with_reducible refine gate_callee (f := 12) rfl ?_); refine goesL_ (some 22) rfl rfl Tryd.func12 (by kernel_rfl) rfl #[.int .u8 (bt a0 x5_1), .int .i64 0] rfl (by (try simp only [List.map_toArray, List.map_cons, List.map_nil]); first | done | rfl | (simp only [List.length_drop, List.length_take]; rfl)) ?_; (with_reducible refine (spec_l36Letter.calls (bt a0 x5_1) 0 t119 _ A13.out).mono ?_); rintro e w' ⟨rfl, ⟨nd, rfl⟩⟩; refine ⟨_, rfl, ?_⟩; (try (rw [drewN_self wr]; generalize hq_ : World.drewN wr _ = wr; have n0_ : Aside0 (Kd.N k24 24 wr w.heap.size (fun k_ => (w.heap.size ≤ k_) ∧ k_ ≠ gb117 ∧ k_ ≠ gb118) u119003 x119003_1) := ⟨by rw [← hq_]; exact (by (with_reducible repeat (first | apply Kd.N_alloc | apply Kd.N_drewN | apply Kd.N_drew)); exact HO_119003.out)⟩; have n1_ : Aside0 (wr.heap[gb117]? = some (.cells #[.int .i64 x118000_1, .string x118001_1, .int .i64 x118002_1, .slice none 0 0] 24 (0, 0))) := ⟨by rw [← hq_]; exact (by (with_reducible repeat (first | refine blk_drewN ?_ _ | refine blk_drew ?_ | refine blk_alloc ?_ _)); exact BK117.out)⟩; have n2_ : Aside0 (wr.heap[gb118]? = some (.cells #[.int .i64 x119000_1, .string x119001_1, .int .i64 x119002_1, u119003] 24 (0, 0))) := ⟨by rw [← hq_]; exact (by (with_reducible repeat (first | refine blk_drewN ?_ _ | refine blk_drew ?_ | refine blk_alloc ?_ _)); exact BK118.out)⟩; have n3_ : Aside0 (Below w.heap.size w wr) := ⟨by rw [← hq_]; exact (by repeat (first | (with_reducible first | exact HB.out | apply below_alloc | apply pw_below_drewN | apply below_drew1 | refine below_set ?_ GE117.out | refine below_set ?_ GE118.out) | exact HB.out))⟩; clear HO_119003 BK117 BK118 HB hq_; have HO_119003 := n0_; have BK117 := n1_; have BK118 := n2_; have HB := n3_; clear n0_ n1_ n2_ n3_)); have hnb17 := NB118_117.out; have hnc17 := NB117_118.out; have hcz18_0 : wr.cell? ⟨gb118, 0, none⟩ = some (.int .i64 x119000_1) := (blk_cell BK118.out 0).trans rfl; have hcz18_1 : wr.cell? ⟨gb118, 1, none⟩ = some (.string x119001_1) := (blk_cell BK118.out 1).trans rfl; have hcz18_2 : wr.cell? ⟨gb118, 2, none⟩ = some (.int .i64 x119002_1) := (blk_cell BK118.out 2).trans rfl; have hcz18_3 : wr.cell? ⟨gb118, 3, none⟩ = some (u119003) := (blk_cell BK118.out 3).trans rfl; have hfz18_0 := blk_frozen BK118.out 0; have hfz18_1 := blk_frozen BK118.out 1; have hfz18_2 := blk_frozen BK118.out 2; have hfz18_3 := blk_frozen BK118.out 3; obtain ⟨Ao19, co19, eo19⟩ := Kd.N_slice HO_119003.out; subst eo19) | ((with_reducible refine gate_dst (N := 29) rfl ?_); refine Kd.N_lit k24 _ 24 ?hg (N' := 29) ?hd (xs := ([(⟨t119, (⟨#[]⟩ : ByteArray), 0, ([] : List (S24))⟩ : S24), (⟨x119000_1, x119001_1, x119002_1, x119003_1⟩ : S24)] : List (S24))) (inner := [.int .i64 t119, .string (⟨#[]⟩ : ByteArray), .int .i64 0, .slice none 0 0, .int .i64 x119000_1, .string x119001_1, .int .i64 x119002_1, .slice Ao19 x119003_1.length co19]) (ok := (fun k_ => (w.heap.size ≤ k_) ∧ k_ ≠ gb117 ∧ k_ ≠ gb118)) (okp := (fun k_ => (w.heap.size ≤ k_) ∧ k_ ≠ gb117 ∧ k_ ≠ gb118)) ?hr ?hp (fun _ hk => hk) ((show ∀ k_, wr.heap.size ≤ k_ → (fun k_ => (w.heap.size ≤ k_) ∧ k_ ≠ gb117 ∧ k_ ≠ gb118) k_ from fun k_ hk => ⟨(Nat.le_trans (below_size (by repeat (first | (with_reducible first | exact HB.out | apply below_alloc | apply pw_below_drewN | apply below_drew1 | refine below_set ?_ GE117.out | refine below_set ?_ GE118.out) | exact HB.out))) hk), Kd.freshB (g := gb117) (o := .cells #[.int .i64 x118000_1, .string x118001_1, .int .i64 x118002_1, .slice none 0 0] 24 (0, 0)) (by (with_reducible repeat (first | refine blk_drewN ?_ _ | refine blk_drew ?_ | refine blk_alloc ?_ _)); exact BK117.out) k_ hk, Kd.freshB (g := gb118) (o := .cells #[.int .i64 x119000_1, .string x119001_1, .int .i64 x119002_1, .slice Ao19 x119003_1.length co19] 24 (0, 0)) (by (with_reducible repeat (first | refine blk_drewN ?_ _ | refine blk_drew ?_ | refine blk_alloc ?_ _)); exact BK118.out) k_ hk⟩) _ (Nat.le_refl _)) (Below.refl _ _) (Nat.le_refl _) (by simp) ?_; (case hd => rfl); (case hg => rfl); (case hr => first | (go_simp; done) | (go_simp; rfl)); (case hp => exact (Reps.c4 (show Kd.FK k24 _ _ (⟨t119, (⟨#[]⟩ : ByteArray), 0, ([] : List (S24))⟩ : S24) [.int .i64 t119, .string (⟨#[]⟩ : ByteArray), .int .i64 0, .slice none 0 0] from (k24_mkF _ _ (⟨t119, (⟨#[]⟩ : ByteArray), 0, ([] : List (S24))⟩ : S24) (Nat.le_refl _) (Kd.F_nil _ _ _))) (Reps.c4 (show Kd.FK k24 _ _ (⟨x119000_1, x119001_1, x119002_1, x119003_1⟩ : S24) [.int .i64 x119000_1, .string x119001_1, .int .i64 x119002_1, .slice Ao19 x119003_1.length co19] from (k24_mkF _ _ (⟨x119000_1, x119001_1, x119002_1, x119003_1⟩ : S24) (Kd.N_reads' (Kd.N_mono (ok' := (fun k_ => (w.heap.size ≤ k_) ∧ k_ ≠ gb117 ∧ k_ ≠ gb118)) (HO_119003.out) (fun k_ hk => ⟨hk.1, ⟨hk.2.1, hk.2.2⟩⟩))).2.1 (Kd.N_F (Kd.N_mono (ok' := (fun k_ => (w.heap.size ≤ k_) ∧ k_ ≠ gb117 ∧ k_ ≠ gb118)) (HO_119003.out) (fun k_ hk => ⟨hk.1, ⟨hk.2.1, hk.2.2⟩⟩))))) (Reps.none _ _)))); intro v121 w20 ho21 hb hg_ hnew_; clear hg_ hnew_; (first | rw [← Ny120.out] at ho21 | (simp only [Int.reduceToNat] at ho21; rw [← Ny120.out] at ho21)); have n0_ := Aside0.mk (Kd.N_lower ho21 (below_size (by repeat (first | (with_reducible first | exact HB.out | apply below_alloc | apply pw_below_drewN | apply below_drew1 | refine below_set ?_ GE117.out | refine below_set ?_ GE118.out) | exact HB.out)))); have n1_ := Aside0.mk (blk_below (g := gb117) (o := .cells #[.int .i64 x118000_1, .string x118001_1, .int .i64 x118002_1, .slice none 0 0] 24 (0, 0)) (by (with_reducible repeat (first | refine blk_drewN ?_ _ | refine blk_drew ?_ | refine blk_alloc ?_ _)); exact BK117.out) hb); have n2_ := Aside0.mk (blk_below (g := gb118) (o := .cells #[.int .i64 x119000_1, .string x119001_1, .int .i64 x119002_1, .slice Ao19 x119003_1.length co19] 24 (0, 0)) (by (with_reducible repeat (first | refine blk_drewN ?_ _ | refine blk_drew ?_ | refine blk_alloc ?_ _)); exact BK118.out) hb); have n3_ := Aside0.mk (below_step (by repeat (first | (with_reducible first | exact HB.out | apply below_alloc | apply pw_below_drewN | apply below_drew1 | refine below_set ?_ GE117.out | refine below_set ?_ GE118.out) | exact HB.out)) hb); clear BK117; clear BK118; clear HB; clear HO_119003; have HO122 := n0_; have BK117 := n1_; have BK118 := n2_; have HB := n3_; clear n0_ n1_ n2_ n3_; clear hb ho21; obtain ⟨Ao22, co22, eo22⟩ := Kd.N_slice HO122.out; subst eo22; have hcz23_0 : w20.cell? ⟨gb118, 0, none⟩ = some (.int .i64 x119000_1) := (blk_cell BK118.out 0).trans rfl; have hcz23_1 : w20.cell? ⟨gb118, 1, none⟩ = some (.string x119001_1) := (blk_cell BK118.out 1).trans rfl; have hcz23_2 : w20.cell? ⟨gb118, 2, none⟩ = some (.int .i64 x119002_1) := (blk_cell BK118.out 2).trans rfl; have hcz23_3 : w20.cell? ⟨gb118, 3, none⟩ = some (.slice Ao19 x119003_1.length co19) := (blk_cell BK118.out 3).trans rfl; have hfz23_0 := blk_frozen BK118.out 0; have hfz23_1 := blk_frozen BK118.out 1; have hfz23_2 := blk_frozen BK118.out 2; have hfz23_3 := blk_frozen BK118.out 3))
                go_roundg k1
                case measure => have := HK1.out; omega
                case rel => exact ⟨(wrap64 (x5_1 - 1)), (x118000_1), (x118001_1), (x118002_1), (4), ((⟨#[]⟩ : ByteArray)), (0), (y120), (.slice Ao22 y120.length co22), (by first | rfl | (simp; done) | (simp [*]; done)), H', ⟨by have := HK1.out; omega⟩, ⟨by (with_reducible repeat (first | apply Kd.N_alloc | apply Kd.N_drewN | apply Kd.N_drew)); exact Kd.N_mono (Kd.N_far (p := ⟨gb118, 3, none⟩) (Kd.N_far (p := ⟨gb118, 2, none⟩) (Kd.N_far (p := ⟨gb118, 1, none⟩) (Kd.N_far (p := ⟨gb118, 0, none⟩) (Kd.N_mono HO122.out (fun k_ hk => (⟨hk, hk.2.2⟩ : _ ∧ k_ ≠ gb118))) (fun _ hk => hk.2) (.int .i64 4)) (fun _ hk => hk.2) (.string (⟨#[]⟩ : ByteArray))) (fun _ hk => hk.2) (.int .i64 0)) (fun _ hk => hk.2) (.slice Ao22 y120.length co22)) (fun _ hk => ⟨hk.1.1, ⟨hk.1.2.1, hk.1.2.2⟩⟩)⟩, ⟨by (with_reducible repeat (first | refine blk_drewN ?_ _ | refine blk_drew ?_ | refine blk_alloc ?_ _)); refine blk_far ?_ NB117_118.out _; (with_reducible repeat (first | refine blk_drewN ?_ _ | refine blk_drew ?_ | refine blk_alloc ?_ _)); refine blk_far ?_ NB117_118.out _; (with_reducible repeat (first | refine blk_drewN ?_ _ | refine blk_drew ?_ | refine blk_alloc ?_ _)); refine blk_far ?_ NB117_118.out _; (with_reducible repeat (first | refine blk_drewN ?_ _ | refine blk_drew ?_ | refine blk_alloc ?_ _)); refine blk_far ?_ NB117_118.out _; (with_reducible repeat (first | refine blk_drewN ?_ _ | refine blk_drew ?_ | refine blk_alloc ?_ _)); exact BK117.out⟩, ⟨by (with_reducible repeat (first | refine blk_drewN ?_ _ | refine blk_drew ?_ | refine blk_alloc ?_ _)); refine blk_put (cs := #[.int .i64 4, .string (⟨#[]⟩ : ByteArray), .int .i64 0, .slice Ao19 x119003_1.length co19]) ?_ 3 _ rfl; (with_reducible repeat (first | refine blk_drewN ?_ _ | refine blk_drew ?_ | refine blk_alloc ?_ _)); refine blk_put (cs := #[.int .i64 4, .string (⟨#[]⟩ : ByteArray), .int .i64 x119002_1, .slice Ao19 x119003_1.length co19]) ?_ 2 _ rfl; (with_reducible repeat (first | refine blk_drewN ?_ _ | refine blk_drew ?_ | refine blk_alloc ?_ _)); refine blk_put (cs := #[.int .i64 4, .string x119001_1, .int .i64 x119002_1, .slice Ao19 x119003_1.length co19]) ?_ 1 _ rfl; (with_reducible repeat (first | refine blk_drewN ?_ _ | refine blk_drew ?_ | refine blk_alloc ?_ _)); refine blk_put (cs := #[.int .i64 x119000_1, .string x119001_1, .int .i64 x119002_1, .slice Ao19 x119003_1.length co19]) ?_ 0 _ rfl; (with_reducible repeat (first | refine blk_drewN ?_ _ | refine blk_drew ?_ | refine blk_alloc ?_ _)); exact BK118.out⟩, ⟨by repeat (first | (with_reducible first | exact HB.out | apply below_alloc | apply pw_below_drewN | apply below_drew1 | refine below_set ?_ GE117.out | refine below_set ?_ GE118.out) | exact HB.out)⟩⟩
            · rw [if_neg c11] at H
              exact absurd H (by simp)
          · rw [if_neg c10] at H
            exact absurd H (by simp)
        · rw [if_neg c9] at H
          have c9b0 : decide (0 ≤ x5_1) = false := decide_eq_false c9
          clear c9
          simp only [Option.some.injEq, Prod.mk.injEq] at H
          obtain ⟨rfl, rfl, rfl, rfl, rfl⟩ := H
          have hnb24 := NB118_117.out
          have hnc24 := NB117_118.out
          have hcz25_0 : wr.cell? ⟨gb118, 0, none⟩ = some (.int .i64 x119000_1) := (blk_cell BK118.out 0).trans rfl
          have hcz25_1 : wr.cell? ⟨gb118, 1, none⟩ = some (.string x119001_1) := (blk_cell BK118.out 1).trans rfl
          have hcz25_2 : wr.cell? ⟨gb118, 2, none⟩ = some (.int .i64 x119002_1) := (blk_cell BK118.out 2).trans rfl
          have hcz25_3 : wr.cell? ⟨gb118, 3, none⟩ = some (u119003) := (blk_cell BK118.out 3).trans rfl
          have hfz25_0 := blk_frozen BK118.out 0
          have hfz25_1 := blk_frozen BK118.out 1
          have hfz25_2 := blk_frozen BK118.out 2
          have hfz25_3 := blk_frozen BK118.out 3
          have hcz26_0 : wr.cell? ⟨gb117, 0, none⟩ = some (.int .i64 x118000_1) := (blk_cell BK117.out 0).trans rfl
          have hcz26_1 : wr.cell? ⟨gb117, 1, none⟩ = some (.string x118001_1) := (blk_cell BK117.out 1).trans rfl
          have hcz26_2 : wr.cell? ⟨gb117, 2, none⟩ = some (.int .i64 x118002_1) := (blk_cell BK117.out 2).trans rfl
          have hcz26_3 : wr.cell? ⟨gb117, 3, none⟩ = some (.slice none 0 0) := (blk_cell BK117.out 3).trans rfl
          have hfz26_0 := blk_frozen BK117.out 0
          have hfz26_1 := blk_frozen BK117.out 1
          have hfz26_2 := blk_frozen BK117.out 2
          have hfz26_3 := blk_frozen BK117.out 3
          obtain ⟨Ao27, co27, eo27⟩ := Kd.N_slice HO_119003.out
          subst eo27
          go_wp2
          refine bodyPost_ret (results_ct rfl _ _ gb117 24 #[.int .i64 x119000_1, .string x119001_1, .int .i64 x119002_1, .slice Ao27 x119003_1.length co27] (0, 0) _ rfl (by (with_reducible repeat (first | refine blk_drewN ?_ _ | refine blk_drew ?_ | refine blk_alloc ?_ _)); refine blk_put (cs := #[.int .i64 x119000_1, .string x119001_1, .int .i64 x119002_1, .slice none 0 0]) ?_ 3 _ rfl; (with_reducible repeat (first | refine blk_drewN ?_ _ | refine blk_drew ?_ | refine blk_alloc ?_ _)); refine blk_put (cs := #[.int .i64 x119000_1, .string x119001_1, .int .i64 x118002_1, .slice none 0 0]) ?_ 2 _ rfl; (with_reducible repeat (first | refine blk_drewN ?_ _ | refine blk_drew ?_ | refine blk_alloc ?_ _)); refine blk_put (cs := #[.int .i64 x119000_1, .string x118001_1, .int .i64 x118002_1, .slice none 0 0]) ?_ 1 _ rfl; (with_reducible repeat (first | refine blk_drewN ?_ _ | refine blk_drew ?_ | refine blk_alloc ?_ _)); refine blk_put (cs := #[.int .i64 x118000_1, .string x118001_1, .int .i64 x118002_1, .slice none 0 0]) ?_ 0 _ rfl; (with_reducible repeat (first | refine blk_drewN ?_ _ | refine blk_drew ?_ | refine blk_alloc ?_ _)); exact BK117.out) Tryd.underlying24 rfl (by kernel_rfl)) rfl ?_
          exact ⟨_, by first | rfl | (simp [errW_none, errW_some] <;> rfl) | (simp [*, errW_none, errW_some] <;> rfl), by (with_reducible repeat (first | apply Kd.N_alloc | apply Kd.N_drewN | apply Kd.N_drew)); exact Kd.N_mono (Kd.N_far (p := ⟨gb117, 3, none⟩) (Kd.N_far (p := ⟨gb117, 2, none⟩) (Kd.N_far (p := ⟨gb117, 1, none⟩) (Kd.N_far (p := ⟨gb117, 0, none⟩) (Kd.N_mono HO_119003.out (fun k_ hk => (⟨hk, hk.2.1⟩ : _ ∧ k_ ≠ gb117))) (fun _ hk => hk.2) (.int .i64 x119000_1)) (fun _ hk => hk.2) (.string x119001_1)) (fun _ hk => hk.2) (.int .i64 x119002_1)) (fun _ hk => hk.2) (.slice Ao27 x119003_1.length co27)) (fun _ hk => hk.1.1), by repeat (first | (with_reducible first | exact HB.out | apply below_alloc | apply pw_below_drewN | apply below_drew1 | refine below_set ?_ GE117.out | refine below_set ?_ GE118.out) | exact HB.out)⟩

/-! ### spec_l11Value: function 17 -/
def spec_l11Value.f (a0 : Int) (l1 : List (S24)) : Option (Int × ByteArray × Int × (List (S24))) := if (l1.length : Int) = 1 then (if 0 < (l1.length : Int) then (some ((rd_T24 l1 0).f0, (rd_T24 l1 0).f1, (rd_T24 l1 0).f2, (rd_T24 l1 0).f3)) else (none)) else ((some (([] : List (S24)) : List (S24))).bind fun y125 => (if y125.length + l1.length < 2513169434916 then (some (a0, (⟨#[]⟩ : ByteArray), 0, (y125 ++ l1))) else (none)))
set_option maxHeartbeats 8000000 in
set_option maxRecDepth 100000 in
theorem spec_l11Value.calls (a0 : Int) (P1_ : Nat → Prop) (A1 : Option Addr) (c1 : Nat) (l1 : List (S24)) (r1 : Int) (r2 : ByteArray) (r3 : Int) (r4 : List (S24)) (w : World) (hs1 : Kd.V k24 24 w w.heap.size (fun k_ => P1_ k_) (.slice A1 l1.length c1) l1) (h : spec_l11Value.f a0 l1 = some (r1, r2, r3, r4)) :
    Calls Tryd.prog 17 #[.int .i64 a0, .slice A1 l1.length c1] w fun e w' => ∃ v3_ : Value, e = .returned (.agg #[.int .i64 r1, .string r2, .int .i64 r3, v3_]) ∧ Kd.V k24 24 w' w.heap.size (fun k_ => (P1_ k_ ∨ w.heap.size ≤ k_)) v3_ r4 ∧ Below w.heap.size w w' := by
  have hu24 := Tryd.underlying24
  have HO1 := Aside0.mk (show Kd.V k24 24 w w.heap.size (fun k_ => (P1_ k_ ∨ w.heap.size ≤ k_)) (.slice A1 l1.length c1) l1 from Kd.V_mono hs1 (fun k_ hk => .inl hk))
  have HB := Aside0.mk (Below.refl w.heap.size w)
  have H : (if (l1.length : Int) = 1 then (if 0 < (l1.length : Int) then (some ((rd_T24 l1 0).f0, (rd_T24 l1 0).f1, (rd_T24 l1 0).f2, (rd_T24 l1 0).f3)) else (none)) else ((some (([] : List (S24)) : List (S24))).bind fun y125 => (if y125.length + l1.length < 2513169434916 then (some (a0, (⟨#[]⟩ : ByteArray), 0, (y125 ++ l1))) else (none)))) = some (r1, r2, r3, r4) := h
  clear h
  by_cases c3 : (l1.length : Int) = 1
  · rw [if_pos c3] at H
    have c3b0 : ((l1.length : Int) == 1) = true := beq_iff_eq.mpr c3
    have c3b1 : ((l1.length : Int) != 1) = false := bne_eq_false_iff_eq.mpr c3
    clear c3
    by_cases c4 : 0 < (l1.length : Int)
    · rw [if_pos c4] at H
      have c4b0 : decide (0 < (l1.length : Int)) = true := decide_eq_true c4
      have c4b1 : decide (0 < l1.length) = true := decide_eq_true (by omega)
      clear c4
      simp only [Option.some.injEq, Prod.mk.injEq] at H
      obtain ⟨rfl, rfl, rfl, rfl⟩ := H
      go_enter Tryd.func17, Tryd.ntmps17
      go_wp2_with (first | ((with_reducible refine gate_dst (N := 4) rfl ?_); refine box_event ?hg (N := 4) ?hd (cs := #[.int .i64 0, .string (⟨#[]⟩ : ByteArray), .int .i64 0, .slice none 0 0]) (t := 24) ?hr ?_; (case hd => rfl); (case hg => rfl); (case hr => first | (go_simp; done) | (go_simp; rfl)); intro gb123 hg w5 hbox hb; have n0_ := Aside0.mk (Kd.V_below (Kd.V_elderB (by (with_reducible repeat (first | apply Kd.V_alloc | apply Kd.V_drewN | apply Kd.V_drew)); exact HO1.out) gb123 (Nat.le_of_eq hg.symm)) hb); have n1_ := Aside0.mk (below_step (by repeat (first | (with_reducible first | exact HB.out | apply below_alloc | apply pw_below_drewN | apply below_drew1) | exact HB.out)) hb); have n2_ := Aside0.mk (hbox); have n3_ := Aside0.mk ((by rw [hg]; exact (below_size (by repeat (first | (with_reducible first | exact HB.out | apply below_alloc | apply pw_below_drewN | apply below_drew1) | exact HB.out))) : w.heap.size ≤ gb123)); have n4_ := Aside0.mk ((by rw [hg]; exact (below_size (by repeat (first | (with_reducible first | exact HB.out | apply below_alloc | apply pw_below_drewN | apply below_drew1) | exact HB.out))) : w.heap.size ≤ gb123)); clear HO1; clear HB; have HO1 := n0_; have HB := n1_; have BK123 := n2_; have GW123 := n3_; have GE123 := n4_; clear n0_ n1_ n2_ n3_ n4_; clear hb hbox hg; have p124 : 0 ≤ (0 : Int) := (by omega); have q124 : 0 < (l1.length : Int) := of_decide_eq_true (by first | (with_reducible assumption) | assumption); obtain ⟨ad124, A124_3, c124_3, e124, hx124_0, hx124_1, hx124_2, hx124_3, hl124_3, hi124_3⟩ := at_T24 (Kd.V_reads' HO1.out).2.2 0 p124 q124; cases e124; obtain ⟨ce124, hce124, hMe124, hcc124⟩ := Kd.V_get HO1.out z24 0 p124 (by first | exact q124 | exact of_decide_eq_true (by first | (with_reducible assumption) | assumption) | (have e_ := (Kd.V_reads' HO1.out).1; omega)); obtain ⟨ua124_3, uc124_3, rfl, ul124_3, ge124_3⟩ := k24_openF hMe124; have hv124_3 := hcc124 3 _ rfl; rw [add_field _ _ 3 (by omega)] at hv124_3; replace hv124_3 := Option.some.inj (hv124_3.symm.trans hx124_3); injection hv124_3 with hva_ hvn_ hvc_; rw [hva_] at ge124_3; rw [hvc_] at ul124_3; have HL124_3 := Aside0.mk (show Kd.V k24 24 _ w.heap.size _ _ ((rd_T24 l1 0).f3) from Kd.V_mk ul124_3 ge124_3); clear hva_ hvn_ hvc_ ge124_3 ul124_3; clear hcc124 hce124; have qi124 : (0 < l1.length) = True := eq_true (by omega); (try rw [show ((0 : Int)).toNat = 0 from rfl] at hx124_0); (try rw [show 0 * 4 = 0 from rfl] at hx124_0); (try rw [Addr.add_zero'] at hx124_0); (try rw [show ((0 : Int)).toNat = 0 from rfl] at hx124_1); (try rw [show 0 * 4 = 0 from rfl] at hx124_1); (try rw [Addr.add_zero'] at hx124_1); (try rw [show ((0 : Int)).toNat = 0 from rfl] at hx124_2); (try rw [show 0 * 4 = 0 from rfl] at hx124_2); (try rw [Addr.add_zero'] at hx124_2); (try rw [show ((0 : Int)).toNat = 0 from rfl] at hx124_3); (try rw [show 0 * 4 = 0 from rfl] at hx124_3); (try rw [Addr.add_zero'] at hx124_3); have HR124_3 := Aside0.mk hi124_3; have HC124_3 := Aside0.mk hl124_3; clear hi124_3 hl124_3; replace p124 := eq_true p124; replace q124 := eq_true q124; have hcz6_0 : w5.cell? ⟨gb123, 0, none⟩ = some (.int .i64 0) := (blk_cell BK123.out 0).trans rfl; have hcz6_1 : w5.cell? ⟨gb123, 1, none⟩ = some (.string (⟨#[]⟩ : ByteArray)) := (blk_cell BK123.out 1).trans rfl; have hcz6_2 : w5.cell? ⟨gb123, 2, none⟩ = some (.int .i64 0) := (blk_cell BK123.out 2).trans rfl; have hcz6_3 : w5.cell? ⟨gb123, 3, none⟩ = some (.slice none 0 0) := (blk_cell BK123.out 3).trans rfl; have hfz6_0 := blk_frozen BK123.out 0; have hfz6_1 := blk_frozen BK123.out 1; have hfz6_2 := blk_frozen BK123.out 2; have hfz6_3 := blk_frozen BK123.out 3))
      refine bodyPost_ret (results_cell_row rfl _ _ gb123 24 #[.int .i64 ((rd_T24 l1 0).f0), .string ((rd_T24 l1 0).f1), .int .i64 ((rd_T24 l1 0).f2), .slice A124_3 ((rd_T24 l1 0).f3).length c124_3] (0, 0) _ rfl (by (with_reducible repeat (first | refine blk_drewN ?_ _ | refine blk_drew ?_ | refine blk_alloc ?_ _)); refine blk_put (cs := #[.int .i64 ((rd_T24 l1 0).f0), .string ((rd_T24 l1 0).f1), .int .i64 ((rd_T24 l1 0).f2), .slice none 0 0]) ?_ 3 _ rfl; (with_reducible repeat (first | refine blk_drewN ?_ _ | refine blk_drew ?_ | refine blk_alloc ?_ _)); refine blk_put (cs := #[.int .i64 ((rd_T24 l1 0).f0), .string ((rd_T24 l1 0).f1), .int .i64 0, .slice none 0 0]) ?_ 2 _ rfl; (with_reducible repeat (first | refine blk_drewN ?_ _ | refine blk_drew ?_ | refine blk_alloc ?_ _)); refine blk_put (cs := #[.int .i64 ((rd_T24 l1 0).f0), .string (⟨#[]⟩ : ByteArray), .int .i64 0, .slice none 0 0]) ?_ 1 _ rfl; (with_reducible repeat (first | refine blk_drewN ?_ _ | refine blk_drew ?_ | refine blk_alloc ?_ _)); refine blk_put (cs := #[.int .i64 0, .string (⟨#[]⟩ : ByteArray), .int .i64 0, .slice none 0 0]) ?_ 0 _ rfl; (with_reducible repeat (first | refine blk_drewN ?_ _ | refine blk_drew ?_ | refine blk_alloc ?_ _)); exact BK123.out) Tryd.underlying24 rfl (by kernel_rfl)) rfl ?_
      exact ⟨_, by first | rfl | (simp [errW_none, errW_some] <;> rfl) | (simp [*, errW_none, errW_some] <;> rfl), by (with_reducible repeat (first | apply Kd.V_alloc | apply Kd.V_drewN | apply Kd.V_drew)); exact Kd.V_mono (Kd.V_far (p := ⟨gb123, 3, none⟩) (Kd.V_far (p := ⟨gb123, 2, none⟩) (Kd.V_far (p := ⟨gb123, 1, none⟩) (Kd.V_far (p := ⟨gb123, 0, none⟩) (Kd.V_mono HL124_3.out (fun k_ hk => (⟨hk, hk.2⟩ : _ ∧ k_ ≠ gb123))) (fun _ hk => hk.2) (.int .i64 ((rd_T24 l1 0).f0))) (fun _ hk => hk.2) (.string ((rd_T24 l1 0).f1))) (fun _ hk => hk.2) (.int .i64 ((rd_T24 l1 0).f2))) (fun _ hk => hk.2) (.slice A124_3 ((rd_T24 l1 0).f3).length c124_3)) (fun _ hk => hk.1.1), by repeat (first | (with_reducible first | exact HB.out | apply below_alloc | apply pw_below_drewN | apply below_drew1 | refine below_set ?_ GE123.out) | exact HB.out)⟩
    · rw [if_neg c4] at H
      exact absurd H (by simp)
  · rw [if_neg c3] at H
    have c3b0 : ((l1.length : Int) == 1) = false := beq_eq_false_iff_ne.mpr c3
    have c3b1 : ((l1.length : Int) != 1) = true := bne_iff_ne.mpr c3
    obtain ⟨y125, hy125⟩ : ∃ y_ : List (S24), y_ = (([] : List (S24))) := ⟨_, rfl⟩
    replace H : (if y125.length + l1.length < 2513169434916 then (some (a0, (⟨#[]⟩ : ByteArray), 0, (y125 ++ l1))) else (none)) = some (r1, r2, r3, r4) := by first | (rw [hy125]; with_reducible exact H) | (have H2_ := (Option.bind_some _ _).symm.trans H; rw [hy125]; with_reducible exact H2_) | (have H2_ := (Option.bind_some _ _).symm.trans H; with_reducible exact H2_) | with_reducible exact H | (rw [hy125]; exact H) | exact H
    have Ny125 := Aside0.mk hy125
    clear hy125
    by_cases c7 : y125.length + l1.length < 2513169434916
    · rw [if_pos c7] at H
      have LMc7 := Aside0.mk c7
      clear c7
      obtain ⟨y128, hy128⟩ : ∃ y_ : List (S24), y_ = (y125 ++ l1) := ⟨_, rfl⟩
      replace H : (some (a0, (⟨#[]⟩ : ByteArray), 0, y128)) = some (r1, r2, r3, r4) := by first | (rw [hy128]; with_reducible exact H) | (have H2_ := (Option.bind_some _ _).symm.trans H; rw [hy128]; with_reducible exact H2_) | (have H2_ := (Option.bind_some _ _).symm.trans H; with_reducible exact H2_) | with_reducible exact H | (rw [hy128]; exact H) | exact H
      have Ny128 := Aside0.mk hy128
      clear hy128
      simp only [Option.some.injEq, Prod.mk.injEq] at H
      obtain ⟨rfl, rfl, rfl, rfl⟩ := H
      go_enter Tryd.func17, Tryd.ntmps17
      go_wp2_with (first | ((with_reducible refine gate_dst (N := 4) rfl ?_); refine box_event ?hg (N := 4) ?hd (cs := #[.int .i64 0, .string (⟨#[]⟩ : ByteArray), .int .i64 0, .slice none 0 0]) (t := 24) ?hr ?_; (case hd => rfl); (case hg => rfl); (case hr => first | (go_simp; done) | (go_simp; rfl)); intro gb123 hg w8 hbox hb; have n0_ := Aside0.mk (Kd.V_below (Kd.V_elderB (by (with_reducible repeat (first | apply Kd.V_alloc | apply Kd.V_drewN | apply Kd.V_drew)); exact HO1.out) gb123 (Nat.le_of_eq hg.symm)) hb); have n1_ := Aside0.mk (below_step (by repeat (first | (with_reducible first | exact HB.out | apply below_alloc | apply pw_below_drewN | apply below_drew1) | exact HB.out)) hb); have n2_ := Aside0.mk (hbox); have n3_ := Aside0.mk ((by rw [hg]; exact (below_size (by repeat (first | (with_reducible first | exact HB.out | apply below_alloc | apply pw_below_drewN | apply below_drew1) | exact HB.out))) : w.heap.size ≤ gb123)); have n4_ := Aside0.mk ((by rw [hg]; exact (below_size (by repeat (first | (with_reducible first | exact HB.out | apply below_alloc | apply pw_below_drewN | apply below_drew1) | exact HB.out))) : w.heap.size ≤ gb123)); clear HO1; clear HB; have HO1 := n0_; have HB := n1_; have BK123 := n2_; have GW123 := n3_; have GE123 := n4_; clear n0_ n1_ n2_ n3_ n4_; clear hb hbox hg) | ((with_reducible refine gate_dst (N := 12) rfl ?_); refine Kd.N_lit k24 _ 24 ?hg (N' := 12) ?hd (xs := ([] : List (S24))) (inner := []) (ok := (fun k_ => (P1_ k_ ∨ w.heap.size ≤ k_) ∧ k_ ≠ gb123)) (okp := (fun k_ => (P1_ k_ ∨ w.heap.size ≤ k_) ∧ k_ ≠ gb123)) ?hr ?hp (fun _ hk => hk) ((show ∀ k_, w8.heap.size ≤ k_ → (fun k_ => (P1_ k_ ∨ w.heap.size ≤ k_) ∧ k_ ≠ gb123) k_ from fun k_ hk => ⟨(.inr (Nat.le_trans (below_size (by repeat (first | (with_reducible first | exact HB.out | apply below_alloc | apply pw_below_drewN | apply below_drew1 | refine below_set ?_ GE123.out) | exact HB.out))) hk)), Kd.freshB (g := gb123) (o := .cells #[.int .i64 0, .string (⟨#[]⟩ : ByteArray), .int .i64 0, .slice none 0 0] 24 (0, 0)) (by (with_reducible repeat (first | refine blk_drewN ?_ _ | refine blk_drew ?_ | refine blk_alloc ?_ _)); exact BK123.out) k_ hk⟩) _ (Nat.le_refl _)) (Below.refl _ _) (Nat.le_refl _) (by simp) ?_; (case hd => rfl); (case hg => rfl); (case hr => first | (go_simp; done) | (go_simp; rfl)); (case hp => exact (Reps.none _ _)); intro v126 w9 ho10 hb hg_ hnew_; clear hg_ hnew_; (first | rw [← Ny125.out] at ho10 | (simp only [Int.reduceToNat] at ho10; rw [← Ny125.out] at ho10)); have n0_ := Aside0.mk (Kd.V_elder' (by (with_reducible repeat (first | apply Kd.V_alloc | apply Kd.V_drewN | apply Kd.V_drew)); exact HO1.out) (Kd.N_base ho10) hb); have n1_ := Aside0.mk (Kd.N_lower ho10 (below_size (by repeat (first | (with_reducible first | exact HB.out | apply below_alloc | apply pw_below_drewN | apply below_drew1 | refine below_set ?_ GE123.out) | exact HB.out)))); have n2_ := Aside0.mk (blk_below (g := gb123) (o := .cells #[.int .i64 0, .string (⟨#[]⟩ : ByteArray), .int .i64 0, .slice none 0 0] 24 (0, 0)) (by (with_reducible repeat (first | refine blk_drewN ?_ _ | refine blk_drew ?_ | refine blk_alloc ?_ _)); exact BK123.out) hb); have n3_ := Aside0.mk (below_step (by repeat (first | (with_reducible first | exact HB.out | apply below_alloc | apply pw_below_drewN | apply below_drew1 | refine below_set ?_ GE123.out) | exact HB.out)) hb); clear HO1; clear BK123; clear HB; have HO1 := n0_; have HO127 := n1_; have BK123 := n2_; have HB := n3_; clear n0_ n1_ n2_ n3_; clear hb ho10) | ((with_reducible refine gate_builtin (b := .append) (xs := #[.tmp 12, .tmp 13]) rfl ?_); at_builtin; refine Kd.N_append_rows k24 (w0 := w) w.heap.size rfl (.tmp 12) (.tmp 13) 22 24 (.agg #[(.int .i64 0), (.string ⟨#[]⟩), (.int .i64 0), (.slice none 0 0)]) 56 rfl Tryd.underlying22 info24 rfl (by decide) (by omega) v126 y125 l1 _ _ _ (fun k_ => (P1_ k_ ∨ w.heap.size ≤ k_) ∧ k_ ≠ gb123) (fun k_ => ((fun k_ => (P1_ k_ ∨ w.heap.size ≤ k_) ∧ k_ ≠ gb123)) k_ ∧ some k_ ≠ (v126 : Value).ownBlock) rfl rfl ?aO ?aR (fun _ hk => hk) ?aF ?aB ?aS ?aL ?_; (case aR => exact (by skip; exact Kd.V_F (Kd.V_mono (ok' := (fun k_ => ((fun k_ => (P1_ k_ ∨ w.heap.size ≤ k_) ∧ k_ ≠ gb123)) k_ ∧ some k_ ≠ (v126 : Value).ownBlock)) (HO1.out) (fun k_ hk => ⟨⟨hk.1.1, hk.1.2⟩, hk.2⟩)))); (case aB => exact (by repeat (first | (with_reducible first | exact HB.out | apply below_alloc | apply pw_below_drewN | apply below_drew1 | refine below_set ?_ GE123.out) | exact HB.out))); (case aF => exact (fun k_ hk => ⟨(.inr (Nat.le_trans (below_size (by repeat (first | (with_reducible first | exact HB.out | apply below_alloc | apply pw_below_drewN | apply below_drew1 | refine below_set ?_ GE123.out) | exact HB.out))) hk)), Kd.freshB (g := gb123) (o := .cells #[.int .i64 0, .string (⟨#[]⟩ : ByteArray), .int .i64 0, .slice none 0 0] 24 (0, 0)) (by (with_reducible repeat (first | refine blk_drewN ?_ _ | refine blk_drew ?_ | refine blk_alloc ?_ _)); exact BK123.out) k_ hk⟩)); (case aO => exact (by (with_reducible repeat (first | apply Kd.N_alloc | apply Kd.N_drewN | apply Kd.N_drew)); exact HO127.out)); (case aS => exact (below_size (by repeat (first | (with_reducible first | exact HB.out | apply below_alloc | apply pw_below_drewN | apply below_drew1 | refine below_set ?_ GE123.out) | exact HB.out)))); (case aL => have := LMc7.out; omega); intro v129 w11 ho hb hg hat; rw [← Ny128.out] at ho; have n0_ := Aside0.mk (Kd.V_afterv (ok := (fun k_ => (P1_ k_ ∨ w.heap.size ≤ k_) ∧ k_ ≠ gb123)) (by (with_reducible repeat (first | apply Kd.V_alloc | apply Kd.V_drewN | apply Kd.V_drew)); exact HO1.out) hg hat); have n1_ := Aside0.mk (blk_grown (g := gb123) (o := .cells #[.int .i64 0, .string (⟨#[]⟩ : ByteArray), .int .i64 0, .slice none 0 0] 24 (0, 0)) (by (with_reducible repeat (first | refine blk_drewN ?_ _ | refine blk_drew ?_ | refine blk_alloc ?_ _)); exact BK123.out) hg (Kd.N_away HO127.out (fun _ hk => hk.2))); have n2_ := Aside0.mk (hb); have n3_ := Aside0.mk (ho); clear HO1; clear BK123; clear HB; clear HO127; have HO1 := n0_; have BK123 := n1_; have HB := n2_; have HO130 := n3_; clear n0_ n1_ n2_ n3_; clear ho hb hg hat; obtain ⟨Ao12, co12, eo12⟩ := Kd.N_slice HO130.out; subst eo12; have hcz13_0 : w11.cell? ⟨gb123, 0, none⟩ = some (.int .i64 0) := (blk_cell BK123.out 0).trans rfl; have hcz13_1 : w11.cell? ⟨gb123, 1, none⟩ = some (.string (⟨#[]⟩ : ByteArray)) := (blk_cell BK123.out 1).trans rfl; have hcz13_2 : w11.cell? ⟨gb123, 2, none⟩ = some (.int .i64 0) := (blk_cell BK123.out 2).trans rfl; have hcz13_3 : w11.cell? ⟨gb123, 3, none⟩ = some (.slice none 0 0) := (blk_cell BK123.out 3).trans rfl; have hfz13_0 := blk_frozen BK123.out 0; have hfz13_1 := blk_frozen BK123.out 1; have hfz13_2 := blk_frozen BK123.out 2; have hfz13_3 := blk_frozen BK123.out 3))
      refine bodyPost_ret (results_cell_row rfl _ _ gb123 24 #[.int .i64 a0, .string (⟨#[]⟩ : ByteArray), .int .i64 0, .slice Ao12 y128.length co12] (0, 0) _ rfl (by (with_reducible repeat (first | refine blk_drewN ?_ _ | refine blk_drew ?_ | refine blk_alloc ?_ _)); refine blk_put (cs := #[.int .i64 a0, .string (⟨#[]⟩ : ByteArray), .int .i64 0, .slice none 0 0]) ?_ 3 _ rfl; (with_reducible repeat (first | refine blk_drewN ?_ _ | refine blk_drew ?_ | refine blk_alloc ?_ _)); refine blk_put (cs := #[.int .i64 a0, .string (⟨#[]⟩ : ByteArray), .int .i64 0, .slice none 0 0]) ?_ 2 _ rfl; (with_reducible repeat (first | refine blk_drewN ?_ _ | refine blk_drew ?_ | refine blk_alloc ?_ _)); refine blk_put (cs := #[.int .i64 a0, .string (⟨#[]⟩ : ByteArray), .int .i64 0, .slice none 0 0]) ?_ 1 _ rfl; (with_reducible repeat (first | refine blk_drewN ?_ _ | refine blk_drew ?_ | refine blk_alloc ?_ _)); refine blk_put (cs := #[.int .i64 0, .string (⟨#[]⟩ : ByteArray), .int .i64 0, .slice none 0 0]) ?_ 0 _ rfl; (with_reducible repeat (first | refine blk_drewN ?_ _ | refine blk_drew ?_ | refine blk_alloc ?_ _)); exact BK123.out) Tryd.underlying24 rfl (by kernel_rfl)) rfl ?_
      exact ⟨_, by first | rfl | (simp [errW_none, errW_some] <;> rfl) | (simp [*, errW_none, errW_some] <;> rfl), Kd.N_V (by (with_reducible repeat (first | apply Kd.N_alloc | apply Kd.N_drewN | apply Kd.N_drew)); exact Kd.N_mono (Kd.N_far (p := ⟨gb123, 3, none⟩) (Kd.N_far (p := ⟨gb123, 2, none⟩) (Kd.N_far (p := ⟨gb123, 1, none⟩) (Kd.N_far (p := ⟨gb123, 0, none⟩) (Kd.N_mono HO130.out (fun k_ hk => (⟨hk, hk.2⟩ : _ ∧ k_ ≠ gb123))) (fun _ hk => hk.2) (.int .i64 a0)) (fun _ hk => hk.2) (.string (⟨#[]⟩ : ByteArray))) (fun _ hk => hk.2) (.int .i64 0)) (fun _ hk => hk.2) (.slice Ao12 y128.length co12)) (fun _ hk => hk.1.1)), by repeat (first | (with_reducible first | exact HB.out | apply below_alloc | apply pw_below_drewN | apply below_drew1 | refine below_set ?_ GE123.out) | exact HB.out)⟩
    · rw [if_neg c7] at H
      exact absurd H (by simp)

/-! ### spec_TermOfWord: function 10 -/
def spec_TermOfWord.l0 : Nat → ByteArray → List (S24) → Int → Option (Int × ByteArray × Int × (List (S24)) × Bool)
  | 0, _, _, _ => none
  | k + 1, x0, x4, x5 => if x5 < (x0.size : Int) then (if 0 ≤ x5 then ((spec_l36Letter.f (bt x0 x5) 1).bind fun t135 => (if t135 < 0 then (some (0, (⟨#[]⟩ : ByteArray), 0, ([] : List (S24)), false)) else (if x4.length < 2513169434916 then (spec_TermOfWord.l0 k x0 (x4 ++ [(⟨t135, (⟨#[]⟩ : ByteArray), 0, ([] : List (S24))⟩ : S24)]) (wrap64 (x5 + 1))) else (none)))) else (none)) else (if (x4.length : Int) = 0 then (some (0, (⟨#[]⟩ : ByteArray), 0, ([] : List (S24)), true)) else ((spec_l11Value.f 4 x4).bind fun bt139 => (some (bt139.1, bt139.2.1, bt139.2.2.1, bt139.2.2.2, true))))
def spec_TermOfWord.f (k : Nat) (a0 : ByteArray) : Option (Int × ByteArray × Int × (List (S24)) × Bool) := if (a0.size : Int) > 7 then (some (0, (⟨#[]⟩ : ByteArray), 0, ([] : List (S24)), false)) else (spec_TermOfWord.l0 k a0 (([] : List (S24))) 0)
theorem spec_TermOfWord.mono_l : ∀ k, (∀ y0 y1 y2, LeO (spec_TermOfWord.l0 k y0 y1 y2) (spec_TermOfWord.l0 (k + 1) y0 y1 y2))
  | 0 => fun _ _ _ r h => by simp [spec_TermOfWord.l0] at h
  | k + 1 => by
    have ih0 := spec_TermOfWord.mono_l k
    · intro y0 y1 y2
      unfold spec_TermOfWord.l0
      repeat' first
      | (with_reducible exact ih0 _ _ _)
      | (with_reducible exact LeO.refl _)
      | (with_reducible exact LeO.none _)
      | (with_reducible refine LeO.ite ?_ ?_)
      | (with_reducible refine LeO.bind ?_ (fun _ => ?_))
      | exact ih0 _ _ _
      | exact LeO.none _
      | refine LeO.ite ?_ ?_
      | refine LeO.bind ?_ (fun _ => ?_)
theorem spec_TermOfWord.mono : ∀ a0 k, LeO (spec_TermOfWord.f k a0) (spec_TermOfWord.f (k + 1) a0) := by
  intro a0 k
  have ih0 := spec_TermOfWord.mono_l k
  unfold spec_TermOfWord.f
  repeat' first
      | (with_reducible exact ih0 _ _ _)
      | (with_reducible exact LeO.refl _)
      | (with_reducible exact LeO.none _)
      | (with_reducible refine LeO.ite ?_ ?_)
      | (with_reducible refine LeO.bind ?_ (fun _ => ?_))
      | exact ih0 _ _ _
      | exact LeO.none _
      | refine LeO.ite ?_ ?_
      | refine LeO.bind ?_ (fun _ => ?_)
set_option maxHeartbeats 8000000 in
set_option maxRecDepth 100000 in
theorem spec_TermOfWord.calls (k : Nat) (a0 : ByteArray) (r1 : Int) (r2 : ByteArray) (r3 : Int) (r4 : List (S24)) (r5 : Bool) (w : World) (h : spec_TermOfWord.f k a0 = some (r1, r2, r3, r4, r5)) :
    Calls Tryd.prog 10 #[.string a0] w fun e w' => ∃ v3_ : Value, e = .returned (.tuple #[.agg #[.int .i64 r1, .string r2, .int .i64 r3, v3_], .bool r5]) ∧ Kd.V k24 24 w' w.heap.size (fun k_ => (w.heap.size ≤ k_)) v3_ r4 ∧ Below w.heap.size w w' := by
  have hu24 := Tryd.underlying24
  have HB := Aside0.mk (Below.refl w.heap.size w)
  have H : (if (a0.size : Int) > 7 then (some (0, (⟨#[]⟩ : ByteArray), 0, ([] : List (S24)), false)) else (spec_TermOfWord.l0 k a0 (([] : List (S24))) 0)) = some (r1, r2, r3, r4, r5) := h
  clear h
  by_cases c2 : (a0.size : Int) > 7
  · rw [if_pos c2] at H
    have c2b0 : decide (7 < (a0.size : Int)) = true := decide_eq_true c2
    have c2b1 : decide (7 < a0.size) = true := decide_eq_true (by omega)
    clear c2
    simp only [Option.some.injEq, Prod.mk.injEq] at H
    obtain ⟨rfl, rfl, rfl, rfl, rfl⟩ := H
    go_enter Tryd.func10, Tryd.ntmps10
    go_wp2_with (first | ((with_reducible refine gate_dst (N := 2) rfl ?_); refine box_event ?hg (N := 2) ?hd (cs := #[.int .i64 0, .string (⟨#[]⟩ : ByteArray), .int .i64 0, .slice none 0 0]) (t := 24) ?hr ?_; (case hd => rfl); (case hg => rfl); (case hr => first | (go_simp; done) | (go_simp; rfl)); intro gb131 hg w3 hbox hb; have n0_ := Aside0.mk (below_step (by repeat (first | (with_reducible first | exact HB.out | apply below_alloc | apply pw_below_drewN | apply below_drew1) | exact HB.out)) hb); have n1_ := Aside0.mk (hbox); have n2_ := Aside0.mk ((by rw [hg]; exact (below_size (by repeat (first | (with_reducible first | exact HB.out | apply below_alloc | apply pw_below_drewN | apply below_drew1) | exact HB.out))) : w.heap.size ≤ gb131)); have n3_ := Aside0.mk ((by rw [hg]; exact (below_size (by repeat (first | (with_reducible first | exact HB.out | apply below_alloc | apply pw_below_drewN | apply below_drew1) | exact HB.out))) : w.heap.size ≤ gb131)); clear HB; have HB := n0_; have BK131 := n1_; have GW131 := n2_; have GE131 := n3_; clear n0_ n1_ n2_ n3_; clear hb hbox hg; have hcz4_0 : w3.cell? ⟨gb131, 0, none⟩ = some (.int .i64 0) := (blk_cell BK131.out 0).trans rfl; have hcz4_1 : w3.cell? ⟨gb131, 1, none⟩ = some (.string (⟨#[]⟩ : ByteArray)) := (blk_cell BK131.out 1).trans rfl; have hcz4_2 : w3.cell? ⟨gb131, 2, none⟩ = some (.int .i64 0) := (blk_cell BK131.out 2).trans rfl; have hcz4_3 : w3.cell? ⟨gb131, 3, none⟩ = some (.slice none 0 0) := (blk_cell BK131.out 3).trans rfl; have hfz4_0 := blk_frozen BK131.out 0; have hfz4_1 := blk_frozen BK131.out 1; have hfz4_2 := blk_frozen BK131.out 2; have hfz4_3 := blk_frozen BK131.out 3))
    refine bodyPost_ret (results_ct rfl _ _ gb131 24 #[.int .i64 0, .string (⟨#[]⟩ : ByteArray), .int .i64 0, .slice none 0 0] (0, 0) _ rfl (by (with_reducible repeat (first | refine blk_drewN ?_ _ | refine blk_drew ?_ | refine blk_alloc ?_ _)); refine blk_put (cs := #[.int .i64 0, .string (⟨#[]⟩ : ByteArray), .int .i64 0, .slice none 0 0]) ?_ 3 _ rfl; (with_reducible repeat (first | refine blk_drewN ?_ _ | refine blk_drew ?_ | refine blk_alloc ?_ _)); refine blk_put (cs := #[.int .i64 0, .string (⟨#[]⟩ : ByteArray), .int .i64 0, .slice none 0 0]) ?_ 2 _ rfl; (with_reducible repeat (first | refine blk_drewN ?_ _ | refine blk_drew ?_ | refine blk_alloc ?_ _)); refine blk_put (cs := #[.int .i64 0, .string (⟨#[]⟩ : ByteArray), .int .i64 0, .slice none 0 0]) ?_ 1 _ rfl; (with_reducible repeat (first | refine blk_drewN ?_ _ | refine blk_drew ?_ | refine blk_alloc ?_ _)); refine blk_put (cs := #[.int .i64 0, .string (⟨#[]⟩ : ByteArray), .int .i64 0, .slice none 0 0]) ?_ 0 _ rfl; (with_reducible repeat (first | refine blk_drewN ?_ _ | refine blk_drew ?_ | refine blk_alloc ?_ _)); exact BK131.out) Tryd.underlying24 rfl (by kernel_rfl)) rfl ?_
    exact ⟨_, by first | rfl | (simp [errW_none, errW_some] <;> rfl) | (simp [*, errW_none, errW_some] <;> rfl), Kd.R_V (by first | exact Kd.R_nil _ _ _ 0 _ | exact Kd.N_nil _ _ _ _ _ | exact Kd.V_nil _ _ _ _ _ | exact Kd.Q_nil _ _ _ _ _ | exact Kd.R_nil _ _ _ 0 _), by repeat (first | (with_reducible first | exact HB.out | apply below_alloc | apply pw_below_drewN | apply below_drew1 | refine below_set ?_ GE131.out) | exact HB.out)⟩
  · rw [if_neg c2] at H
    have c2b0 : decide (7 < (a0.size : Int)) = false := decide_eq_false c2
    have c2b1 : decide (7 < a0.size) = false := decide_eq_false (by omega)
    clear c2
    obtain ⟨y132, hy132⟩ : ∃ y_ : List (S24), y_ = (([] : List (S24))) := ⟨_, rfl⟩
    replace H : (spec_TermOfWord.l0 k a0 y132 0) = some (r1, r2, r3, r4, r5) := by first | (rw [hy132]; with_reducible exact H) | (have H2_ := (Option.bind_some _ _).symm.trans H; rw [hy132]; with_reducible exact H2_) | (have H2_ := (Option.bind_some _ _).symm.trans H; with_reducible exact H2_) | with_reducible exact H | (rw [hy132]; exact H) | exact H
    have Ny132 := Aside0.mk hy132
    clear hy132
    have H' := Aside0.mk H
    clear H
    go_enter Tryd.func10, Tryd.ntmps10
    go_wp2_with (first | ((with_reducible refine gate_dst (N := 2) rfl ?_); refine box_event ?hg (N := 2) ?hd (cs := #[.int .i64 0, .string (⟨#[]⟩ : ByteArray), .int .i64 0, .slice none 0 0]) (t := 24) ?hr ?_; (case hd => rfl); (case hg => rfl); (case hr => first | (go_simp; done) | (go_simp; rfl)); intro gb131 hg w5 hbox hb; have n0_ := Aside0.mk (below_step (by repeat (first | (with_reducible first | exact HB.out | apply below_alloc | apply pw_below_drewN | apply below_drew1) | exact HB.out)) hb); have n1_ := Aside0.mk (hbox); have n2_ := Aside0.mk ((by rw [hg]; exact (below_size (by repeat (first | (with_reducible first | exact HB.out | apply below_alloc | apply pw_below_drewN | apply below_drew1) | exact HB.out))) : w.heap.size ≤ gb131)); have n3_ := Aside0.mk ((by rw [hg]; exact (below_size (by repeat (first | (with_reducible first | exact HB.out | apply below_alloc | apply pw_below_drewN | apply below_drew1) | exact HB.out))) : w.heap.size ≤ gb131)); clear HB; have HB := n0_; have BK131 := n1_; have GW131 := n2_; have GE131 := n3_; clear n0_ n1_ n2_ n3_; clear hb hbox hg) | ((with_reducible refine gate_dst (N := 11) rfl ?_); refine Kd.R_lit k24 _ 24 ?hg (N := 11) ?hd (xs := ([] : List (S24))) (inner := []) (ok := fun _ => True) (okp := fun _ => True) ?hr ?hp (fun _ hk => hk) trivial (Below.refl _ _) (Nat.le_refl _) (by simp) ?_; (case hd => rfl); (case hg => rfl); (case hr => first | (go_simp; done) | (go_simp; rfl)); (case hp => exact (Reps.none _ _)); intro v133 w6 ho7 hb hg_ hnew_; clear hg_ hnew_; (first | rw [← Ny132.out] at ho7 | (simp only [Int.reduceToNat] at ho7; rw [← Ny132.out] at ho7)); have n0_ := Aside0.mk (Kd.R_lower (Kd.R_newB (Kd.R_newM (M := fun k_ => (w.heap.size ≤ k_)) ho7 (below_size (by repeat (first | (with_reducible first | exact HB.out | apply below_alloc | apply pw_below_drewN | apply below_drew1 | refine below_set ?_ GE131.out) | exact HB.out))) (fun k_ h_ => h_)) (g := gb131) (o := .cells #[.int .i64 0, .string (⟨#[]⟩ : ByteArray), .int .i64 0, .slice none 0 0] 24 (0, 0)) (by (with_reducible repeat (first | refine blk_drewN ?_ _ | refine blk_drew ?_ | refine blk_alloc ?_ _)); exact BK131.out)) (below_size (by repeat (first | (with_reducible first | exact HB.out | apply below_alloc | apply pw_below_drewN | apply below_drew1 | refine below_set ?_ GE131.out) | exact HB.out)))); have n1_ := Aside0.mk (blk_below (g := gb131) (o := .cells #[.int .i64 0, .string (⟨#[]⟩ : ByteArray), .int .i64 0, .slice none 0 0] 24 (0, 0)) (by (with_reducible repeat (first | refine blk_drewN ?_ _ | refine blk_drew ?_ | refine blk_alloc ?_ _)); exact BK131.out) hb); have n2_ := Aside0.mk (below_step (by repeat (first | (with_reducible first | exact HB.out | apply below_alloc | apply pw_below_drewN | apply below_drew1 | refine below_set ?_ GE131.out) | exact HB.out)) hb); clear BK131; clear HB; have HO134 := n0_; have BK131 := n1_; have HB := n2_; clear n0_ n1_ n2_; clear hb ho7))
    go_loopg [4, 5] k (fun kq v4 v5 w' => ∃ (x4_1 : List (S24)) (x5_1 : Int) (x132000_1 : Int) (x132001_1 : ByteArray) (x132002_1 : Int), v5 = .int .i64 x5_1 ∧ Aside0 (spec_TermOfWord.l0 kq a0 x4_1 x5_1 = some (r1, r2, r3, r4, r5)) ∧ Aside0 (kq ≤ k) ∧ Aside0 (Kd.R k24 24 w' w.heap.size (fun k_ => (w.heap.size ≤ k_) ∧ k_ ≠ gb131) v4 x4_1) ∧ Aside0 (w'.heap[gb131]? = some (.cells #[.int .i64 x132000_1, .string x132001_1, .int .i64 x132002_1, (.slice none 0 0)] 24 (0, 0))) ∧ Aside0 (Below w.heap.size w w'))
    case atStart => exact ⟨(y132), (0), (0), ((⟨#[]⟩ : ByteArray)), (0), (by first | rfl | (simp; done) | (simp [*]; done)), H', ⟨Nat.le_refl _⟩, ⟨by (with_reducible repeat (first | apply Kd.R_alloc | apply Kd.R_drewN | apply Kd.R_drew)); exact Kd.R_mono HO134.out (fun _ hk => ⟨hk.1.1, hk.2⟩)⟩, ⟨by (with_reducible repeat (first | refine blk_drewN ?_ _ | refine blk_drew ?_ | refine blk_alloc ?_ _)); exact BK131.out⟩, ⟨by repeat (first | (with_reducible first | exact HB.out | apply below_alloc | apply pw_below_drewN | apply below_drew1 | refine below_set ?_ GE131.out) | exact HB.out)⟩⟩
    case round =>
      clear H'
      try clear c1
      try clear c2
      try clear c2b0
      try clear c2b1
      try clear p2
      try clear hcz4_0
      try clear hcz4_1
      try clear hcz4_2
      try clear hcz4_3
      try clear hfz4_0
      try clear hfz4_1
      try clear hfz4_2
      try clear hfz4_3
      obtain ⟨x4_1, x5_1, x132000_1, x132001_1, x132002_1, rfl, HA, HK1, HO_4, BK131, HB⟩ := hrel
      cases gk with
      | zero => exact absurd HA.out (by simp [spec_TermOfWord.l0])
      | succ k1 =>
        have H := HA.out
        clear HA
        simp only [spec_TermOfWord.l0] at H
        by_cases c8 : x5_1 < (a0.size : Int)
        · rw [if_pos c8] at H
          have c8b0 : decide (x5_1 < (a0.size : Int)) = true := decide_eq_true c8
          clear c8
          by_cases c9 : 0 ≤ x5_1
          · rw [if_pos c9] at H
            have c9b0 : decide (0 ≤ x5_1) = true := decide_eq_true c9
            clear c9
            replace H := Option.bind_eq_some_iff.mp H
            obtain ⟨t135, A110, H⟩ := H
            replace H : (if t135 < 0 then (some (0, (⟨#[]⟩ : ByteArray), 0, ([] : List (S24)), false)) else (if x4_1.length < 2513169434916 then (spec_TermOfWord.l0 k1 a0 (x4_1 ++ [(⟨t135, (⟨#[]⟩ : ByteArray), 0, ([] : List (S24))⟩ : S24)]) (wrap64 (x5_1 + 1))) else (none))) = some (r1, r2, r3, r4, r5) := H
            have A11 := Aside0.mk A110
            clear A110
            by_cases c12 : t135 < 0
            · rw [if_pos c12] at H
              have c12b0 : decide (t135 < 0) = true := decide_eq_true c12
              clear c12
              simp only [Option.some.injEq, Prod.mk.injEq] at H
              obtain ⟨rfl, rfl, rfl, rfl, rfl⟩ := H
              have p10 : 0 ≤ (x5_1 : Int) := of_decide_eq_true (by first | (with_reducible assumption) | assumption)
              have q10 : x5_1 < (a0.size : Int) := of_decide_eq_true (by first | (with_reducible assumption) | assumption)
              have hx10 := bt_at a0 x5_1
              replace p10 := eq_true p10
              replace q10 := eq_true q10
              go_wp2_with (first | ((with_reducible refine gate_callee (f := 12) rfl ?_); refine goesL_ (some 21) rfl rfl Tryd.func12 (by kernel_rfl) rfl #[.int .u8 (bt a0 x5_1), .int .i64 1] rfl (by (try simp only [List.map_toArray, List.map_cons, List.map_nil]); first | done | rfl | (simp only [List.length_drop, List.length_take]; rfl)) ?_; (with_reducible refine (spec_l36Letter.calls (bt a0 x5_1) 1 t135 _ A11.out).mono ?_); rintro e w' ⟨rfl, ⟨nd, rfl⟩⟩; refine ⟨_, rfl, ?_⟩; (try (rw [drewN_self wr]; generalize hq_ : World.drewN wr _ = wr; have n0_ : Aside0 (Kd.R k24 24 wr w.heap.size (fun k_ => (w.heap.size ≤ k_) ∧ k_ ≠ gb131) u4 x4_1) := ⟨by rw [← hq_]; exact (by (with_reducible repeat (first | apply Kd.R_alloc | apply Kd.R_drewN | apply Kd.R_drew)); exact HO_4.out)⟩; have n1_ : Aside0 (wr.heap[gb131]? = some (.cells #[.int .i64 x132000_1, .string x132001_1, .int .i64 x132002_1, .slice none 0 0] 24 (0, 0))) := ⟨by rw [← hq_]; exact (by (with_reducible repeat (first | refine blk_drewN ?_ _ | refine blk_drew ?_ | refine blk_alloc ?_ _)); exact BK131.out)⟩; have n2_ : Aside0 (Below w.heap.size w wr) := ⟨by rw [← hq_]; exact (by repeat (first | (with_reducible first | exact HB.out | apply below_alloc | apply pw_below_drewN | apply below_drew1 | refine below_set ?_ GE131.out) | exact HB.out))⟩; clear HO_4 BK131 HB hq_; have HO_4 := n0_; have BK131 := n1_; have HB := n2_; clear n0_ n1_ n2_)); have hcz13_0 : wr.cell? ⟨gb131, 0, none⟩ = some (.int .i64 x132000_1) := (blk_cell BK131.out 0).trans rfl; have hcz13_1 : wr.cell? ⟨gb131, 1, none⟩ = some (.string x132001_1) := (blk_cell BK131.out 1).trans rfl; have hcz13_2 : wr.cell? ⟨gb131, 2, none⟩ = some (.int .i64 x132002_1) := (blk_cell BK131.out 2).trans rfl; have hcz13_3 : wr.cell? ⟨gb131, 3, none⟩ = some (.slice none 0 0) := (blk_cell BK131.out 3).trans rfl; have hfz13_0 := blk_frozen BK131.out 0; have hfz13_1 := blk_frozen BK131.out 1; have hfz13_2 := blk_frozen BK131.out 2; have hfz13_3 := blk_frozen BK131.out 3))
              refine bodyPost_ret (results_ct rfl _ _ gb131 24 #[.int .i64 0, .string (⟨#[]⟩ : ByteArray), .int .i64 0, .slice none 0 0] (0, 0) _ rfl (by (with_reducible repeat (first | refine blk_drewN ?_ _ | refine blk_drew ?_ | refine blk_alloc ?_ _)); refine blk_put (cs := #[.int .i64 0, .string (⟨#[]⟩ : ByteArray), .int .i64 0, .slice none 0 0]) ?_ 3 _ rfl; (with_reducible repeat (first | refine blk_drewN ?_ _ | refine blk_drew ?_ | refine blk_alloc ?_ _)); refine blk_put (cs := #[.int .i64 0, .string (⟨#[]⟩ : ByteArray), .int .i64 x132002_1, .slice none 0 0]) ?_ 2 _ rfl; (with_reducible repeat (first | refine blk_drewN ?_ _ | refine blk_drew ?_ | refine blk_alloc ?_ _)); refine blk_put (cs := #[.int .i64 0, .string x132001_1, .int .i64 x132002_1, .slice none 0 0]) ?_ 1 _ rfl; (with_reducible repeat (first | refine blk_drewN ?_ _ | refine blk_drew ?_ | refine blk_alloc ?_ _)); refine blk_put (cs := #[.int .i64 x132000_1, .string x132001_1, .int .i64 x132002_1, .slice none 0 0]) ?_ 0 _ rfl; (with_reducible repeat (first | refine blk_drewN ?_ _ | refine blk_drew ?_ | refine blk_alloc ?_ _)); exact BK131.out) Tryd.underlying24 rfl (by kernel_rfl)) rfl ?_
              exact ⟨_, by first | rfl | (simp [errW_none, errW_some] <;> rfl) | (simp [*, errW_none, errW_some] <;> rfl), Kd.R_V (by first | exact Kd.R_nil _ _ _ 0 _ | exact Kd.N_nil _ _ _ _ _ | exact Kd.V_nil _ _ _ _ _ | exact Kd.Q_nil _ _ _ _ _ | exact Kd.R_nil _ _ _ 0 _), by repeat (first | (with_reducible first | exact HB.out | apply below_alloc | apply pw_below_drewN | apply below_drew1 | refine below_set ?_ GE131.out) | exact HB.out)⟩
            · rw [if_neg c12] at H
              have c12b0 : decide (t135 < 0) = false := decide_eq_false c12
              clear c12
              by_cases c14 : x4_1.length < 2513169434916
              · rw [if_pos c14] at H
                have LMc14 := Aside0.mk c14
                clear c14
                obtain ⟨y136, hy136⟩ : ∃ y_ : List (S24), y_ = (x4_1 ++ [(⟨t135, (⟨#[]⟩ : ByteArray), 0, ([] : List (S24))⟩ : S24)]) := ⟨_, rfl⟩
                replace H : (spec_TermOfWord.l0 k1 a0 y136 (wrap64 (x5_1 + 1))) = some (r1, r2, r3, r4, r5) := by first | (rw [hy136]; with_reducible exact H) | (have H2_ := (Option.bind_some _ _).symm.trans H; rw [hy136]; with_reducible exact H2_) | (have H2_ := (Option.bind_some _ _).symm.trans H; with_reducible exact H2_) | with_reducible exact H | (rw [hy136]; exact H) | exact H
                have Ny136 := Aside0.mk hy136
                clear hy136
                have H' := Aside0.mk H
                clear H
                have p10 : 0 ≤ (x5_1 : Int) := of_decide_eq_true (by first | (with_reducible assumption) | assumption)
                have q10 : x5_1 < (a0.size : Int) := of_decide_eq_true (by first | (with_reducible assumption) | assumption)
                have hx10 := bt_at a0 x5_1
                replace p10 := eq_true p10
                replace q10 := eq_true q10
                go_wp2_with (first | ((with_reducible refine gate_callee (f := 12) rfl ?_); refine goesL_ (some 21) rfl rfl Tryd.func12 (by kernel_rfl) rfl #[.int .u8 (bt a0 x5_1), .int .i64 1] rfl (by (try simp only [List.map_toArray, List.map_cons, List.map_nil]); first | done | rfl | (simp only [List.length_drop, List.length_take]; rfl)) ?_; (with_reducible refine (spec_l36Letter.calls (bt a0 x5_1) 1 t135 _ A11.out).mono ?_); rintro e w' ⟨rfl, ⟨nd, rfl⟩⟩; refine ⟨_, rfl, ?_⟩) | ((with_reducible refine gate_builtin (b := .append) (xs := #[.tmp 25, .tmp 28]) rfl ?_); at_builtin; refine Kd.R_append k24 (w0 := w) w.heap.size rfl (.tmp 25) (.tmp 28) 22 24 (.agg #[(.int .i64 0), (.string ⟨#[]⟩), (.int .i64 0), (.slice none 0 0)]) 56 rfl Tryd.underlying22 info24 rfl (by decide) (by omega) u4 x4_1 (⟨t135, (⟨#[]⟩ : ByteArray), 0, ([] : List (S24))⟩ : S24) [.int .i64 t135, .string (⟨#[]⟩ : ByteArray), .int .i64 0, .slice none 0 0] (fun k_ => (w.heap.size ≤ k_) ∧ k_ ≠ gb131) (fun k_ => ((fun k_ => (w.heap.size ≤ k_) ∧ k_ ≠ gb131)) k_ ∧ some k_ ≠ (u4 : Value).ownBlock) rfl rfl ?aP (fun _ hk => hk) ?aF ?aO ?aB ?aS ?aL ?_; (case aP => exact k24_mkM _ _ _ (⟨t135, (⟨#[]⟩ : ByteArray), 0, ([] : List (S24))⟩ : S24) (Kd.R_nil _ _ _ _ _)); (case aB => exact (by repeat (first | (with_reducible first | exact HB.out | apply below_alloc | apply pw_below_drewN | apply below_drew1 | refine below_set ?_ GE131.out) | exact HB.out))); (case aF => exact (fun k_ hk => ⟨(Nat.le_trans (below_size (by repeat (first | (with_reducible first | exact HB.out | apply below_alloc | apply pw_below_drewN | apply below_drew1 | refine below_set ?_ GE131.out) | exact HB.out))) hk), Kd.freshB (g := gb131) (o := .cells #[.int .i64 x132000_1, .string x132001_1, .int .i64 x132002_1, .slice none 0 0] 24 (0, 0)) (by (with_reducible repeat (first | refine blk_drewN ?_ _ | refine blk_drew ?_ | refine blk_alloc ?_ _)); exact BK131.out) k_ hk⟩)); (case aO => exact (by (with_reducible repeat (first | apply Kd.R_alloc | apply Kd.R_drewN | apply Kd.R_drew)); exact HO_4.out)); (case aS => exact (below_size (by repeat (first | (with_reducible first | exact HB.out | apply below_alloc | apply pw_below_drewN | apply below_drew1 | refine below_set ?_ GE131.out) | exact HB.out)))); (case aL => have := LMc14.out; omega); intro v137 w15 ho hb hg hat; rw [← Ny136.out] at ho; have n0_ := Aside0.mk (blk_grown (g := gb131) (o := .cells #[.int .i64 x132000_1, .string x132001_1, .int .i64 x132002_1, .slice none 0 0] 24 (0, 0)) (by (with_reducible repeat (first | refine blk_drewN ?_ _ | refine blk_drew ?_ | refine blk_alloc ?_ _)); exact BK131.out) hg (Kd.R_away HO_4.out (fun _ hk => hk.2))); have n1_ := Aside0.mk (hb); have n2_ := Aside0.mk (ho); clear BK131; clear HB; clear HO_4; have BK131 := n0_; have HB := n1_; have HO138 := n2_; clear n0_ n1_ n2_; clear ho hb hg hat))
                go_roundg k1
                case measure => have := HK1.out; omega
                case rel => exact ⟨(y136), (wrap64 (x5_1 + 1)), (x132000_1), (x132001_1), (x132002_1), (by first | rfl | (simp; done) | (simp [*]; done)), H', ⟨by have := HK1.out; omega⟩, ⟨by (with_reducible repeat (first | apply Kd.R_alloc | apply Kd.R_drewN | apply Kd.R_drew)); exact HO138.out⟩, ⟨by (with_reducible repeat (first | refine blk_drewN ?_ _ | refine blk_drew ?_ | refine blk_alloc ?_ _)); exact BK131.out⟩, ⟨by repeat (first | (with_reducible first | exact HB.out | apply below_alloc | apply pw_below_drewN | apply below_drew1 | refine below_set ?_ GE131.out) | exact HB.out)⟩⟩
              · rw [if_neg c14] at H
                exact absurd H (by simp)
          · rw [if_neg c9] at H
            exact absurd H (by simp)
        · rw [if_neg c8] at H
          have c8b0 : decide (x5_1 < (a0.size : Int)) = false := decide_eq_false c8
          clear c8
          by_cases c16 : (x4_1.length : Int) = 0
          · rw [if_pos c16] at H
            have c16b0 : ((x4_1.length : Int) == 0) = true := beq_iff_eq.mpr c16
            have c16b1 : ((x4_1.length : Int) != 0) = false := bne_eq_false_iff_eq.mpr c16
            clear c16
            simp only [Option.some.injEq, Prod.mk.injEq] at H
            obtain ⟨rfl, rfl, rfl, rfl, rfl⟩ := H
            obtain ⟨Ao17, co17, eo17⟩ := Kd.R_slice HO_4.out
            subst eo17
            have hcz18_0 : wr.cell? ⟨gb131, 0, none⟩ = some (.int .i64 x132000_1) := (blk_cell BK131.out 0).trans rfl
            have hcz18_1 : wr.cell? ⟨gb131, 1, none⟩ = some (.string x132001_1) := (blk_cell BK131.out 1).trans rfl
            have hcz18_2 : wr.cell? ⟨gb131, 2, none⟩ = some (.int .i64 x132002_1) := (blk_cell BK131.out 2).trans rfl
            have hcz18_3 : wr.cell? ⟨gb131, 3, none⟩ = some (.slice none 0 0) := (blk_cell BK131.out 3).trans rfl
            have hfz18_0 := blk_frozen BK131.out 0
            have hfz18_1 := blk_frozen BK131.out 1
            have hfz18_2 := blk_frozen BK131.out 2
            have hfz18_3 := blk_frozen BK131.out 3
            go_wp2
            refine bodyPost_ret (results_ct rfl _ _ gb131 24 #[.int .i64 0, .string (⟨#[]⟩ : ByteArray), .int .i64 0, .slice none 0 0] (0, 0) _ rfl (by (with_reducible repeat (first | refine blk_drewN ?_ _ | refine blk_drew ?_ | refine blk_alloc ?_ _)); refine blk_put (cs := #[.int .i64 0, .string (⟨#[]⟩ : ByteArray), .int .i64 0, .slice none 0 0]) ?_ 3 _ rfl; (with_reducible repeat (first | refine blk_drewN ?_ _ | refine blk_drew ?_ | refine blk_alloc ?_ _)); refine blk_put (cs := #[.int .i64 0, .string (⟨#[]⟩ : ByteArray), .int .i64 x132002_1, .slice none 0 0]) ?_ 2 _ rfl; (with_reducible repeat (first | refine blk_drewN ?_ _ | refine blk_drew ?_ | refine blk_alloc ?_ _)); refine blk_put (cs := #[.int .i64 0, .string x132001_1, .int .i64 x132002_1, .slice none 0 0]) ?_ 1 _ rfl; (with_reducible repeat (first | refine blk_drewN ?_ _ | refine blk_drew ?_ | refine blk_alloc ?_ _)); refine blk_put (cs := #[.int .i64 x132000_1, .string x132001_1, .int .i64 x132002_1, .slice none 0 0]) ?_ 0 _ rfl; (with_reducible repeat (first | refine blk_drewN ?_ _ | refine blk_drew ?_ | refine blk_alloc ?_ _)); exact BK131.out) Tryd.underlying24 rfl (by kernel_rfl)) rfl ?_
            exact ⟨_, by first | rfl | (simp [errW_none, errW_some] <;> rfl) | (simp [*, errW_none, errW_some] <;> rfl), Kd.R_V (by first | exact Kd.R_nil _ _ _ 0 _ | exact Kd.N_nil _ _ _ _ _ | exact Kd.V_nil _ _ _ _ _ | exact Kd.Q_nil _ _ _ _ _ | exact Kd.R_nil _ _ _ 0 _), by repeat (first | (with_reducible first | exact HB.out | apply below_alloc | apply pw_below_drewN | apply below_drew1 | refine below_set ?_ GE131.out) | exact HB.out)⟩
          · rw [if_neg c16] at H
            have c16b0 : ((x4_1.length : Int) == 0) = false := beq_eq_false_iff_ne.mpr c16
            have c16b1 : ((x4_1.length : Int) != 0) = true := bne_iff_ne.mpr c16
            have c16b2 : ¬ (x4_1 = []) := fun h_ => c16 (by rw [h_]; rfl)
            replace H := Option.bind_eq_some_iff.mp H
            obtain ⟨⟨t139, t140, t141, t142⟩, A190, H⟩ := H
            replace H : (some (t139, t140, t141, t142, true)) = some (r1, r2, r3, r4, r5) := H
            have A19 := Aside0.mk A190
            clear A190
            simp only [Option.some.injEq, Prod.mk.injEq] at H
            obtain ⟨rfl, rfl, rfl, rfl, rfl⟩ := H
            obtain ⟨Ao20, co20, eo20⟩ := Kd.R_slice HO_4.out
            subst eo20
            go_wp2_with (first | ((with_reducible refine gate_callee (f := 17) rfl ?_); refine goesL_ (some 35) rfl rfl Tryd.func17 (by kernel_rfl) rfl #[.int .i64 4, .slice Ao20 x4_1.length co20] rfl (by (try simp only [List.map_toArray, List.map_cons, List.map_nil]); first | done | rfl | (simp only [List.length_drop, List.length_take]; rfl)) ?_; (with_reducible refine (spec_l11Value.calls 4 (fun k_ => ((w.heap.size ≤ k_) ∧ k_ ≠ gb131)) _ _ x4_1 t139 t140 t141 t142 _ ?side1 A19.out).mono ?_); (case side1 => exact Kd.R_V (HO_4.out)); rintro e w21 ⟨v143, rfl, ho0, hb⟩; refine ⟨_, rfl, ?_⟩; have n0_ := Aside0.mk (Kd.R_below (by (with_reducible repeat (first | apply Kd.R_alloc | apply Kd.R_drewN | apply Kd.R_drew)); exact HO_4.out) hb); have n1_ := Aside0.mk (Kd.V_lower (Kd.V_mono (ok' := fun k_ => (w.heap.size ≤ k_) ∧ k_ ≠ gb131) ho0 (fun k_ hk_ => ⟨Or.elim hk_ (fun hs_ => hs_.1) (fun hn_ => (Nat.le_trans (below_size (by repeat (first | (with_reducible first | exact HB.out | apply below_alloc | apply pw_below_drewN | apply below_drew1 | refine below_set ?_ GE131.out) | exact HB.out))) hn_)), Or.elim hk_ (fun hs_ => hs_.2) (fun hn_ => (Kd.freshB (g := gb131) (o := .cells #[.int .i64 x132000_1, .string x132001_1, .int .i64 x132002_1, .slice none 0 0] 24 (0, 0)) (by (with_reducible repeat (first | refine blk_drewN ?_ _ | refine blk_drew ?_ | refine blk_alloc ?_ _)); exact BK131.out) k_ hn_))⟩)) (below_size (by repeat (first | (with_reducible first | exact HB.out | apply below_alloc | apply pw_below_drewN | apply below_drew1 | refine below_set ?_ GE131.out) | exact HB.out)))); have n2_ := Aside0.mk (blk_below (g := gb131) (o := .cells #[.int .i64 x132000_1, .string x132001_1, .int .i64 x132002_1, .slice none 0 0] 24 (0, 0)) (by (with_reducible repeat (first | refine blk_drewN ?_ _ | refine blk_drew ?_ | refine blk_alloc ?_ _)); exact BK131.out) hb); have n3_ := Aside0.mk (below_step (by repeat (first | (with_reducible first | exact HB.out | apply below_alloc | apply pw_below_drewN | apply below_drew1 | refine below_set ?_ GE131.out) | exact HB.out)) hb); clear HO_4; clear BK131; clear HB; have HO_4 := n0_; have HO144 := n1_; have BK131 := n2_; have HB := n3_; clear n0_ n1_ n2_ n3_; (try clear hb); (try clear hb2); (try clear hk); (try clear hi); (try clear ho0); have hcz22_0 : w21.cell? ⟨gb131, 0, none⟩ = some (.int .i64 x132000_1) := (blk_cell BK131.out 0).trans rfl; have hcz22_1 : w21.cell? ⟨gb131, 1, none⟩ = some (.string x132001_1) := (blk_cell BK131.out 1).trans rfl; have hcz22_2 : w21.cell? ⟨gb131, 2, none⟩ = some (.int .i64 x132002_1) := (blk_cell BK131.out 2).trans rfl; have hcz22_3 : w21.cell? ⟨gb131, 3, none⟩ = some (.slice none 0 0) := (blk_cell BK131.out 3).trans rfl; have hfz22_0 := blk_frozen BK131.out 0; have hfz22_1 := blk_frozen BK131.out 1; have hfz22_2 := blk_frozen BK131.out 2; have hfz22_3 := blk_frozen BK131.out 3; obtain ⟨Ao23, co23, eo23⟩ := Kd.V_slice HO144.out; subst eo23))
            refine bodyPost_ret (results_ct rfl _ _ gb131 24 #[.int .i64 t139, .string t140, .int .i64 t141, .slice Ao23 t142.length co23] (0, 0) _ rfl (by (with_reducible repeat (first | refine blk_drewN ?_ _ | refine blk_drew ?_ | refine blk_alloc ?_ _)); refine blk_put (cs := #[.int .i64 t139, .string t140, .int .i64 t141, .slice none 0 0]) ?_ 3 _ rfl; (with_reducible repeat (first | refine blk_drewN ?_ _ | refine blk_drew ?_ | refine blk_alloc ?_ _)); refine blk_put (cs := #[.int .i64 t139, .string t140, .int .i64 x132002_1, .slice none 0 0]) ?_ 2 _ rfl; (with_reducible repeat (first | refine blk_drewN ?_ _ | refine blk_drew ?_ | refine blk_alloc ?_ _)); refine blk_put (cs := #[.int .i64 t139, .string x132001_1, .int .i64 x132002_1, .slice none 0 0]) ?_ 1 _ rfl; (with_reducible repeat (first | refine blk_drewN ?_ _ | refine blk_drew ?_ | refine blk_alloc ?_ _)); refine blk_put (cs := #[.int .i64 x132000_1, .string x132001_1, .int .i64 x132002_1, .slice none 0 0]) ?_ 0 _ rfl; (with_reducible repeat (first | refine blk_drewN ?_ _ | refine blk_drew ?_ | refine blk_alloc ?_ _)); exact BK131.out) Tryd.underlying24 rfl (by kernel_rfl)) rfl ?_
            exact ⟨_, by first | rfl | (simp [errW_none, errW_some] <;> rfl) | (simp [*, errW_none, errW_some] <;> rfl), by (with_reducible repeat (first | apply Kd.V_alloc | apply Kd.V_drewN | apply Kd.V_drew)); exact Kd.V_mono (Kd.V_far (p := ⟨gb131, 3, none⟩) (Kd.V_far (p := ⟨gb131, 2, none⟩) (Kd.V_far (p := ⟨gb131, 1, none⟩) (Kd.V_far (p := ⟨gb131, 0, none⟩) (Kd.V_mono HO144.out (fun k_ hk => (⟨hk, hk.2⟩ : _ ∧ k_ ≠ gb131))) (fun _ hk => hk.2) (.int .i64 t139)) (fun _ hk => hk.2) (.string t140)) (fun _ hk => hk.2) (.int .i64 t141)) (fun _ hk => hk.2) (.slice Ao23 t142.length co23)) (fun _ hk => hk.1.1), by repeat (first | (with_reducible first | exact HB.out | apply below_alloc | apply pw_below_drewN | apply below_drew1 | refine below_set ?_ GE131.out) | exact HB.out)⟩

end Go.Proofs.YtfnkobcmhbdcoabDoor.XTm
end
section
/- laws.heldTerm over what laws.markTerm has left: the plain law. -/



namespace Go.Proofs.YtfnkobcmhbdcoabDoor.HeldT
open Go.RowKit Go.Proofs.YtfnkobcmhbdcoabDoorW.PrintWords Go.Proofs.YtfnkobcmhbdcoabDoorW.PrintLast Go.Proofs.YtfnkobcmhbdcoabDoor.Base Go.Proofs.YtfnkobcmhbdcoabDoor.XTypes Go.Proofs.YtfnkobcmhbdcoabDoor.PureInts Go.Proofs.YtfnkobcmhbdcoabDoor.Typed Go.Proofs.YtfnkobcmhbdcoabDoor.Trees Go.Proofs.YtfnkobcmhbdcoabDoor.XTm Go.Proofs.YtfnkobcmhbdcoabDoor.EqT Go.Proofs.YtfnkobcmhbdcoabDoor.MarkT
set_option linter.unusedVariables false
set_option linter.unusedSimpArgs false
set_option linter.unnecessarySimpa false

theorem mt_ev {k : Nat} (h : k < 9223372036854775808) : Ev (fun n => laws_markText.f n (k : Int)) (mt k) := Ev.of (laws_markText.mono _) (mt_is h)
def HdL (ts : List T) : Prop := ∀ k : Nat, k + 3 * nodL ts < 9223372036854775800 → Ev (fun n => laws_heldTermS.f n (mkL ts k) (k : Int)) ((k + 3 * nodL ts : Nat) : Int)
theorem held_loop (ts : List T) (h : ∀ t ∈ ts, HdL t.f3) (k : Nat) (hk : k + 3 * nodL ts < 9223372036854775800) (hlen : ts.length < 9223372036854775800) : ∀ (d i : Nat), ts.length - i = d → i ≤ ts.length →
    Ev (fun n => laws_heldTermS.l0 n (mkL ts k) ((k + 3 * nodL (ts.take i) : Nat) : Int) (i : Int)) ((k + 3 * nodL ts : Nat) : Int) := by
  intro d
  induction d with
  | zero =>
    intro i hd hi
    obtain rfl : i = ts.length := by omega
    refine Ev.step (fun k => by simp only [laws_heldTermS.l0]; rfl) (Ev.neg (by rw [mkL_len]; omega) (Ev.some_eq ?_))
    rw [List.take_length]
  | succ d ih =>
    intro i hd hi
    have hlt : i < ts.length := by omega
    have hlt' : i < (mkL ts k).length := by rw [mkL_len]; omega
    have hsp := nodL_split hlt
    have hT := h ts[i] (List.getElem_mem _)
    have hget : (mkL ts k)[i]'hlt' = mkT ts[i] (k + 3 * nodL (ts.take i)) := by
      have e : ts = ts.take i ++ ts[i] :: ts.drop (i + 1) := by rw [List.getElem_cons_drop, List.take_append_drop]
      have e2 : mkL ts k = mkL (ts.take i) k ++ mkT ts[i] (k + 3 * nodL (ts.take i)) :: mkL (ts.drop (i + 1)) (k + 3 * nodL (ts.take i) + 3 * nod ts[i]) := by
        conv => lhs; rw [e, mkL_append]
        simp only [mkL]
      have e3 : (mkL ts k)[i]? = some (mkT ts[i] (k + 3 * nodL (ts.take i))) := by
        rw [e2, List.getElem?_append_right (by rw [mkL_len, List.length_take]; omega)]
        have : i - (mkL (ts.take i) k).length = 0 := by rw [mkL_len, List.length_take]; omega
        rw [this]
        rfl
      exact (List.getElem?_eq_some_iff.1 e3).2
    have hnx : nodL (ts.take (i + 1)) = nodL (ts.take i) + (1 + nodL ts[i].f3) := by
      rw [List.take_succ_eq_append_getElem hlt, nodL_append]
      cases ts[i]
      simp [nodL, nod]
    have hrd : rd_T24 (mkL ts k) (i : Int) = mkT ts[i] (k + 3 * nodL (ts.take i)) := by rw [rd_T hlt', hget]
    refine Ev.step (fun k => by simp only [laws_heldTermS.l0]; rfl) (Ev.pos (by rw [mkL_len]; omega) (Ev.pos (by omega) ?_))
    rw [hrd]
    generalize hq : k + 3 * nodL (ts.take i) = q at *
    generalize ts[i] = t at *
    obtain ⟨op, nm, st, us⟩ := t
    simp only [mkT]
    simp only [] at hsp hnx hT
    rw [wrap_succ (by omega), wrap_succ (by omega), wrap_succ (by omega)]
    clear hrd hget
    refine Ev.pos trivial ?_
    refine Ev.bind (mt_ev (k := q + 1) (by omega)) ?_
    refine Ev.pos (c := (mt (q + 1)).toList = (mt (q + 1)).toList) rfl ?_
    refine Ev.pos (by omega) ?_
    refine Ev.bind (hT (q + 3) (by omega)) ?_
    refine Ev.neg (by omega) ?_
    rw [wrap_succ (by omega)]
    have e : q + 3 + 3 * nodL us = k + 3 * nodL (ts.take (i + 1)) := by rw [hnx]; omega
    rw [e]
    exact ih (i + 1) (by omega) (by omega)
theorem len_nod (ts : List T) : ts.length ≤ nodL ts := by
  induction ts with
  | nil => simp [nodL]
  | cons t ts ih =>
    cases t
    simp only [List.length_cons, nodL, nod]
    omega
theorem heldL_of (ts : List T) (h : ∀ t ∈ ts, HdL t.f3) : HdL ts := by
  intro k hk
  have := len_nod ts
  refine Ev.step (fun k => by simp only [laws_heldTermS.f]; rfl) ?_
  have := held_loop ts h k hk (by omega) ts.length 0 (by omega) (by omega)
  simpa [nodL] using this
theorem heldL_all (ts : List T) : HdL ts := by
  have key : ∀ t : T, HdL t.f3 := (T.ind (P := fun t => HdL t.f3) (Q := fun ts => ∀ t ∈ ts, HdL t.f3) (fun op nm st ts ih => heldL_of ts ih) (fun t ht => by cases ht) (fun t ts iht ihs t' ht => by
    rcases List.mem_cons.1 ht with rfl | ht
    · exact iht
    · exact ihs t' ht)).1
  exact heldL_of ts (fun t _ => key t)

/-! ### the three, for a term -/
theorem held_any (op st : Int) (nm : ByteArray) (ts : List T) (k : Nat) (hk : k + 3 * nodL ts < 9223372036854775800) {va : Value} {w : World} (hr : RdL w va (mkL ts k)) :
    Calls Tryd.prog 9 #[.agg #[.int .i64 op, .string nm, .int .i64 st, va], .int .i64 k] w fun e w' => e = .returned (.int .i64 (k + 3 * nodL ts : Nat)) ∧ Below w.heap.size w w' := by
  obtain ⟨A, c, rfl, hc, hC⟩ := hr
  have h : Ev (fun n => laws_heldTerm.f n op nm st (mkL ts k) (k : Int)) ((k + 3 * nodL ts : Nat) : Int) := by
    unfold laws_heldTerm.f
    exact Ev.bind (heldL_all ts k hk) (Ev.neg (by omega) (Ev.now _))
  obtain ⟨n, hn⟩ := h.rounds
  exact laws_heldTerm.calls n op nm st A c (mkL ts k) (k : Int) _ w hC hc hn
set_option maxHeartbeats 1000000 in
set_option maxRecDepth 100000 in
theorem mark_any (op st : Int) (nm : ByteArray) (ts : List T) (k : Nat) (hk : k + 3 * nodL ts < 9223372036854775800) {va : Value} {S : List Nat} {w : World} (hw : OwL w va ts S) :
    Calls Tryd.prog 8 #[.agg #[.int .i64 op, .string nm, .int .i64 st, va], .int .i64 k] w fun e w' => e = .returned (.int .i64 (k + 3 * nodL ts : Nat)) ∧ OwL w' va (mkL ts k) S ∧ Stirs S w w' := by
  have HW := Lib.hid hw
  clear hw
  go_enter Tryd.func8, Tryd.ntmps8
  go_wp2_with fail
  refine name_calls ?_
  intro W1 hW
  have hb : Below w.heap.size w W1 := by rw [hW]; repeat (first | exact Below.refl _ _ | apply below_alloc)
  have hw1 : OwL W1 va ts S := HW.out.frame (fun k hk => hb.block k (HW.out.lt k hk))
  have t1 : Stirs S w W1 := Stirs.of_below hb
  clear hW hb
  refine ((markL_all ts).use hw1 hk).mono ?_
  rintro e W2 ⟨rfl, h2, t2⟩
  have H2 := Lib.hid h2
  have T2 := Lib.hid (t1.trans t2)
  clear h2 t1 t2 hw1
  go_wp2_with fail
  go_ret
  exact ⟨rfl, H2.out, T2.out⟩
theorem eq_any (op st : Int) (nm : ByteArray) (ts : List T) {v v' : Value} {w : World} (hr : RdL w v ts) (hr' : RdL w v' ts) :
    Calls Tryd.prog 7 #[.agg #[.int .i64 op, .string nm, .int .i64 st, v], .agg #[.int .i64 op, .string nm, .int .i64 st, v']] w fun e w' => e = .returned (.bool true) ∧ Below w.heap.size w w' := (eq_all ⟨op, nm, st, ts⟩).use hr hr'
end Go.Proofs.YtfnkobcmhbdcoabDoor.HeldT
end
section
/- NumeralTerm: the program's, whose tree is its own, and the reference's. -/

namespace Go.Proofs.YtfnkobcmhbdcoabDoor.NumT
open Go.RowKit Go.Proofs.YtfnkobcmhbdcoabDoorW.PrintWords Go.Proofs.YtfnkobcmhbdcoabDoorW.PrintLast Go.Proofs.YtfnkobcmhbdcoabDoor.Base Go.Proofs.YtfnkobcmhbdcoabDoor.XTypes Go.Proofs.YtfnkobcmhbdcoabDoor.PureInts Go.Proofs.YtfnkobcmhbdcoabDoor.Typed Go.Proofs.YtfnkobcmhbdcoabDoor.Trees Go.Proofs.YtfnkobcmhbdcoabDoor.XTm Go.Proofs.YtfnkobcmhbdcoabDoor.EqT Go.Proofs.YtfnkobcmhbdcoabDoor.MarkT Go.Proofs.YtfnkobcmhbdcoabDoor.HeldT
set_option linter.unusedVariables false
set_option linter.unusedSimpArgs false
set_option linter.unnecessarySimpa false

/-- The row of one term. -/
theorem OwL.one {w : World} {op st : Int} {nm : ByteArray} {va : Value} {ts : List T} {S : List Nat} {g : Nat} (hg : w.heap[g]? = some (.cells #[.int .i64 op, .string nm, .int .i64 st, va] 24 (0, 0))) (hw : OwL w va ts S) (hn : g ∉ S) : OwL w (.slice (some ⟨g, 0, none⟩) 1 1) [⟨op, nm, st, ts⟩] (g :: S) :=
  .inr ⟨g, 1, _, S, rfl, Nat.le_refl _, by decide, hg, rfl, OwC_cons.2 ⟨_, [], S, [], rfl, by simp, OwT_iff.2 ⟨va, rfl, hw⟩, OwC_nil.2 ⟨rfl, rfl⟩, fun k _ hk => by cases hk⟩, rfl, hn⟩
theorem OwL.nil (w : World) : OwL w (.slice none 0 0) [] [] := .inl ⟨rfl, rfl, rfl⟩
theorem name_post {P : Program} {f : Func} {Q : Ending → World → Prop} {e : Exit} {a : Act} {w : World} (h : ∀ W, W = w → bodyPost P f Q e a W) : bodyPost P f Q e a w := h w rfl
theorem forall8 {α : Sort _} {a b c d e f g h : α → Prop} (H : ∀ o, a o ∧ b o ∧ c o ∧ d o ∧ e o ∧ f o ∧ g o ∧ h o) : (∀ o, a o) ∧ (∀ o, b o) ∧ (∀ o, c o) ∧ (∀ o, d o) ∧ (∀ o, e o) ∧ (∀ o, f o) ∧ (∀ o, g o) ∧ (∀ o, h o) :=
  ⟨fun o => (H o).1, fun o => (H o).2.1, fun o => (H o).2.2.1, fun o => (H o).2.2.2.1, fun o => (H o).2.2.2.2.1, fun o => (H o).2.2.2.2.2.1, fun o => (H o).2.2.2.2.2.2.1, fun o => (H o).2.2.2.2.2.2.2⟩
end Go.Proofs.YtfnkobcmhbdcoabDoor.NumT
end
section
/- FnExactNumeralTerm: the walk. -/

namespace Go.Proofs.YtfnkobcmhbdcoabDoor.LawNum
open Go.RowKit Go.Proofs.YtfnkobcmhbdcoabDoorW.PrintWords Go.Proofs.YtfnkobcmhbdcoabDoorW.PrintLast Go.Proofs.YtfnkobcmhbdcoabDoor.Base Go.Proofs.YtfnkobcmhbdcoabDoor.XTypes Go.Proofs.YtfnkobcmhbdcoabDoor.PureInts Go.Proofs.YtfnkobcmhbdcoabDoor.Typed Go.Proofs.YtfnkobcmhbdcoabDoor.Trees Go.Proofs.YtfnkobcmhbdcoabDoor.XTm Go.Proofs.YtfnkobcmhbdcoabDoor.EqT Go.Proofs.YtfnkobcmhbdcoabDoor.MarkT Go.Proofs.YtfnkobcmhbdcoabDoor.HeldT Go.Proofs.YtfnkobcmhbdcoabDoor.NumT
set_option linter.unusedVariables false
set_option linter.unusedSimpArgs false
set_option linter.unnecessarySimpa false

/-- What comes back: a term that is the caller's own. -/
def Gives (o : Int) (ts : List T) (b : Bool) (w : World) (e : Ending) (w' : World) : Prop := ∃ va S, e = .returned (.tuple #[.agg #[.int .i64 o, .string ⟨#[]⟩, .int .i64 0, va], .bool b]) ∧ OwL w' va ts S ∧ (∀ k ∈ S, w.heap.size ≤ k) ∧ Below w.heap.size w w'
/-- What comes back: a term that can be read. -/
def Shows (o : Int) (ts : List T) (b : Bool) (w : World) (e : Ending) (w' : World) : Prop := ∃ va, e = .returned (.tuple #[.agg #[.int .i64 o, .string ⟨#[]⟩, .int .i64 0, va], .bool b]) ∧ RdL w' va ts ∧ Below w.heap.size w w'

theorem boxed {W W2 : World} {e : Nat} {a b c d : Value} (h : W2 = W.alloc (.cells #[a, b, c, d] e)) : W2.heap[W.heap.size]? = some (.cells #[a, b, c, d] e (0, 0)) ∧ Below W.heap.size W W2 := by
  subst h
  exact ⟨blk_new _ _, below_alloc (Below.refl _ _) _⟩
theorem mark_one (op st : Int) (nm : ByteArray) (ts : List T) (m : Nat) (hm : m = 1 + 3 * nodL ts) (hn : 3 * nodL ts ≤ 1000) {va : Value} {S : List Nat} {w : World} (hw : OwL w va ts S) :
    Calls Tryd.prog 8 #[.agg #[.int .i64 op, .string nm, .int .i64 st, va], .int .i64 1] w fun e w' => e = .returned (.int .i64 m) ∧ OwL w' va (mkL ts 1) S ∧ Stirs S w w' := by
  have h := mark_any op st nm ts 1 (by omega) hw
  rw [← hm] at h
  exact h
theorem held_one (op st : Int) (nm : ByteArray) (ts : List T) (m : Nat) (hm : m = 1 + 3 * nodL ts) (hn : 3 * nodL ts ≤ 1000) {va : Value} {w : World} (hr : RdL w va (mkL ts 1)) :
    Calls Tryd.prog 9 #[.agg #[.int .i64 op, .string nm, .int .i64 st, va], .int .i64 1] w fun e w' => e = .returned (.int .i64 m) ∧ Below w.heap.size w w' := by
  have h := held_any op st nm ts 1 (by omega) hr
  rw [← hm] at h
  exact h
/-- What stands: nothing older than W2 has moved (the reference's answer lies there), and the program's answer is owned and boxed. -/
structure Stand (w W2 : World) (bg : Nat) (o : Int) (vg : Value) (ts : List T) (S : List Nat) (W : World) : Prop where
  b : Below w.heap.size w W
  bb : Below W2.heap.size W2 W
  sz : w.heap.size ≤ W2.heap.size
  ow : OwL W vg ts S
  box : W.heap[bg]? = some (.cells #[.int .i64 o, .string ⟨#[]⟩, .int .i64 0, vg] 24 (0, 0))
  far : ∀ k ∈ S, W2.heap.size ≤ k ∧ k ≠ bg
theorem Stand.below {w W2 W W' : World} {bg : Nat} {o : Int} {vg : Value} {ts : List T} {S : List Nat} (h : Stand w W2 bg o vg ts S W) (hb : Below W.heap.size W W') : Stand w W2 bg o vg ts S W' :=
  ⟨below_to h.b hb h.b.size, below_to h.bb hb h.bb.size, h.sz, h.ow.frame (fun k hk => hb.block k (h.ow.lt k hk)), blk_below h.box hb, h.far⟩
theorem Stand.mark {w W2 W W' : World} {bg : Nat} {o : Int} {vg : Value} {ts ts' : List T} {S : List Nat} (h : Stand w W2 bg o vg ts S W) (ho : OwL W' vg ts' S) (ht : Stirs S W W') : Stand w W2 bg o vg ts' S W' :=
  ⟨h.b.trans (ht.below (n := w.heap.size) h.b.size (fun k hk => Nat.le_trans h.sz (h.far k hk).1)), h.bb.trans (ht.below (n := W2.heap.size) h.bb.size (fun k hk => (h.far k hk).1)), h.sz, ho, (ht.block bg (heap_lt h.box) (fun hk => (h.far bg hk).2 rfl)).trans h.box, h.far⟩
theorem Stand.start {w W2 W W' : World} {o : Int} {vg : Value} {ts : List T} {S : List Nat} (h2 : Below w.heap.size w W2) (h : Below W2.heap.size W2 W) (ho : OwL W vg ts S) (hs : ∀ k ∈ S, W2.heap.size ≤ k) (hW : W' = W.alloc (.cells #[.int .i64 o, .string ⟨#[]⟩, .int .i64 0, vg] 24)) : Stand w W2 W.heap.size o vg ts S W' := by
  have hb : Below W.heap.size W W' := by rw [hW]; exact below_alloc (Below.refl _ _) _
  refine ⟨below_to (below_to h2 h h2.size) hb (Nat.le_trans h2.size h.size), below_to h hb h.size, h2.size, ho.frame (fun k hk => hb.block k (ho.lt k hk)), ?_, fun k hk => ⟨hs k hk, by have := ho.lt k hk; omega⟩⟩
  rw [hW]
  exact blk_new _ _

end Go.Proofs.YtfnkobcmhbdcoabDoor.LawNum
end
