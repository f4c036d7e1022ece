/- What is asked of a call, type by type: read, owned; the laws' helpers over integers' slices and pairs of them. -/
import Derived.Test.YtfnkobcmhbdcoaaPureInts
import Derived.Below
namespace Go.Proofs.Ytfnkobcmhbdcoaa.Typed
open Go.RowKit Go.Proofs.YtfnkobcmhbdcoaaW.PrintWords Go.Proofs.YtfnkobcmhbdcoaaW.PrintLast Go.Proofs.Ytfnkobcmhbdcoaa.Base Go.Proofs.Ytfnkobcmhbdcoaa.XTypes Go.Proofs.Ytfnkobcmhbdcoaa.XInts Go.Proofs.Ytfnkobcmhbdcoaa.PureInts
set_option linter.unusedVariables false
set_option linter.unusedSimpArgs false
set_option linter.unnecessarySimpa false

/-! ### cells that hold -/
/-- Some cells, and what they hold. -/
def Cells (w : World) (l : List (Nat × Nat × Value)) : Prop := ∀ p ∈ l, w.cell? ⟨p.1, p.2.1, none⟩ = some p.2.2
theorem Cells.nil (w : World) : Cells w [] := fun _ h => by cases h
theorem cell_lt {w : World} {a : Addr} {v : Value} (h : w.cell? a = some v) : a.block < w.heap.size := World.block_lt_of_cell? w _ h
theorem Cells.below {w w' : World} {l : List (Nat × Nat × Value)} (h : Cells w l) (hb : Below w.heap.size w w') : Cells w' l := fun p hp => by
  have := h p hp
  rw [hb.cell (cell_lt this)]
  exact this
/-- Only blocks in S may have changed. -/
theorem Cells.kept {w w' : World} {l : List (Nat × Nat × Value)} {S : Nat → Prop} (h : Cells w l) (hk : Kept w w' S) (hS : ∀ p ∈ l, ¬ S p.1) : Cells w' l := fun p hp => by
  have := h p hp
  have hl := cell_lt this
  rw [World.cell?_of_block (w := w) (hk.2 p.1 hl (hS p hp))]
  exact this
theorem Cells.cons {w : World} {l : List (Nat × Nat × Value)} {b o : Nat} {v : Value} (h0 : w.cell? ⟨b, o, none⟩ = some v) (h : Cells w l) : Cells w ((b, o, v) :: l) := fun p hp => by
  rcases List.mem_cons.1 hp with rfl | hp
  · exact h0
  · exact h p hp
theorem Cells.at {w : World} {l : List (Nat × Nat × Value)} (h : Cells w l) (i : Nat) {b o : Nat} {v : Value} (hi : l[i]? = some (b, o, v)) : w.cell? ⟨b, o, none⟩ = some v := h _ (List.mem_of_getElem? hi)

/-! ### integers' slices -/
def RdI (w : World) (v : Value) (l : List Int) : Prop := ∃ A c, v = .slice A l.length c ∧ l.length ≤ c ∧ Kd.C (Kd.int .i64) w A l.length l
theorem RdI.below {w w' : World} {v : Value} {l : List Int} (h : RdI w v l) (hb : Below w.heap.size w w') : RdI w' v l := by
  obtain ⟨A, c, e, hc, hr⟩ := h
  exact ⟨A, c, e, hc, Kd.C_below hr hb⟩
/-- The blocks of a row. -/
def Fp (v : Value) : Nat → Prop := fun k => v.ownBlock = some k
/-- Owned: a row from block base on. -/
def OwI (base : Nat) (w : World) (v : Value) (l : List Int) : Prop := Kd.R (Kd.int .i64) 3 w base (Fp v) v l
theorem OwI.of {base : Nat} {w : World} {ok : Nat → Prop} {v : Value} {l : List Int} (h : Kd.R (Kd.int .i64) 3 w base ok v l) : OwI base w v l :=
  ⟨fun _ hk => hk, h.2⟩
theorem OwI.rd {base : Nat} {w : World} {v : Value} {l : List Int} (h : OwI base w v l) : RdI w v l := by
  obtain ⟨A, c, e, hc, hr⟩ := Kd.R_reads h
  exact ⟨A, c, e, hc, hr⟩
theorem OwI.step {base : Nat} {w w' : World} {v : Value} {l : List Int} (h : OwI base w v l) (hm : ∀ k, Fp v k → k < w.heap.size → w'.heap[k]? = w.heap[k]?) : OwI base w' v l := Kd.R_step h hm
theorem OwI.below {base : Nat} {w w' : World} {v : Value} {l : List Int} (h : OwI base w v l) (hb : Below w.heap.size w w') : OwI base w' v l := h.step (fun k _ hk => hb.block k hk)
theorem OwI.drew {base : Nat} {w : World} {v : Value} {l : List Int} (h : OwI base w v l) : OwI base w.drew v l := Kd.R_drew h
theorem OwI.lt {base : Nat} {w : World} {v : Value} {l : List Int} (h : OwI base w v l) {k : Nat} (hk : Fp v k) : base ≤ k ∧ k < w.heap.size := by
  obtain ⟨inner, ho⟩ := Kd.R_own h
  exact ⟨own_base ho k hk, own_lt ho k hk⟩
theorem OwI.far {base : Nat} {w : World} {v : Value} {l : List Int} (h : OwI base w v l) {b : Nat} (hb : b < base) (o : Nat) (u : Value) : OwI base (w.setCell ⟨b, o, none⟩ u) v l := h.step (fun k hk hlt => Below.heap_setCell w _ u k (by have := h.lt hk; show k ≠ b; omega))
theorem OwI.lower {base base' : Nat} {w : World} {v : Value} {l : List Int} (h : OwI base w v l) (hb : base' ≤ base) : OwI base' w v l := Kd.R_lower h hb

theorem below_of_kept {w0 w w' : World} {B : Nat} (h : Below B w0 w) (hb : Below B w w') : Below B w0 w' := h.trans hb

/-- The numbers from k on. -/
def upFrom (k : Int) : Nat → List Int
  | 0 => []
  | n + 1 => k :: upFrom (k + 1) n
@[simp] theorem upFrom_length (k : Int) (n : Nat) : (upFrom k n).length = n := by
  induction n generalizing k with
  | zero => rfl
  | succ n ih => simp [upFrom, ih]
theorem upFrom_get (k : Int) (n i : Nat) (h : i < n) : (upFrom k n)[i]'(by simpa using h) = k + i := by
  induction n generalizing k i with
  | zero => omega
  | succ n ih =>
    cases i with
    | zero => simp [upFrom]
    | succ i =>
      simp only [upFrom, List.getElem_cons_succ]
      rw [ih (k + 1) i (by omega)]
      omega
theorem markIntS_loop (l : List Int) (a : Int) (ha : 0 ≤ a) (hal : a + l.length ≤ 4611686018427387904) : ∀ (d i : Nat) (x : List Int), l.length - i = d → i ≤ l.length → x.length = l.length → x.take i = upFrom a i →
    Ev (fun k => laws_markIntS.l0 k x (a + i) (i : Int)) (a + l.length, upFrom a l.length) := by
  intro d
  induction d with
  | zero =>
    intro i x hd hi hx ht
    obtain rfl : i = l.length := by omega
    refine Ev.step (fun k => by simp only [laws_markIntS.l0]; rfl) (Ev.neg (by omega) (Ev.some_eq ?_))
    rw [List.take_of_length_le (by omega)] at ht
    rw [ht]
  | succ d ih =>
    intro i x hd hi hx ht
    have hlt : i < l.length := by omega
    refine Ev.step (fun k => by simp only [laws_markIntS.l0]; rfl) (Ev.pos (by omega) (Ev.pos (by omega) ?_))
    rw [wrap_succ (by omega), wrap_id (by omega) (by omega)]
    have e : a + (i : Int) + 1 = a + ((i + 1 : Nat) : Int) := by omega
    rw [e]
    refine ih (i + 1) _ (by omega) (by omega) (by simpa using hx) ?_
    rw [Int.toNat_natCast]
    apply List.ext_getElem
    · simp; omega
    · intro j h1 h2
      simp at h1 h2
      rw [upFrom_get _ _ _ (by omega)]
      rw [List.getElem_take]
      by_cases ej : j = i
      · subst ej; simp
      · rw [List.getElem_set_ne (by omega)]
        have h3 : x[j]'(by omega) = (x.take i)[j]'(by simp; omega) := by simp
        rw [h3]
        simp only [ht]
        rw [upFrom_get _ _ _ (by omega)]
theorem markIntS_ev (l : List Int) (a : Int) (ha : 0 ≤ a) (hal : a + l.length ≤ 4611686018427387904) : Ev (fun k => laws_markIntS.f k l a) (a + l.length, upFrom a l.length) := by
  have := markIntS_loop l a ha hal l.length 0 l (by omega) (by omega) rfl (by simp [upFrom])
  unfold laws_markIntS.f
  simpa using this
theorem heldIntS_loop (a : Int) (n : Nat) (ha : 0 ≤ a) (hal : a + n ≤ 4611686018427387904) : ∀ (d i : Nat), n - i = d → i ≤ n → Ev (fun k => laws_heldIntS.l0 k (upFrom a n) (a + i) (i : Int)) (a + n) := by
  intro d
  induction d with
  | zero =>
    intro i hd hi
    obtain rfl : i = n := by omega
    exact Ev.step (fun k => by simp only [laws_heldIntS.l0]; rfl) (Ev.neg (by simp) (Ev.now _))
  | succ d ih =>
    intro i hd hi
    have hlt : i < n := by omega
    refine Ev.step (fun k => by simp only [laws_heldIntS.l0]; rfl) (Ev.pos (by simp; omega) (Ev.pos (by omega) ?_))
    rw [rd_nat (by simpa using hlt), upFrom_get _ _ _ hlt, wrap_succ (by omega), wrap_id (by omega) (by omega)]
    have e : a + (i : Int) + 1 = a + ((i + 1 : Nat) : Int) := by omega
    rw [e]
    exact Ev.pos rfl (ih (i + 1) (by omega) (by omega))
theorem heldIntS_ev (a : Int) (n : Nat) (ha : 0 ≤ a) (hal : a + n ≤ 4611686018427387904) : Ev (fun k => laws_heldIntS.f k (upFrom a n) a) (a + n) := by
  have := heldIntS_loop a n ha hal n 0 (by omega) (by omega)
  unfold laws_heldIntS.f
  simpa using this

/-- The world of a goal, by a letter. -/
theorem name_calls {P : Program} {f : FuncId} {args : Array Value} {W : World} {Q : Ending → World → Prop} (h : ∀ W', W' = W → Calls P f args W' Q) : Calls P f args W Q := h W rfl
theorem name_wp {P : Program} {c : Code} {Q : Exit → Act → World → Prop} {a : Act} {W : World} (h : ∀ W', W' = W → Code.wp P c Q a W') : Code.wp P c Q a W := h W rfl
theorem below_to {B : Nat} {w0 w w' : World} (h : Below B w0 w) (hb : Below w.heap.size w w') (hB : B ≤ w.heap.size) : Below B w0 w' := h.trans (hb.mono hB)
theorem below_kept {B B' : Nat} {w0 w W W' : World} {S : Nat → Prop} (h : Below B w0 W) (hB : B ≤ W.heap.size) (hk : Kept W W' S) (hS : ∀ k, S k → B ≤ k) (h1 : Below B' w W) (h2 : Below B' w W') : Below B w0 W' where
  os := (h2.os.trans h1.os.symm).trans h.os
  tape := (h2.tape.trans h1.tape.symm).trans h.tape
  output := (h2.output.trans h1.output.symm).trans h.output
  size := Nat.le_trans h.size hk.1
  block := fun k hlt => (hk.2 k (Nat.lt_of_lt_of_le hlt hB) (fun hs => by have := hS k hs; omega)).trans (h.block k hlt)
theorem cell_below {w w' : World} {a : Addr} {v : Value} (h : w.cell? a = some v) (hb : Below w.heap.size w w') : w'.cell? a = some v := (hb.cell (cell_lt h)).trans h
theorem cell_kept {w w' : World} {S : Nat → Prop} {a : Addr} {v : Value} (h : w.cell? a = some v) (hk : Kept w w' S) (hS : ¬ S a.block) : w'.cell? a = some v := (World.cell?_of_block (w := w) (hk.2 _ (cell_lt h) hS)).trans h
/-- Where an owned row lies. -/
def Lies (v : Value) (lo hi : Nat) : Prop := ∀ k, Fp v k → lo ≤ k ∧ k < hi
theorem OwI.lies {base : Nat} {w : World} {v : Value} {l : List Int} (h : OwI base w v l) : Lies v base w.heap.size := fun _ hk => h.lt hk
/-- A pair of rows of the call's own in a box: where the box lies, what it holds; made since W. -/
def GotM (W wx : World) (s : Value) (r0 r1 : List Int) : Prop :=
  ∃ b A0 c0 A1 c1, s = .pointer (some ⟨b, 0, none⟩) ∧ W.heap.size ≤ b ∧ wx.cell? ⟨b, 0, none⟩ = some (.slice A0 r0.length c0) ∧ wx.cell? ⟨b, 1, none⟩ = some (.slice A1 r1.length c1) ∧
    OwI W.heap.size wx (.slice A0 r0.length c0) r0 ∧ OwI W.heap.size wx (.slice A1 r1.length c1) r1 ∧ (∀ k, Fp (.slice A0 r0.length c0) k → ¬ Fp (.slice A1 r1.length c1) k) ∧ ¬ Fp (.slice A0 r0.length c0) b ∧ ¬ Fp (.slice A1 r1.length c1) b ∧ Below W.heap.size W wx
theorem OwI.set {base : Nat} {w : World} {v : Value} {l : List Int} (h : OwI base w v l) {b : Nat} (hb : ¬ Fp v b) (o : Nat) (u : Value) : OwI base (w.setCell ⟨b, o, none⟩ u) v l :=
  h.step (fun k hk _ => Below.heap_setCell w _ u k (fun e => hb (by rw [show k = b from e] at hk; exact hk)))
theorem OwI.not_at {base : Nat} {w : World} {v : Value} {l : List Int} (h : OwI base w v l) {b : Nat} (hb : b < base ∨ w.heap.size ≤ b) : ¬ Fp v b := fun hk => by have := h.lt hk; omega
/-- A block that has just been laid. -/
theorem laid_cell {w w' : World} {C : Array Value} {T : TypeId} (h : w' = w.alloc (.cells C T)) {j : Nat} {v : Value} (hj : C[j]? = some v) : w'.cell? ⟨w.heap.size, j, none⟩ = some v := by rw [h, World.cell?_alloc_mark w C T (0, 0) j]; exact hj
theorem laid_cell' {w w' : World} {C : Array Value} {T : TypeId} (h : w' = (w.alloc (.cells C T)).drew) {j : Nat} {v : Value} (hj : C[j]? = some v) : w'.cell? ⟨w.heap.size, j, none⟩ = some v := by rw [h]; exact laid_cell rfl hj
theorem laid_free {w w' : World} {C : Array Value} {T : TypeId} (h : w' = w.alloc (.cells C T)) (j : Nat) : w'.frozen? ⟨w.heap.size, j, none⟩ = false := by
  have hh : (w.alloc (.cells C T)).heap[w.heap.size]? = some (.cells C T) := by
    show (w.heap.push (.cells C T))[w.heap.size]? = _
    simp
  rw [h]
  simp only [World.frozen?, hh]
  simp
theorem laid_free' {w w' : World} {C : Array Value} {T : TypeId} (h : w' = (w.alloc (.cells C T)).drew) (j : Nat) : w'.frozen? ⟨w.heap.size, j, none⟩ = false := by rw [h]; exact laid_free rfl j
theorem GotM.laid {W w : World} {base T : Nat} {A0 A1 : Option Addr} {c0 c1 : Nat} {r0 r1 : List Int} (hB : Below W.heap.size W w) (h0 : OwI base w (.slice A0 r0.length c0) r0) (h1 : OwI base w (.slice A1 r1.length c1) r1) (hd : ∀ k, Fp (.slice A0 r0.length c0) k → ¬ Fp (.slice A1 r1.length c1) k) (hb : W.heap.size ≤ base) :
    GotM W (w.alloc (.cells #[.slice A0 r0.length c0, .slice A1 r1.length c1] T)) (.pointer (some ⟨w.heap.size, 0, none⟩)) r0 r1 :=
  ⟨w.heap.size, A0, c0, A1, c1, rfl, hB.size, laid_cell rfl rfl, laid_cell rfl rfl, (h0.lower hb).below (below_alloc (Below.refl _ _) _), (h1.lower hb).below (below_alloc (Below.refl _ _) _), hd, h0.not_at (.inr (Nat.le_refl _)), h1.not_at (.inr (Nat.le_refl _)), below_alloc hB _⟩
theorem GotM.put {W w : World} {base b : Nat} {A0 A1 : Option Addr} {c0 c1 : Nat} {r0 r1 : List Int} {x0 x1 : Value} (hB : Below W.heap.size W w) (h0 : OwI base w (.slice A0 r0.length c0) r0) (h1 : OwI base w (.slice A1 r1.length c1) r1) (hd : ∀ k, Fp (.slice A0 r0.length c0) k → ¬ Fp (.slice A1 r1.length c1) k) (hb : W.heap.size ≤ base)
    (e0 : w.cell? ⟨b, 0, none⟩ = some x0) (e1 : w.cell? ⟨b, 1, none⟩ = some x1) (hbl : b < base) (hwb : W.heap.size ≤ b) :
    GotM W ((w.setCell ⟨b, 0, none⟩ (.slice A0 r0.length c0)).setCell ⟨b, 1, none⟩ (.slice A1 r1.length c1)) (.pointer (some ⟨b, 0, none⟩)) r0 r1 :=
  ⟨b, A0, c0, A1, c1, rfl, hwb, (World.cell?_setCell_other _ _ _ _ (by simp)).trans (World.cell?_setCell_same _ _ _ e0), World.cell?_setCell_same _ _ _ ((World.cell?_setCell_other _ _ _ _ (by simp)).trans e1), ((h0.lower hb).set (h0.not_at (.inl hbl)) _ _).set (h0.not_at (.inl hbl)) _ _, ((h1.lower hb).set (h1.not_at (.inl hbl)) _ _).set (h1.not_at (.inl hbl)) _ _, hd, h0.not_at (.inl hbl), h1.not_at (.inl hbl), below_set (below_set hB hwb) hwb⟩
theorem lies_off {v : Value} {lo hi b : Nat} (h : Lies v lo hi) (hb : b < lo ∨ hi ≤ b) : ¬ Fp v b := fun hk => by have := h b hk; omega
theorem lies_apart {v u : Value} {lo hi lo' hi' : Nat} (h : Lies v lo hi) (h' : Lies u lo' hi') (hb : hi ≤ lo' ∨ hi' ≤ lo) : ∀ k, Fp v k → ¬ Fp u k := fun k h1 h2 => by have := h k h1; have := h' k h2; omega
theorem not_or' {p q : Prop} (h : ¬ p) (h' : ¬ q) : ¬ (p ∨ q) := fun e => e.elim h h'
end Go.Proofs.Ytfnkobcmhbdcoaa.Typed
