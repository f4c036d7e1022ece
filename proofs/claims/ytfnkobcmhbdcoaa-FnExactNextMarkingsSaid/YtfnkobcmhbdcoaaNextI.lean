/- NextMarkings: the program's, whose rows are its own. -/
import Derived.Test.YtfnkobcmhbdcoaaRows2
namespace Go.Proofs.Ytfnkobcmhbdcoaa.NextI
open Go.RowKit Go.Proofs.YtfnkobcmhbdcoaaW.PrintWords Go.Proofs.YtfnkobcmhbdcoaaW.PrintLast Go.Proofs.Ytfnkobcmhbdcoaa.Base Go.Proofs.Ytfnkobcmhbdcoaa.XTypes Go.Proofs.Ytfnkobcmhbdcoaa.XInts Go.Proofs.Ytfnkobcmhbdcoaa.PureInts Go.Proofs.Ytfnkobcmhbdcoaa.Typed Go.Proofs.Ytfnkobcmhbdcoaa.Trees Go.Proofs.Ytfnkobcmhbdcoaa.MarkT Go.Proofs.Ytfnkobcmhbdcoaa.Rows2
set_option linter.unusedVariables false
set_option linter.unusedSimpArgs false
set_option linter.unnecessarySimpa false

def needs : List (List Int) := [[2, 0, 0], [1, 1, 0], [0, 0, 1], [0, 1, 1]]
def gives : List (List Int) := [[0, 1, 0], [0, 0, 1], [1, 1, 0], [0, 0, 0]]
def nd (r i : Nat) : Int := rd (needs.getD r []) (i : Int)
def gv (r i : Nat) : Int := rd (gives.getD r []) (i : Int)
/-- May rule r be used, by kind i? -/
def may (l : List Int) (r i : Nat) : Bool := decide (nd r i ≤ rd l (i : Int)) && decide (rd l (i : Int) ≤ 1000)
def entry (l : List Int) (r i : Nat) : Int := wrap64 (wrap64 (rd l (i : Int) - nd r i) + gv r i)
def nextTo (l : List Int) (r : Nat) : Nat → List Int
  | 0 => []
  | i + 1 => if may l r i = true then nextTo l r i ++ [entry l r i] else nextTo l r i
def outTo (l : List Int) : Nat → List (List Int)
  | 0 => []
  | r + 1 => if (nextTo l r 3).length = 3 then outTo l r ++ [nextTo l r 3] else outTo l r
def nextM (l : List Int) : List (List Int) := if l.length = 3 then outTo l 4 else []

theorem blk_new_at {w : World} {o : Obj} {n : Nat} (h : n = w.heap.size) : (w.alloc o).heap[n]? = some o := h ▸ blk_new w o
theorem nblk_alloc (w : World) (o : Obj) : (w.alloc o).heap.size = w.heap.size + 1 := by simp
theorem nextTo_len (l : List Int) (r i : Nat) : (nextTo l r i).length ≤ i := by
  induction i with
  | zero => simp [nextTo]
  | succ i ih =>
    unfold nextTo
    split
    · rw [List.length_append]; simp; omega
    · omega
theorem outTo_len (l : List Int) (r : Nat) : (outTo l r).length ≤ r := by
  induction r with
  | zero => simp [outTo]
  | succ r ih =>
    unfold outTo
    split
    · rw [List.length_append]; simp; omega
    · omega
/-- What is so while rows are gathered: the rows in ls are owned, apart, in the row vout; the next row too. -/
structure Gath (w V : World) (vout : Value) (ls : List (List Int)) (vs : List Value) (S : List Nat) (W : World) : Prop where
  b : Below w.heap.size w W
  c : ∀ k, w.heap.size < k → k < V.heap.size → W.heap[k]? = V.heap[k]?
  sz : V.heap.size ≤ W.heap.size
  rows : OwRC W ls vs S
  out : Kd.R (Kd.raw 1) 24 W w.heap.size (fun k => some k = vout.ownBlock) vout (vs.map fun v => [v])
  far : ∀ k ∈ S, V.heap.size ≤ k
  outs : ∀ k, vout.ownBlock = some k → k ∉ S ∧ (k = w.heap.size ∨ V.heap.size ≤ k)
theorem Gath.grown {w V W W1 : World} {vout u : Value} {ls : List (List Int)} {vs : List Value} {S : List Nat} (h : Gath w V vout ls vs S W) (hb : Below w.heap.size w W1) (hg : W.grownBy W1 u.ownBlock)
    (hu : ∀ k, u.ownBlock = some k → V.heap.size ≤ k ∧ k ∉ S ∧ vout.ownBlock ≠ some k) : Gath w V vout ls vs S W1 := by
  have ho := Kd.R_lt h.out
  refine ⟨hb, fun k h1 h2 => ?_, Nat.le_trans h.sz hg.size, h.rows.frame (fun k hk => ?_), Kd.R_step h.out (fun k hk hlt => ?_), h.far, h.outs⟩
  · rw [hg.block k (by have := h.sz; omega) (fun e => by have := (hu k e.symm).1; omega)]
    exact h.c k h1 h2
  · exact hg.block k (h.rows.lt k hk) (fun e => (hu k e.symm).2.1 hk)
  · exact hg.block k hlt (fun e => (hu k e.symm).2.2 (by rw [hk]))
theorem Gath.below {w V W W1 : World} {vout : Value} {ls : List (List Int)} {vs : List Value} {S : List Nat} (h : Gath w V vout ls vs S W) (hb : Below W.heap.size W W1) : Gath w V vout ls vs S W1 :=
  ⟨below_to h.b hb h.b.size, fun k h1 h2 => (hb.block k (by have := h.sz; omega)).trans (h.c k h1 h2), Nat.le_trans h.sz hb.size, h.rows.frame (fun k hk => hb.block k (h.rows.lt k hk)), Kd.R_step h.out (fun k _ hk => hb.block k hk), h.far, h.outs⟩
theorem Gath.push {w V W W1 : World} {vout v1 u : Value} {ls : List (List Int)} {vs : List Value} {S : List Nat} {nx : List Int} {ok : Nat → Prop} (h : Gath w V vout ls vs S W) (hn : OwI w.heap.size W u nx) (hf : ∀ k, Fp u k → V.heap.size ≤ k ∧ k ∉ S ∧ vout.ownBlock ≠ some k)
    (hsz : w.heap.size < V.heap.size) (ho : Kd.R (Kd.raw 1) 24 W1 w.heap.size ok v1 ((vs.map fun v => [v]) ++ [[u]])) (hb : Below w.heap.size w W1) (hg : W.grownBy W1 vout.ownBlock) (hat : v1.ownBlock = vout.ownBlock ∨ ∃ b, v1.ownBlock = some b ∧ W.heap.size ≤ b) : Gath w V v1 (ls ++ [nx]) (vs ++ [u]) (S ++ own u) W1 := by
  refine ⟨hb, fun k h1 h2 => ?_, Nat.le_trans h.sz hg.size, ?_, ?_, fun k hk => ?_, fun k hk => ?_⟩
  · rw [hg.block k (by have := h.sz; omega) (fun e => by have := (h.outs k e.symm).2; omega)]
    exact h.c k h1 h2
  · have e : S ++ own u = S ++ (own u ++ []) := by simp
    rw [e]
    refine OwRC_mid.2 ⟨vs, u, [], S, [], rfl, rfl, h.rows.frame (fun k hk => hg.block k (h.rows.lt k hk) (fun e => (h.outs k e.symm).1 hk)), ?_, ⟨rfl, rfl⟩, fun k hk hk' => ?_, fun k _ hk => by cases hk⟩
    · exact (hn.step (fun k hk hlt => hg.block k hlt (fun e => (hf k hk).2.2 e.symm))).lower (Nat.zero_le _)
    · simp at hk'
      exact (hf k (own_iff.1 hk')).2.1 hk
  · have := Kd.raw_tight ho
    simpa using this
  · rcases List.mem_append.1 hk with hk | hk
    · exact h.far k hk
    · exact (hf k (own_iff.1 hk)).1
  · rcases hat with hat | ⟨b, hb', hle⟩
    · rw [hat] at hk
      refine ⟨fun hs => ?_, (h.outs k hk).2⟩
      rcases List.mem_append.1 hs with hs | hs
      · exact (h.outs k hk).1 hs
      · exact (hf k (own_iff.1 hs)).2.2 hk
    · rw [hb'] at hk
      injection hk with hk
      subst hk
      refine ⟨fun hs => ?_, .inr (Nat.le_trans h.sz hle)⟩
      rcases List.mem_append.1 hs with hs | hs
      · have := h.rows.lt _ hs; omega
      · have := (hn.lt (own_iff.1 hs)).2; omega
theorem Gath.owss {w V W : World} {vout : Value} {ls : List (List Int)} {vs : List Value} {S : List Nat} (h : Gath w V vout ls vs S W) (hsz : w.heap.size < V.heap.size) : ∃ S', OwSS W vout ls S' ∧ ∀ k ∈ S', w.heap.size ≤ k := by
  obtain ⟨_, inner, ho, hr⟩ := h.out
  have hin : inner = vs := by
    have key : ∀ (vs inner : List Value), Reps (fun x cs => cs = x ∧ cs.length = 1 ∧ ∀ u ∈ cs, u.oneCell' = true) 1 (vs.map fun v => [v]) inner → inner = vs := by
      intro vs
      induction vs with
      | nil =>
        intro inner h
        have := h.1
        simp at this
        exact this
      | cons v vs ih =>
        intro inner h
        have h0 := (h.2 0 [v] rfl).1
        have hl := h.1
        simp only [List.map_cons, List.length_cons, List.length_map] at hl
        have h1 : inner.drop 1 = vs := by
          refine ih _ ⟨by simp [hl], fun j p hj => ?_⟩
          have := h.2 (j + 1) p (by simpa using hj)
          rw [List.drop_drop]
          have e : 1 + j * 1 = (j + 1) * 1 := by omega
          rw [e]
          exact this
        have h2 : inner.take 1 = [v] := by simpa using h0
        rw [← List.take_append_drop 1 inner, h1, h2]
        rfl
    exact key vs inner hr
  rw [hin] at ho
  have hlv := h.rows.len
  have hl : (vs.map fun v => [v]).length = ls.length := by rw [List.length_map, hlv]
  rw [hl] at ho
  rcases ho.2 with ⟨rfl, hn⟩ | ⟨g, cap, cur, rfl, hb, hh, hc, hm, hs, ht⟩
  · refine ⟨[], .inl ⟨rfl, hn, rfl⟩, fun k hk => by cases hk⟩
  · refine ⟨g :: S, .inr ⟨g, cap, cur, S, rfl, hc, hm, hh, hs, ?_, rfl, (h.outs g rfl).1⟩, fun k hk => ?_⟩
    · have ht' : cur.toList.take (ls.length * 1) = vs := ht
      rw [ht']
      exact h.rows
    · rcases List.mem_cons.1 hk with rfl | hk
      · exact hb
      · have := h.far k hk; omega
/-- The constants' blocks. -/
structure Consts (w V : World) : Prop where
  sz : V.heap.size = w.heap.size + 11
  b : Below w.heap.size w V
  nr : ∀ r < 4, V.cell? ⟨w.heap.size + 5, r, none⟩ = some (.slice (some ⟨w.heap.size + 1 + r, 0, none⟩) 3 3)
  ni : ∀ r < 4, ∀ i < 3, V.cell? ⟨w.heap.size + 1 + r, i, none⟩ = some (.int .i64 (nd r i))
  gr : ∀ r < 4, V.cell? ⟨w.heap.size + 10, r, none⟩ = some (.slice (some ⟨w.heap.size + 6 + r, 0, none⟩) 3 3)
  gi : ∀ r < 4, ∀ i < 3, V.cell? ⟨w.heap.size + 6 + r, i, none⟩ = some (.int .i64 (gv r i))
theorem cell_of {V : World} {k e i : Nat} {C : Array Value} {v : Value} (h : V.heap[k]? = some (.cells C e (0, 0))) (hv : C[i]? = some v) : V.cell? ⟨k, i, none⟩ = some v := by
  simp only [World.cell?, h]
  exact hv
theorem Gath.cell {w V W : World} {vout : Value} {ls : List (List Int)} {vs : List Value} {S : List Nat} (h : Gath w V vout ls vs S W) {k i : Nat} {v : Value} (hk : w.heap.size < k) (hv : V.cell? ⟨k, i, none⟩ = some v) : W.cell? ⟨k, i, none⟩ = some v := by
  rw [World.cell?_of_block (w := V) (h.c k hk (cell_lt hv))]
  exact hv
def T14 : Bool × List (List Nat × List Nat) := (true, [([], []), ([], []), ([], []), ([], []), ([2, 3], [2, 3]), ([4], [4]), ([1, 5], [1, 5]), ([], []), ([], []), ([7, 8], [7, 8]), ([9], [9]), ([], []), ([10, 11], [10, 11]), ([12], [12]), ([6, 13], [6, 13]), ([14], [14]), ([0, 15], [0, 15]), ([16, 16, 0, 1, 2, 3, 4, 5, 6, 7, 8, 9, 10, 11, 12, 13, 14, 15, 16], [0, 16])])
def B14 : List Nat := [0, 0, 0, 0, 12, 28, 62, 0, 0, 384, 896, 0, 3968, 8064, 16382, 32766, 65535, 131071]
theorem tab14 : rtab .any (opsOf Try.f22 14) = T14 := by kernel_rfl
theorem bits14 : waitsOk T14.2 B14 = true := by kernel_rfl
set_option maxHeartbeats 2000000 in
set_option maxRecDepth 100000 in
theorem impl_next (l : List Int) (A : Option Addr) (c : Nat) (w : World) (hr : Kd.C (Kd.int .i64) w A l.length l) (hc : l.length ≤ c) :
    Calls Try.prog 22 #[.slice A l.length c] w fun e w' => ∃ v S, e = .returned v ∧ OwSS w' v (nextM l) S ∧ (∀ k ∈ S, w.heap.size ≤ k) ∧ Below w.heap.size w w' := by
  have HR := Lib.hid hr
  have HC := Lib.hid hc
  clear hr hc
  go_enter Try.func22, Try.ntmps22
  by_cases h3 : l.length = 3
  · go_wp2_with fail
    refine name_wp ?_
    intro V hV
    have hsz : V.heap.size = w.heap.size + 11 := by rw [hV]; simp
    have g1 : V.heap[w.heap.size + 1]? = some (.cells #[.int .i64 2, .int .i64 0, .int .i64 0] 3 (0, 0)) := by
      rw [hV]
      refine (Go.Deep.blk_alloc_lt _ _ _ (by simp only [nblk_alloc]; omega)).trans ?_
      refine (Go.Deep.blk_alloc_lt _ _ _ (by simp only [nblk_alloc]; omega)).trans ?_
      refine (Go.Deep.blk_alloc_lt _ _ _ (by simp only [nblk_alloc]; omega)).trans ?_
      refine (Go.Deep.blk_alloc_lt _ _ _ (by simp only [nblk_alloc]; omega)).trans ?_
      refine (Go.Deep.blk_alloc_lt _ _ _ (by simp only [nblk_alloc]; omega)).trans ?_
      refine (Go.Deep.blk_alloc_lt _ _ _ (by simp only [nblk_alloc]; omega)).trans ?_
      refine (Go.Deep.blk_alloc_lt _ _ _ (by simp only [nblk_alloc]; omega)).trans ?_
      refine (Go.Deep.blk_alloc_lt _ _ _ (by simp only [nblk_alloc]; omega)).trans ?_
      refine (Go.Deep.blk_alloc_lt _ _ _ (by simp only [nblk_alloc]; omega)).trans ?_
      exact blk_new_at (by simp only [nblk_alloc])
    have g2 : V.heap[w.heap.size + 2]? = some (.cells #[.int .i64 1, .int .i64 1, .int .i64 0] 3 (0, 0)) := by
      rw [hV]
      refine (Go.Deep.blk_alloc_lt _ _ _ (by simp only [nblk_alloc]; omega)).trans ?_
      refine (Go.Deep.blk_alloc_lt _ _ _ (by simp only [nblk_alloc]; omega)).trans ?_
      refine (Go.Deep.blk_alloc_lt _ _ _ (by simp only [nblk_alloc]; omega)).trans ?_
      refine (Go.Deep.blk_alloc_lt _ _ _ (by simp only [nblk_alloc]; omega)).trans ?_
      refine (Go.Deep.blk_alloc_lt _ _ _ (by simp only [nblk_alloc]; omega)).trans ?_
      refine (Go.Deep.blk_alloc_lt _ _ _ (by simp only [nblk_alloc]; omega)).trans ?_
      refine (Go.Deep.blk_alloc_lt _ _ _ (by simp only [nblk_alloc]; omega)).trans ?_
      refine (Go.Deep.blk_alloc_lt _ _ _ (by simp only [nblk_alloc]; omega)).trans ?_
      exact blk_new_at (by simp only [nblk_alloc])
    have g3 : V.heap[w.heap.size + 3]? = some (.cells #[.int .i64 0, .int .i64 0, .int .i64 1] 3 (0, 0)) := by
      rw [hV]
      refine (Go.Deep.blk_alloc_lt _ _ _ (by simp only [nblk_alloc]; omega)).trans ?_
      refine (Go.Deep.blk_alloc_lt _ _ _ (by simp only [nblk_alloc]; omega)).trans ?_
      refine (Go.Deep.blk_alloc_lt _ _ _ (by simp only [nblk_alloc]; omega)).trans ?_
      refine (Go.Deep.blk_alloc_lt _ _ _ (by simp only [nblk_alloc]; omega)).trans ?_
      refine (Go.Deep.blk_alloc_lt _ _ _ (by simp only [nblk_alloc]; omega)).trans ?_
      refine (Go.Deep.blk_alloc_lt _ _ _ (by simp only [nblk_alloc]; omega)).trans ?_
      refine (Go.Deep.blk_alloc_lt _ _ _ (by simp only [nblk_alloc]; omega)).trans ?_
      exact blk_new_at (by simp only [nblk_alloc])
    have g4 : V.heap[w.heap.size + 4]? = some (.cells #[.int .i64 0, .int .i64 1, .int .i64 1] 3 (0, 0)) := by
      rw [hV]
      refine (Go.Deep.blk_alloc_lt _ _ _ (by simp only [nblk_alloc]; omega)).trans ?_
      refine (Go.Deep.blk_alloc_lt _ _ _ (by simp only [nblk_alloc]; omega)).trans ?_
      refine (Go.Deep.blk_alloc_lt _ _ _ (by simp only [nblk_alloc]; omega)).trans ?_
      refine (Go.Deep.blk_alloc_lt _ _ _ (by simp only [nblk_alloc]; omega)).trans ?_
      refine (Go.Deep.blk_alloc_lt _ _ _ (by simp only [nblk_alloc]; omega)).trans ?_
      refine (Go.Deep.blk_alloc_lt _ _ _ (by simp only [nblk_alloc]; omega)).trans ?_
      exact blk_new_at (by simp only [nblk_alloc])
    have g5 : V.heap[w.heap.size + 5]? = some (.cells #[.slice (some ⟨w.heap.size + 1, 0, none⟩) 3 3, .slice (some ⟨w.heap.size + 2, 0, none⟩) 3 3, .slice (some ⟨w.heap.size + 3, 0, none⟩) 3 3, .slice (some ⟨w.heap.size + 4, 0, none⟩) 3 3] 24 (0, 0)) := by
      rw [hV]
      refine (Go.Deep.blk_alloc_lt _ _ _ (by simp only [nblk_alloc]; omega)).trans ?_
      refine (Go.Deep.blk_alloc_lt _ _ _ (by simp only [nblk_alloc]; omega)).trans ?_
      refine (Go.Deep.blk_alloc_lt _ _ _ (by simp only [nblk_alloc]; omega)).trans ?_
      refine (Go.Deep.blk_alloc_lt _ _ _ (by simp only [nblk_alloc]; omega)).trans ?_
      refine (Go.Deep.blk_alloc_lt _ _ _ (by simp only [nblk_alloc]; omega)).trans ?_
      exact blk_new_at (by simp only [nblk_alloc])
    have g6 : V.heap[w.heap.size + 6]? = some (.cells #[.int .i64 0, .int .i64 1, .int .i64 0] 3 (0, 0)) := by
      rw [hV]
      refine (Go.Deep.blk_alloc_lt _ _ _ (by simp only [nblk_alloc]; omega)).trans ?_
      refine (Go.Deep.blk_alloc_lt _ _ _ (by simp only [nblk_alloc]; omega)).trans ?_
      refine (Go.Deep.blk_alloc_lt _ _ _ (by simp only [nblk_alloc]; omega)).trans ?_
      refine (Go.Deep.blk_alloc_lt _ _ _ (by simp only [nblk_alloc]; omega)).trans ?_
      exact blk_new_at (by simp only [nblk_alloc])
    have g7 : V.heap[w.heap.size + 7]? = some (.cells #[.int .i64 0, .int .i64 0, .int .i64 1] 3 (0, 0)) := by
      rw [hV]
      refine (Go.Deep.blk_alloc_lt _ _ _ (by simp only [nblk_alloc]; omega)).trans ?_
      refine (Go.Deep.blk_alloc_lt _ _ _ (by simp only [nblk_alloc]; omega)).trans ?_
      refine (Go.Deep.blk_alloc_lt _ _ _ (by simp only [nblk_alloc]; omega)).trans ?_
      exact blk_new_at (by simp only [nblk_alloc])
    have g8 : V.heap[w.heap.size + 8]? = some (.cells #[.int .i64 1, .int .i64 1, .int .i64 0] 3 (0, 0)) := by
      rw [hV]
      refine (Go.Deep.blk_alloc_lt _ _ _ (by simp only [nblk_alloc]; omega)).trans ?_
      refine (Go.Deep.blk_alloc_lt _ _ _ (by simp only [nblk_alloc]; omega)).trans ?_
      exact blk_new_at (by simp only [nblk_alloc])
    have g9 : V.heap[w.heap.size + 9]? = some (.cells #[.int .i64 0, .int .i64 0, .int .i64 0] 3 (0, 0)) := by
      rw [hV]
      refine (Go.Deep.blk_alloc_lt _ _ _ (by simp only [nblk_alloc]; omega)).trans ?_
      exact blk_new_at (by simp only [nblk_alloc])
    have g10 : V.heap[w.heap.size + 10]? = some (.cells #[.slice (some ⟨w.heap.size + 6, 0, none⟩) 3 3, .slice (some ⟨w.heap.size + 7, 0, none⟩) 3 3, .slice (some ⟨w.heap.size + 8, 0, none⟩) 3 3, .slice (some ⟨w.heap.size + 9, 0, none⟩) 3 3] 24 (0, 0)) := by
      rw [hV]
      exact blk_new_at (by simp only [nblk_alloc])
    have g0 : V.heap[w.heap.size]? = some (.cells #[] 24 (0, 0)) := by
      rw [hV]
      refine (Go.Deep.blk_alloc_lt _ _ _ (by simp only [nblk_alloc]; omega)).trans ?_
      refine (Go.Deep.blk_alloc_lt _ _ _ (by simp only [nblk_alloc]; omega)).trans ?_
      refine (Go.Deep.blk_alloc_lt _ _ _ (by simp only [nblk_alloc]; omega)).trans ?_
      refine (Go.Deep.blk_alloc_lt _ _ _ (by simp only [nblk_alloc]; omega)).trans ?_
      refine (Go.Deep.blk_alloc_lt _ _ _ (by simp only [nblk_alloc]; omega)).trans ?_
      refine (Go.Deep.blk_alloc_lt _ _ _ (by simp only [nblk_alloc]; omega)).trans ?_
      refine (Go.Deep.blk_alloc_lt _ _ _ (by simp only [nblk_alloc]; omega)).trans ?_
      refine (Go.Deep.blk_alloc_lt _ _ _ (by simp only [nblk_alloc]; omega)).trans ?_
      refine (Go.Deep.blk_alloc_lt _ _ _ (by simp only [nblk_alloc]; omega)).trans ?_
      refine (Go.Deep.blk_alloc_lt _ _ _ (by simp only [nblk_alloc]; omega)).trans ?_
      exact blk_new_at (by simp only [nblk_alloc])
    have K : Consts w V := by
      refine ⟨hsz, ?_, ?_, ?_, ?_, ?_⟩
      · rw [hV]; repeat (first | exact Below.refl _ _ | apply below_alloc)
      · intro r hr
        match r, hr with
        | 0, _ => exact cell_of g5 rfl
        | 1, _ => exact cell_of g5 rfl
        | 2, _ => exact cell_of g5 rfl
        | 3, _ => exact cell_of g5 rfl
      · intro r hr i hi
        match r, hr, i, hi with
        | 0, _, 0, _ => exact cell_of g1 rfl
        | 0, _, 1, _ => exact cell_of g1 rfl
        | 0, _, 2, _ => exact cell_of g1 rfl
        | 1, _, 0, _ => exact cell_of g2 rfl
        | 1, _, 1, _ => exact cell_of g2 rfl
        | 1, _, 2, _ => exact cell_of g2 rfl
        | 2, _, 0, _ => exact cell_of g3 rfl
        | 2, _, 1, _ => exact cell_of g3 rfl
        | 2, _, 2, _ => exact cell_of g3 rfl
        | 3, _, 0, _ => exact cell_of g4 rfl
        | 3, _, 1, _ => exact cell_of g4 rfl
        | 3, _, 2, _ => exact cell_of g4 rfl
      · intro r hr
        match r, hr with
        | 0, _ => exact cell_of g10 rfl
        | 1, _ => exact cell_of g10 rfl
        | 2, _ => exact cell_of g10 rfl
        | 3, _ => exact cell_of g10 rfl
      · intro r hr i hi
        match r, hr, i, hi with
        | 0, _, 0, _ => exact cell_of g6 rfl
        | 0, _, 1, _ => exact cell_of g6 rfl
        | 0, _, 2, _ => exact cell_of g6 rfl
        | 1, _, 0, _ => exact cell_of g7 rfl
        | 1, _, 1, _ => exact cell_of g7 rfl
        | 1, _, 2, _ => exact cell_of g7 rfl
        | 2, _, 0, _ => exact cell_of g8 rfl
        | 2, _, 1, _ => exact cell_of g8 rfl
        | 2, _, 2, _ => exact cell_of g8 rfl
        | 3, _, 0, _ => exact cell_of g9 rfl
        | 3, _, 1, _ => exact cell_of g9 rfl
        | 3, _, 2, _ => exact cell_of g9 rfl
    have hG : Gath w V (.slice (some ⟨w.heap.size, 0, none⟩) 0 0) [] [] [] V := by
      refine ⟨K.b, fun _ _ _ => rfl, Nat.le_refl _, ⟨rfl, rfl⟩, ⟨fun k hk => hk.symm, [], ⟨rfl, .inr ⟨w.heap.size, 0, #[], rfl, Nat.le_refl _, g0, Nat.le_refl _, by decide, rfl, rfl⟩⟩, Reps.none _ _⟩, (fun k hk => by cases hk), ?_⟩
      intro k hk
      have : w.heap.size = k := by simpa [Value.ownBlock] using hk
      exact ⟨by simp, .inl this.symm⟩
    have HK := Lib.hid K
    have HG := Lib.hid hG
    have HSZ := Lib.hid hsz
    clear K hG hsz hV g0 g1 g2 g3 g4 g5 g6 g7 g8 g9 g10
    obtain ⟨bg, hbg⟩ : ∃ bg, bg = w.heap.size + 10 := ⟨_, rfl⟩
    obtain ⟨bn, hbn⟩ : ∃ bn, bn = w.heap.size + 5 := ⟨_, rfl⟩
    have e1 : w.heap.size + 1 + 1 + 1 + 1 + 1 + 1 + 1 + 1 + 1 + 1 = bg := by omega
    have e2 : w.heap.size + 1 + 1 + 1 + 1 + 1 = bn := by omega
    rw [e1, e2]
    have HBG := Lib.hid hbg
    have HBN := Lib.hid hbn
    clear e1 e2 hbg hbn
    rw [h3]
    go_loopw [3, 28] (fun v q wr => ∃ r : Nat, r ≤ 4 ∧ q = .int .i64 r ∧ ∃ vs S, Aside0 (Gath w V v (outTo l r) vs S wr)) (fun _ q _ => 4 - (intOf q).toNat)
    case atStart => exact ⟨0, Nat.zero_le _, rfl, [], [], ⟨HG.out⟩⟩
    case round =>
      obtain ⟨r, hr, rfl, vs, S, hG⟩ := hrel
      by_cases hlt : r < 4
      · have hcell := hG.out.cell (by omega) (HK.out.nr r hlt)
        rw [← HBN.out] at hcell
        have HLT := Lib.hid hlt
        go_upto_region 10 with (fail)
        refine name_wp ?_
        intro W1 hW
        have hb1 : Below wr.heap.size wr W1 := by rw [hW]; exact below_alloc (Below.refl _ _) _
        have hn1 : OwI w.heap.size W1 (.slice (some ⟨wr.heap.size, 0, none⟩) 0 0) [] := by
          refine OwI.of (ok := fun _ => True) ⟨fun _ _ => trivial, [], ⟨rfl, .inr ⟨wr.heap.size, 0, #[], rfl, hG.out.b.size, ?_, Nat.le_refl _, by decide, rfl, rfl⟩⟩, Reps.none _ _⟩
          rw [hW]
          exact blk_new _ _
        have hf1 : ∀ k, Fp (.slice (some ⟨wr.heap.size, 0, none⟩) 0 0) k → V.heap.size ≤ k ∧ k ∉ S ∧ u3.ownBlock ≠ some k := by
          intro k hk
          have e : wr.heap.size = k := by simpa [Fp, Value.ownBlock] using hk
          subst e
          exact ⟨hG.out.sz, fun hs => by have := hG.out.rows.lt _ hs; omega, fun ho => by have := Kd.R_lt hG.out.out _ ho; omega⟩
        have hG1 := hG.out.below hb1
        have HB1 := Lib.hid hb1
        clear hW hb1 hcell
        go_wp2_with fail
        go_loopw [8, 36] (fun u q wz => ∃ i : Nat, i ≤ 3 ∧ q = .int .i64 i ∧ Aside0 (Gath w V u3 (outTo l r) vs S wz) ∧ Aside0 (OwI w.heap.size wz u (nextTo l r i)) ∧ Aside0 (∀ k, Fp u k → V.heap.size ≤ k ∧ k ∉ S ∧ u3.ownBlock ≠ some k)) (fun _ q _ => 3 - (intOf q).toNat)
        case atStart => exact ⟨0, Nat.zero_le _, rfl, ⟨hG1⟩, ⟨hn1⟩, ⟨hf1⟩⟩
        case round =>
          obtain ⟨i, hi, rfl, hG2, hN2, hF2⟩ := hrel
          by_cases hlt2 : i < 3
          · obtain ⟨ad, rfl, hcell⟩ := Kd.at_int (Kd.C_below HR.out hG2.out.b) (i : Int) (by omega) (by omega)
            simp only [Int.toNat_natCast] at hcell
            have hcn := hG2.out.cell (by omega) (HK.out.ni r HLT.out i hlt2)
            have hcr := hG2.out.cell (by omega) (HK.out.gr r HLT.out)
            rw [← HBG.out] at hcr
            have hcg := hG2.out.cell (by omega) (HK.out.gi r HLT.out i hlt2)
            have hmay : may l r i = (decide (nd r i ≤ rd l (i : Int)) && decide (rd l (i : Int) ≤ 1000)) := rfl
            have hent : entry l r i = wrap64 (wrap64 (rd l (i : Int) - nd r i) + gv r i) := rfl
            have hnx : nextTo l r (i + 1) = if may l r i = true then nextTo l r i ++ [entry l r i] else nextTo l r i := rfl
            generalize rd l (i : Int) = y at *
            generalize nd r i = z at *
            generalize gv r i = g at *
            have HNX := Lib.hid hnx
            have HMAY := Lib.hid hmay
            have HENT := Lib.hid hent
            clear hnx hmay hent
            by_cases h1 : z ≤ y
            · by_cases h2 : y ≤ 1000
              · have hm : may l r i = true := by rw [HMAY.out]; simp [h1, h2]
                have HM := Lib.hid hm
                clear hm
                go_upto_region 14 with (fail)
                clear h1 h2
                have hGd := hG2.out.below (below_drew1 (Below.refl wr.heap.size wr))
                have hNd : Kd.R (Kd.int .i64) 3 wr.drew w.heap.size (fun _ => True) u8 (nextTo l r i) := Kd.R_mono hN2.out.drew (fun _ _ => trivial)
                have hlen := nextTo_len l r i
                have HLE := Lib.hid hlen
                clear hlen hcell
                refine start_ (n := 18) (S := fun w' => w'.cell? ⟨w.heap.size + 1 + r, i, none⟩ = some (.int .i64 z) ∧ w'.cell? ⟨bg, r, none⟩ = some (.slice (some ⟨w.heap.size + 6 + r, 0, none⟩) 3 3) ∧ w'.cell? ⟨w.heap.size + 6 + r, i, none⟩ = some (.int .i64 g)) (ds := [15, 16]) #[false, false, false, false, false, false, false, false, false, false, false, false, false, false, false, false, false, false] (by kernel_rfl) rfl rfl ⟨hcn, hcr, hcg⟩ (fun hHeld => ?_)
                refine with_tabW tab14 bits14 (fun HT_ HW_ => ?_)
                generalize wr.drew = wd at hGd hNd hHeld ⊢
                refine pure_ (i := 0) (N := some 51) (v := ?_) (a' := ?_) #[true, false, false, false, false, false, false, false, false, false, false, false, false, false, false, false, false, false] rfl rfl (any_of HT_.out (by kernel_rfl)) (fun _ _ _ h => h) (Or.inl ⟨by rfl, ?_⟩) ?_ ?_
                rotate_left
                · intro w'
                  go_simp
                  with_reducible rfl
                rotate_left
                · simp only [Act.put, List.setIfInBounds_toArray, List.set_cons_zero, List.set_cons_succ, i64_w, i32_w]
                  rfl
                refine pure_ (i := 1) (N := some 52) (v := ?_) (a' := ?_) #[true, true, false, false, false, false, false, false, false, false, false, false, false, false, false, false, false, false] rfl rfl (any_of HT_.out (by kernel_rfl)) (fun _ _ _ h => h) (Or.inl ⟨by rfl, ?_⟩) ?_ ?_
                rotate_left
                · intro w'
                  go_simp
                  with_reducible rfl
                rotate_left
                · simp only [Act.put, List.setIfInBounds_toArray, List.set_cons_zero, List.set_cons_succ, i64_w, i32_w]
                  rfl
                refine pure_ (i := 2) (N := some 53) (v := ?_) (a' := ?_) #[true, true, true, false, false, false, false, false, false, false, false, false, false, false, false, false, false, false] rfl rfl (any_of HT_.out (by kernel_rfl)) (fun _ _ _ h => h) (Or.inl ⟨by rfl, ?_⟩) ?_ ?_
                rotate_left
                · intro w'
                  go_simp
                  with_reducible rfl
                rotate_left
                · simp only [Act.put, List.setIfInBounds_toArray, List.set_cons_zero, List.set_cons_succ, i64_w, i32_w]
                  rfl
                refine pure_ (i := 3) (N := some 54) (v := ?_) (a' := ?_) #[true, true, true, true, false, false, false, false, false, false, false, false, false, false, false, false, false, false] rfl rfl (any_of HT_.out (by kernel_rfl)) (fun _ _ _ h => h) (Or.inl ⟨by rfl, ?_⟩) ?_ ?_
                rotate_left
                · intro w'
                  go_simp
                  with_reducible rfl
                rotate_left
                · simp only [Act.put, List.setIfInBounds_toArray, List.set_cons_zero, List.set_cons_succ, i64_w, i32_w]
                  rfl
                refine pure_ (i := 4) (N := some 55) (v := ?_) (a' := ?_) #[true, true, true, true, true, false, false, false, false, false, false, false, false, false, false, false, false, false] rfl rfl (any_of HT_.out (by kernel_rfl)) (fun _ _ _ h => h) (Or.inl ⟨by rfl, ?_⟩) ?_ ?_
                rotate_left
                · intro w'
                  go_simp
                  with_reducible rfl
                rotate_left
                · simp only [Act.put, List.setIfInBounds_toArray, List.set_cons_zero, List.set_cons_succ, i64_w, i32_w]
                  rfl
                refine pure_ (i := 7) (N := some 58) (v := ?_) (a' := ?_) #[true, true, true, true, true, false, false, true, false, false, false, false, false, false, false, false, false, false] rfl rfl (any_of HT_.out (by kernel_rfl)) (fun _ _ _ h => h) (Or.inl ⟨by rfl, ?_⟩) ?_ ?_
                rotate_left
                · intro w'
                  go_simp
                  with_reducible rfl
                rotate_left
                · simp only [Act.put, List.setIfInBounds_toArray, List.set_cons_zero, List.set_cons_succ, i64_w, i32_w]
                  rfl
                refine pure_ (i := 8) (N := some 59) (v := ?_) (a' := ?_) #[true, true, true, true, true, false, false, true, true, false, false, false, false, false, false, false, false, false] rfl rfl (any_of HT_.out (by kernel_rfl)) (fun _ _ _ h => h) (Or.inl ⟨by rfl, ?_⟩) ?_ ?_
                rotate_left
                · intro w'
                  go_simp
                  with_reducible rfl
                rotate_left
                · simp only [Act.put, List.setIfInBounds_toArray, List.set_cons_zero, List.set_cons_succ, i64_w, i32_w]
                  rfl
                refine pure_ (i := 9) (N := some 60) (v := ?_) (a' := ?_) #[true, true, true, true, true, false, false, true, true, true, false, false, false, false, false, false, false, false] rfl rfl (any_of HT_.out (by kernel_rfl)) (fun _ _ _ h => h) (Or.inl ⟨by rfl, ?_⟩) ?_ ?_
                rotate_left
                · intro w'
                  go_simp
                  with_reducible rfl
                rotate_left
                · simp only [Act.put, List.setIfInBounds_toArray, List.set_cons_zero, List.set_cons_succ, i64_w, i32_w]
                  rfl
                refine pure_ (i := 11) (N := some 62) (v := ?_) (a' := ?_) #[true, true, true, true, true, false, false, true, true, true, false, true, false, false, false, false, false, false] rfl rfl (any_of HT_.out (by kernel_rfl)) (fun _ _ _ h => h) (Or.inl ⟨by rfl, ?_⟩) ?_ ?_
                rotate_left
                · intro w'
                  go_simp
                  with_reducible rfl
                rotate_left
                · simp only [Act.put, List.setIfInBounds_toArray, List.set_cons_zero, List.set_cons_succ, i64_w, i32_w]
                  rfl
                refine take_ (i := 5) (N := some 56) (v := ?_) (a' := ?_) #[true, true, true, true, true, true, false, true, true, true, false, true, false, false, false, false, false, false] rfl rfl (take_ofW HT_.out HW_.out (by kernel_rfl)) (fun _ _ _ h => h) (Or.inl ⟨by rfl, ?_⟩) hHeld ?_ ?_
                rotate_left
                · rintro w' ⟨s0, s1, s2⟩
                  go_simp
                  with_reducible rfl
                rotate_left
                · simp only [Act.put, List.setIfInBounds_toArray, List.set_cons_zero, List.set_cons_succ, i64_w, i32_w]
                  rfl
                refine pure_ (i := 6) (N := some 57) (v := ?_) (a' := ?_) #[true, true, true, true, true, true, true, true, true, true, false, true, false, false, false, false, false, false] rfl rfl (any_of HT_.out (by kernel_rfl)) (fun _ _ _ h => h) (Or.inl ⟨by rfl, ?_⟩) ?_ ?_
                rotate_left
                · intro w'
                  go_simp
                  with_reducible rfl
                rotate_left
                · simp only [Act.put, List.setIfInBounds_toArray, List.set_cons_zero, List.set_cons_succ, i64_w, i32_w]
                  rfl
                refine take_ (i := 10) (N := some 61) (v := ?_) (a' := ?_) #[true, true, true, true, true, true, true, true, true, true, true, true, false, false, false, false, false, false] rfl rfl (take_ofW HT_.out HW_.out (by kernel_rfl)) (fun _ _ _ h => h) (Or.inl ⟨by rfl, ?_⟩) hHeld ?_ ?_
                rotate_left
                · rintro w' ⟨s0, s1, s2⟩
                  go_simp
                  with_reducible rfl
                rotate_left
                · simp only [Act.put, List.setIfInBounds_toArray, List.set_cons_zero, List.set_cons_succ, i64_w, i32_w]
                  rfl
                refine pure_ (i := 12) (N := some 63) (v := ?_) (a' := ?_) #[true, true, true, true, true, true, true, true, true, true, true, true, true, false, false, false, false, false] rfl rfl (any_of HT_.out (by kernel_rfl)) (fun _ _ _ h => h) (Or.inl ⟨by rfl, ?_⟩) ?_ ?_
                rotate_left
                · intro w'
                  go_simp
                  with_reducible rfl
                rotate_left
                · simp only [Act.put, List.setIfInBounds_toArray, List.set_cons_zero, List.set_cons_succ, i64_w, i32_w]
                  rfl
                refine take_ (i := 13) (N := some 64) (v := ?_) (a' := ?_) #[true, true, true, true, true, true, true, true, true, true, true, true, true, true, false, false, false, false] rfl rfl (take_ofW HT_.out HW_.out (by kernel_rfl)) (fun _ _ _ h => h) (Or.inl ⟨by rfl, ?_⟩) hHeld ?_ ?_
                rotate_left
                · rintro w' ⟨s0, s1, s2⟩
                  go_simp
                  with_reducible rfl
                rotate_left
                · simp only [Act.put, List.setIfInBounds_toArray, List.set_cons_zero, List.set_cons_succ, i64_w, i32_w]
                  rfl
                refine pure_ (i := 14) (N := some 65) (v := ?_) (a' := ?_) #[true, true, true, true, true, true, true, true, true, true, true, true, true, true, true, false, false, false] rfl rfl (any_of HT_.out (by kernel_rfl)) (fun _ _ _ h => h) (Or.inl ⟨by rfl, ?_⟩) ?_ ?_
                rotate_left
                · intro w'
                  go_simp
                  with_reducible rfl
                rotate_left
                · simp only [Act.put, List.setIfInBounds_toArray, List.set_cons_zero, List.set_cons_succ, i64_w, i32_w]
                  rfl
                refine last_ (i := 15) (N := some 66) #[true, true, true, true, true, true, true, true, true, true, true, true, true, true, true, true, false, false] rfl rfl (one_of HT_.out (by kernel_rfl)) (by decide) (fun K hK => ?_)
                refine value_ (w1 := ?_) (v := ?_) (by rfl) rfl ?_ ?_
                rotate_left 2
                · go_simp
                  constructor
                  · rfl
                  · rfl
                refine hK.out _ _ ?_
                clear hK K
                refine norm_ (a' := ?_) ?_ ?_
                rotate_left
                · show Act.put _ (some 66) _ = _
                  simp only [Act.put, List.setIfInBounds_toArray, List.set_cons_zero, List.set_cons_succ, i64_w, i32_w]
                  rfl
                refine last_ (i := 16) (N := some 67) #[true, true, true, true, true, true, true, true, true, true, true, true, true, true, true, true, true, false] rfl rfl (one_of HT_.out (by kernel_rfl)) (by decide) (fun K hK => ?_)
                refine Kd.R_append_step (Kd.int .i64) (w0 := w) w.heap.size (by rfl) (.tmp 51) (.tmp 66) 24 3 (.int .i64 0) 8 rfl Try.underlying24 info3 rfl (by decide) (by omega) u8 (nextTo l r i) (wrap64 (wrap64 (y - z) + g)) [.int .i64 (wrap64 (wrap64 (y - z) + g))] (fun _ => True) (fun _ => False) rfl rfl ?aP (fun _ hk => hk.elim) ?aF ?aO ?aB ?aS ?aL ?_
                (case aP => exact rfl)
                (case aB => exact hGd.b)
                (case aF => exact fun _ _ => trivial)
                (case aO => exact hNd)
                (case aS => exact hGd.b.size)
                (case aL => have := HLE.out; omega)
                intro v1 w51 ho hb hgr hat
                have hG3 := hGd.grown (u := u8) hb hgr (fun k hk => hF2.out k hk)
                have HG3 := Lib.hid hG3
                have HO3 := Lib.hid (OwI.of ho)
                have HF3 := Lib.hid (show ∀ k, Fp v1 k → V.heap.size ≤ k ∧ k ∉ S ∧ u3.ownBlock ≠ some k from fun k hk => by
                  rcases hat with hat | ⟨b, hb', hle⟩
                  · exact hF2.out k (by unfold Fp; rw [← hat]; exact hk)
                  · have e : b = k := by unfold Fp at hk; rw [hb'] at hk; injection hk
                    subst e
                    exact ⟨Nat.le_trans hGd.sz hle, fun hs => by have := hGd.rows.lt _ hs; omega, fun ho => by have := Kd.R_lt hGd.out _ ho; omega⟩)
                clear hG3 ho hb hgr hat hGd hNd
                refine hK.out _ _ ?_
                clear hK K
                refine norm_ (a' := ?_) ?_ ?_
                rotate_left
                · show Act.put _ (some 67) _ = _
                  simp only [Act.put, List.setIfInBounds_toArray, List.set_cons_zero, List.set_cons_succ, i64_w, i32_w]
                  rfl
                refine pure_ (i := 17) (N := some 8) (v := ?_) (a' := ?_) #[true, true, true, true, true, true, true, true, true, true, true, true, true, true, true, true, true, true] rfl rfl (any_of HT_.out (by kernel_rfl)) (fun _ _ _ h => h) (Or.inl ⟨by rfl, ?_⟩) ?_ ?_
                rotate_left
                · intro w'
                  go_simp
                  with_reducible rfl
                rotate_left
                · simp only [Act.put, List.setIfInBounds_toArray, List.set_cons_zero, List.set_cons_succ, i64_w, i32_w]
                  rfl
                refine done_ (done_of HT_.out (by kernel_rfl)) ?_
                go_wp2_with fail
                go_roundw
                case rel => exact ⟨i + 1, by omega, by go_num, ⟨HG3.out⟩, ⟨by rw [HNX.out, HM.out, HENT.out]; exact HO3.out⟩, ⟨HF3.out⟩⟩
                case measure => simp [intOf]; omega
              · have hm : may l r i = false := by rw [HMAY.out]; simp [h2]
                have HM := Lib.hid hm
                clear hm
                go_wp2_with fail
                go_roundw
                case rel => exact ⟨i + 1, by omega, by go_num, hG2, ⟨by rw [HNX.out, HM.out]; exact hN2.out⟩, hF2⟩
                case measure => simp [intOf]; omega
            · have hm : may l r i = false := by rw [HMAY.out]; simp [h1]
              have HM := Lib.hid hm
              clear hm
              go_wp2_with fail
              go_roundw
              case rel => exact ⟨i + 1, by omega, by go_num, hG2, ⟨by rw [HNX.out, HM.out]; exact hN2.out⟩, hF2⟩
              case measure => simp [intOf]; omega
          · obtain rfl : i = 3 := by omega
            obtain ⟨A8, c8, e8, _, _⟩ := hN2.out.rd
            subst e8
            have hrs : outTo l (r + 1) = if (nextTo l r 3).length = 3 then outTo l r ++ [nextTo l r 3] else outTo l r := rfl
            have hol := outTo_len l r
            have hvl := hG2.out.rows.len
            have HRS := Lib.hid hrs
            have HOL := Lib.hid (And.intro hol hvl)
            have hbv := (HK.out.sz)
            have HVZ := Lib.hid (show w.heap.size < V.heap.size by omega)
            have hG2o := hG2.out.out
            have hGo : Kd.R (Kd.raw 1) 24 wr w.heap.size (fun _ => True) u3 (vs.map fun v => [v]) := Kd.raw_any hG2o
            have HGO := Lib.hid hGo
            clear hrs hol hvl hbv hG2o hGo
            by_cases hL : (nextTo l r 3).length = 3
            · generalize hnx : nextTo l r 3 = nx at *
              rw [hL] at hN2 hF2 ⊢
              go_wp2_with (first | ((with_reducible refine gate_builtin (b := .append) (xs := #[.tmp 72, .tmp 74]) rfl ?_); at_builtin; refine Kd.R_append (Kd.raw 1) (w0 := w) w.heap.size rfl (.tmp 72) (.tmp 74) 27 24 (.slice none 0 0) 24 rfl Try.underlying27 info24 rfl (by decide) (by omega) u3 (vs.map fun v => [v]) [.slice A8 3 c8] [.slice A8 3 c8] (fun _ => True) (fun _ => False) rfl rfl ?aP (fun _ hk => hk.elim) (fun _ _ => trivial) ?aO ?aB ?aS ?aL ?_; (case aP => exact ⟨rfl, rfl, fun u hu => by rw [List.mem_singleton.1 hu]; rfl⟩); (case aB => exact hG2.out.b); (case aO => exact HGO.out); (case aS => exact hG2.out.b.size); (case aL => rw [List.length_map]; have := HOL.out; omega); intro v1 w1 ho hb hgr hat; have HG3 := Lib.hid (Gath.push hG2.out (nx := nx) hN2.out hF2.out HVZ.out ho hb hgr hat); clear ho hb hgr hat))
              go_roundw
              case rel => exact ⟨r + 1, by have := HLT.out; omega, by go_num, _, _, ⟨by rw [HRS.out, if_pos hL]; exact HG3.out⟩⟩
              case measure => simp [intOf]; have := HLT.out; omega
            · have hL' : (((nextTo l r 3).length : Int) == 3) = false := by rw [beq_eq_false_iff_ne]; omega
              generalize hnx : nextTo l r 3 = nx at *
              go_wp2_with fail
              go_roundw
              case rel => exact ⟨r + 1, by have := HLT.out; omega, by go_num, _, _, ⟨by rw [HRS.out, if_neg hL]; exact hG2.out⟩⟩
              case measure => simp [intOf]; have := HLT.out; omega
      · obtain rfl : r = 4 := by omega
        go_wp2_with fail
        go_ret
        obtain ⟨S', ho, hs⟩ := hG.out.owss (by have := HK.out.sz; omega)
        refine ⟨_, S', rfl, ?_, hs, hG.out.b⟩
        unfold nextM
        rw [if_pos h3]
        exact ho
  · have l3 : ((l.length : Int) != 3) = true := by rw [bne_iff_ne]; omega
    go_wp2_with fail
    go_ret
    refine ⟨.slice (some ⟨w.heap.size, 0, none⟩) 0 0, [w.heap.size], rfl, ?_, fun k hk => by simp at hk; omega, below_alloc (Below.refl _ _) _⟩
    unfold nextM
    rw [if_neg h3]
    exact .inr ⟨w.heap.size, 0, #[], [], rfl, Nat.le_refl _, by decide, blk_new _ _, rfl, ⟨rfl, rfl⟩, rfl, by simp⟩
end Go.Proofs.Ytfnkobcmhbdcoaa.NextI
