/- Rows of integers that are being gathered into a row of the call's own. -/
import Derived.Test.YtfnkobcmhbdcoaaRows2
namespace Go.Proofs.Ytfnkobcmhbdcoaa.GathR
open Go.RowKit Go.Proofs.YtfnkobcmhbdcoaaW.PrintWords Go.Proofs.YtfnkobcmhbdcoaaW.PrintLast Go.Proofs.Ytfnkobcmhbdcoaa.Base Go.Proofs.Ytfnkobcmhbdcoaa.XTypes Go.Proofs.Ytfnkobcmhbdcoaa.XInts Go.Proofs.Ytfnkobcmhbdcoaa.PureInts Go.Proofs.Ytfnkobcmhbdcoaa.Typed Go.Proofs.Ytfnkobcmhbdcoaa.Trees Go.Proofs.Ytfnkobcmhbdcoaa.MarkT Go.Proofs.Ytfnkobcmhbdcoaa.Rows2
set_option linter.unusedVariables false
set_option linter.unusedSimpArgs false
set_option linter.unnecessarySimpa false

/-- The blocks of some rows. -/
def blks (vs : List Value) : List Nat := vs.flatMap own
theorem blks_append (vs us : List Value) : blks (vs ++ us) = blks vs ++ blks us := List.flatMap_append
theorem blks_one (u : Value) : blks [u] = own u := by simp [blks]
theorem OwRC.blks {w : World} {ls : List (List Int)} {vs : List Value} {S : List Nat} (h : OwRC w ls vs S) : S = blks vs := by
  induction ls generalizing vs S with
  | nil => rw [h.1, h.2]; rfl
  | cons l ls ih =>
    obtain ⟨v, cs', S', rfl, rfl, _, h2, _⟩ := h
    rw [ih h2]
    simp [GathR.blks]
/-- What is so while rows are gathered from block B on: they are owned, apart, and so is the row that holds them. -/
structure Ga (B : Nat) (vout : Value) (ls : List (List Int)) (vs : List Value) (W : World) : Prop where
  rows : OwRC W ls vs (blks vs)
  out : Kd.R (Kd.raw 1) 24 W B (fun k => some k = vout.ownBlock) vout (vs.map fun v => [v])
  far : ∀ k ∈ blks vs, B ≤ k
  outs : ∀ k, vout.ownBlock = some k → k ∉ blks vs
theorem Ga.len {B : Nat} {vout : Value} {ls : List (List Int)} {vs : List Value} {W : World} (h : Ga B vout ls vs W) : vs.length = ls.length := h.rows.len
theorem Ga.lt {B : Nat} {vout : Value} {ls : List (List Int)} {vs : List Value} {W : World} (h : Ga B vout ls vs W) : ∀ k ∈ blks vs, k < W.heap.size := h.rows.lt
theorem Ga.out_lt {B : Nat} {vout : Value} {ls : List (List Int)} {vs : List Value} {W : World} (h : Ga B vout ls vs W) {k : Nat} (hk : vout.ownBlock = some k) : k < W.heap.size := Kd.R_lt h.out k hk
theorem Ga.step {B : Nat} {vout : Value} {ls : List (List Int)} {vs : List Value} {W W1 : World} (h : Ga B vout ls vs W) (h1 : ∀ k ∈ blks vs, W1.heap[k]? = W.heap[k]?) (h2 : ∀ k, vout.ownBlock = some k → W1.heap[k]? = W.heap[k]?) : Ga B vout ls vs W1 :=
  ⟨h.rows.frame h1, Kd.R_step h.out (fun k hk _ => h2 k hk.symm), h.far, h.outs⟩
theorem Ga.below {B : Nat} {vout : Value} {ls : List (List Int)} {vs : List Value} {W W1 : World} (h : Ga B vout ls vs W) (hb : Below W.heap.size W W1) : Ga B vout ls vs W1 :=
  h.step (fun k hk => hb.block k (h.lt k hk)) (fun k hk => hb.block k (h.out_lt hk))
theorem Ga.grown {B : Nat} {vout : Value} {ls : List (List Int)} {vs : List Value} {W W1 : World} (h : Ga B vout ls vs W) {r : Option Nat} (hg : W.grownBy W1 r) (h1 : ∀ k, r = some k → k ∉ blks vs ∧ vout.ownBlock ≠ some k) : Ga B vout ls vs W1 :=
  h.step (fun k hk => hg.block k (h.lt k hk) (fun e => (h1 k e.symm).1 hk)) (fun k hk => hg.block k (h.out_lt hk) (fun e => (h1 k e.symm).2 hk))
theorem Ga.kept {B : Nat} {vout : Value} {ls : List (List Int)} {vs : List Value} {W W1 : World} {P : Nat → Prop} (h : Ga B vout ls vs W) (hk : Kept W W1 P) (h1 : ∀ k, P k → k ∉ blks vs ∧ vout.ownBlock ≠ some k) : Ga B vout ls vs W1 :=
  h.step (fun k hb => hk.2 k (h.lt k hb) (fun hp => (h1 k hp).1 hb)) (fun k hb => hk.2 k (h.out_lt hb) (fun hp => (h1 k hp).2 hb))
/-- One more row. -/
theorem Ga.push {B base : Nat} {vout v1 u : Value} {ls : List (List Int)} {vs : List Value} {W W1 : World} {nx : List Int} {ok : Nat → Prop} (h : Ga B vout ls vs W) (hn : OwI base W u nx) (hf : ∀ k, Fp u k → B ≤ k ∧ k ∉ blks vs ∧ vout.ownBlock ≠ some k)
    (ho : Kd.R (Kd.raw 1) 24 W1 B ok v1 ((vs.map fun v => [v]) ++ [[u]])) (hg : W.grownBy W1 vout.ownBlock) (hat : v1.ownBlock = vout.ownBlock ∨ ∃ b, v1.ownBlock = some b ∧ W.heap.size ≤ b) : Ga B v1 (ls ++ [nx]) (vs ++ [u]) W1 := by
  refine ⟨?_, ?_, fun k hk => ?_, fun k hk => ?_⟩
  · have e : blks (vs ++ [u]) = blks vs ++ (own u ++ []) := by rw [blks_append, blks_one]; simp
    rw [e]
    refine OwRC_mid.2 ⟨vs, u, [], blks vs, [], rfl, rfl, h.rows.frame (fun k hk => hg.block k (h.rows.lt k hk) (fun e => (h.outs k e.symm) hk)), ?_, ⟨rfl, rfl⟩, fun k hk hk' => ?_, fun k _ hk => by cases hk⟩
    · exact (hn.step (fun k hk hlt => hg.block k hlt (fun e => (hf k hk).2.2 e.symm))).lower (Nat.zero_le _)
    · simp at hk'
      exact (hf k (own_iff.1 hk')).2.1 hk
  · have := Kd.raw_tight ho
    simpa using this
  · rw [blks_append, blks_one] at hk
    rcases List.mem_append.1 hk with hk | hk
    · exact h.far k hk
    · exact (hf k (own_iff.1 hk)).1
  · rw [blks_append, blks_one]
    rcases hat with hat | ⟨b, hb', hle⟩
    · rw [hat] at hk
      intro hs
      rcases List.mem_append.1 hs with hs | hs
      · exact (h.outs k hk) hs
      · exact (hf k (own_iff.1 hs)).2.2 hk
    · rw [hb'] at hk
      injection hk with hk
      subst hk
      intro hs
      rcases List.mem_append.1 hs with hs | hs
      · have := h.rows.lt _ hs; omega
      · have := (hn.lt (own_iff.1 hs)).2; omega
theorem Ga.owss {B : Nat} {W : World} {vout : Value} {ls : List (List Int)} {vs : List Value} (h : Ga B vout ls vs W) : ∃ S', OwSS W vout ls S' ∧ ∀ k ∈ S', B ≤ k := by
  obtain ⟨_, inner, ho, hr⟩ := h.out
  have hin : inner = vs := by
    have key : ∀ (vs inner : List Value), Reps (fun x cs => cs = x ∧ cs.length = 1 ∧ ∀ u ∈ cs, u.oneCell' = true) 1 (vs.map fun v => [v]) inner → inner = vs := by
      intro vs
      induction vs with
      | nil =>
        intro inner h
        have := h.1
        simp at this
        exact this
      | cons v vs ih =>
        intro inner h
        have h0 := (h.2 0 [v] rfl).1
        have hl := h.1
        simp only [List.map_cons, List.length_cons, List.length_map] at hl
        have h1 : inner.drop 1 = vs := by
          refine ih _ ⟨by simp [hl], fun j p hj => ?_⟩
          have := h.2 (j + 1) p (by simpa using hj)
          rw [List.drop_drop]
          have e : 1 + j * 1 = (j + 1) * 1 := by omega
          rw [e]
          exact this
        have h2 : inner.take 1 = [v] := by simpa using h0
        rw [← List.take_append_drop 1 inner, h1, h2]
        rfl
    exact key vs inner hr
  rw [hin] at ho
  have hlv := h.rows.len
  have hl : (vs.map fun v => [v]).length = ls.length := by rw [List.length_map, hlv]
  rw [hl] at ho
  rcases ho.2 with ⟨rfl, hn⟩ | ⟨g, cap, cur, rfl, hb, hh, hc, hm, hs, ht⟩
  · refine ⟨[], .inl ⟨rfl, hn, rfl⟩, fun k hk => by cases hk⟩
  · refine ⟨g :: blks vs, .inr ⟨g, cap, cur, blks vs, rfl, hc, hm, hh, hs, ?_, rfl, h.outs g rfl⟩, fun k hk => ?_⟩
    · have ht' : cur.toList.take (ls.length * 1) = vs := ht
      rw [ht']
      exact h.rows
    · rcases List.mem_cons.1 hk with rfl | hk
      · exact hb
      · exact h.far k hk
/-- The cells of the gathered row. -/
theorem Ga.cell {B : Nat} {W : World} {vout : Value} {ls : List (List Int)} {vs : List Value} (h : Ga B vout ls vs W) {j : Nat} (hj : j < ls.length) : ∃ g cap u, vout = .slice (some ⟨g, 0, none⟩) ls.length cap ∧ ls.length ≤ cap ∧ vs[j]? = some u ∧ W.cell? ⟨g, j, none⟩ = some u ∧ OwI 0 W u (ls.getD j []) := by
  obtain ⟨_, inner, ho, hr⟩ := h.out
  have hlv := h.rows.len
  have hl : (vs.map fun v => [v]).length = ls.length := by rw [List.length_map, hlv]
  obtain ⟨u, hu, hI⟩ := h.rows.rd j ls[j] (by simp [hj])
  rw [hl] at ho
  rcases ho.2 with ⟨rfl, hn⟩ | ⟨g, cap, cur, rfl, hb, hh, hc, hm, hs, ht⟩
  · omega
  · refine ⟨g, cap, u, rfl, hc, hu, ?_, by simpa [hj] using hI⟩
    have h0 : (inner.drop (j * 1)).take 1 = [u] := (hr.2 j [u] (by simp [hu])).1
    have ht' : cur.toList.take (ls.length * 1) = inner := ht
    have h1 : inner[j]? = some u := by
      have : (((inner.drop (j * 1)).take 1)[0]?) = some u := by rw [h0]; rfl
      simpa using this
    rw [← ht', List.getElem?_take] at h1
    split at h1
    · simp only [World.cell?, hh]
      simpa using h1
    · cases h1
/-- A new, empty row. -/
theorem Ga.new {B n : Nat} {W : World} (hn : B ≤ n) (hg : W.heap[n]? = some (.cells #[] 24 (0, 0))) : Ga B (.slice (some ⟨n, 0, none⟩) 0 0) [] [] W :=
  ⟨⟨rfl, rfl⟩, ⟨fun k hk => hk.symm, [], ⟨rfl, .inr ⟨n, 0, #[], rfl, hn, hg, Nat.le_refl _, by decide, rfl, rfl⟩⟩, Reps.none _ _⟩, (fun k hk => by cases hk), fun k _ h => by cases h⟩
theorem Ga.nil (B : Nat) (W : World) : Ga B (.slice none 0 0) [] [] W :=
  ⟨⟨rfl, rfl⟩, ⟨fun k hk => hk.symm, [], ⟨rfl, .inl ⟨rfl, rfl⟩⟩, Reps.none _ _⟩, (fun k hk => by cases hk), fun k h => by cases h⟩
theorem Ga.rd {B : Nat} {W : World} {vout : Value} {ls : List (List Int)} {vs : List Value} (h : Ga B vout ls vs W) : RdSS W vout ls := by
  obtain ⟨S, ho, _⟩ := h.owss
  exact ho.rd
theorem Ga.mem {B : Nat} {W : World} {vout : Value} {ls : List (List Int)} {vs : List Value} (h : Ga B vout ls vs W) {j : Nat} {u : Value} (hu : vs[j]? = some u) : ∀ k ∈ own u, k ∈ blks vs ∧ k ∉ blks (vs.take j) := by
  have hj : j < vs.length := (List.getElem?_eq_some_iff.1 hu).1
  have hjl : j < ls.length := by rw [← h.len]; exact hj
  have e : ls = ls.take j ++ ls[j] :: ls.drop (j + 1) := by rw [List.getElem_cons_drop, List.take_append_drop]
  have hr := h.rows
  rw [e] at hr
  obtain ⟨c1, v, c2, S1, S2, e1, e2, h1, h2, h3, hd1, hd2⟩ := OwRC_mid.1 hr
  have l1 := h1.len
  have hl1 : c1.length = j := by rw [l1, List.length_take]; omega
  have ev : v = u := by
    rw [e1, List.getElem?_append_right (by omega), hl1, Nat.sub_self] at hu
    simpa using hu
  subst ev
  have et : vs.take j = c1 := by rw [e1, ← hl1, List.take_left]
  intro k hk
  rw [et, ← OwRC.blks h1]
  exact ⟨by rw [e2]; exact List.mem_append_right _ (List.mem_append_left _ hk), fun hs => hd1 k hs (List.mem_append_left _ hk)⟩
end Go.Proofs.Ytfnkobcmhbdcoaa.GathR
