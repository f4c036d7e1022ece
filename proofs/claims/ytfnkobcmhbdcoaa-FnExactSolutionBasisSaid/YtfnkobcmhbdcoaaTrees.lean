/- Terms as trees that the call owns: where they lie, which blocks are theirs, no two of which are one. -/
import Derived.Test.YtfnkobcmhbdcoaaTyped
namespace Go.Proofs.Ytfnkobcmhbdcoaa.Trees
open Go.RowKit Go.Proofs.YtfnkobcmhbdcoaaW.PrintWords Go.Proofs.YtfnkobcmhbdcoaaW.PrintLast Go.Proofs.Ytfnkobcmhbdcoaa.Base Go.Proofs.Ytfnkobcmhbdcoaa.XTypes Go.Proofs.Ytfnkobcmhbdcoaa.PureInts Go.Proofs.Ytfnkobcmhbdcoaa.Typed
set_option linter.unusedVariables false
set_option linter.unusedSimpArgs false
set_option linter.unnecessarySimpa false

abbrev T := S35
abbrev kT : Kd T := k35
/-- Induction over terms and lists of terms. -/
theorem T.ind {P : T → Prop} {Q : List T → Prop} (h1 : ∀ op nm st ts, Q ts → P ⟨op, nm, st, ts⟩) (h2 : Q []) (h3 : ∀ t ts, P t → Q ts → Q (t :: ts)) : (∀ t, P t) ∧ ∀ ts, Q ts := by
  have hp : ∀ t, P t := fun t => S35.rec (motive_1 := P) (motive_2 := Q) (fun op nm st ts ih => h1 op nm st ts ih) h2 (fun t ts iht ihs => h3 t ts iht ihs) t
  refine ⟨hp, fun ts => ?_⟩
  induction ts with
  | nil => exact h2
  | cons t ts ih => exact h3 t ts (hp t) ih

/-- A row: nil, or a block of one's own whose first cells are told by R (with the blocks that they lead to). -/
def RowOf (w : World) (e sz : Nat) (v : Value) (n : Nat) (R : List Value → List Nat → Prop) (S : List Nat) : Prop :=
  (v = .slice none 0 0 ∧ n = 0 ∧ S = []) ∨
  ∃ g cap cur S', v = .slice (some ⟨g, 0, none⟩) n cap ∧ n ≤ cap ∧ cap ≤ maxLen ∧ w.heap[g]? = some (.cells cur e (0, 0)) ∧ cur.size = cap * sz ∧ R (cur.toList.take (n * sz)) S' ∧ S = g :: S' ∧ g ∉ S'
mutual
def OwT (w : World) : T → List Value → List Nat → Prop
  | ⟨op, nm, st, ts⟩ => fun c S => ∃ v, c = [.int .i64 op, .string nm, .int .i64 st, v] ∧ RowOf w 35 4 v ts.length (fun cs S' => OwC w ts cs S') S
def OwC (w : World) : List T → List Value → List Nat → Prop
  | [] => fun cs S => cs = [] ∧ S = []
  | t :: ts => fun cs S => ∃ c1 c2 S1 S2, cs = c1 ++ c2 ∧ S = S1 ++ S2 ∧ OwT w t c1 S1 ∧ OwC w ts c2 S2 ∧ ∀ k ∈ S1, k ∉ S2
end
/-- A list of terms in a row of one's own. -/
def OwL (w : World) (v : Value) (ts : List T) (S : List Nat) : Prop := RowOf w 35 4 v ts.length (fun cs S' => OwC w ts cs S') S
theorem OwT_iff {w : World} {op st : Int} {nm : ByteArray} {ts : List T} {c : List Value} {S : List Nat} : OwT w ⟨op, nm, st, ts⟩ c S ↔ ∃ v, c = [.int .i64 op, .string nm, .int .i64 st, v] ∧ OwL w v ts S := by
  simp only [OwT, OwL]
theorem OwC_nil {w : World} {cs : List Value} {S : List Nat} : OwC w [] cs S ↔ cs = [] ∧ S = [] := by simp only [OwC]
theorem OwC_cons {w : World} {t : T} {ts : List T} {cs : List Value} {S : List Nat} : OwC w (t :: ts) cs S ↔ ∃ c1 c2 S1 S2, cs = c1 ++ c2 ∧ S = S1 ++ S2 ∧ OwT w t c1 S1 ∧ OwC w ts c2 S2 ∧ ∀ k ∈ S1, k ∉ S2 := by simp only [OwC]

theorem RowOf.imp {w w' : World} {e sz n : Nat} {v : Value} {R R' : List Value → List Nat → Prop} {S : List Nat} (h : RowOf w e sz v n R S) (hm : ∀ k ∈ S, w'.heap[k]? = w.heap[k]?) (hR : ∀ cs S', R cs S' → (∀ k ∈ S', k ∈ S) → R' cs S') : RowOf w' e sz v n R' S := by
  rcases h with h | ⟨g, cap, cur, S', hv, hn, hc, hh, hs, hr, rfl, hg⟩
  · exact .inl h
  · exact .inr ⟨g, cap, cur, S', hv, hn, hc, (hm g List.mem_cons_self).trans hh, hs, hR _ _ hr (fun k hk => List.mem_cons_of_mem _ hk), rfl, hg⟩
theorem frame_all (w w' : World) : (∀ t c S, OwT w t c S → (∀ k ∈ S, w'.heap[k]? = w.heap[k]?) → OwT w' t c S) ∧ ∀ ts cs S, OwC w ts cs S → (∀ k ∈ S, w'.heap[k]? = w.heap[k]?) → OwC w' ts cs S := by
  apply T.ind (P := fun t => ∀ c S, OwT w t c S → (∀ k ∈ S, w'.heap[k]? = w.heap[k]?) → OwT w' t c S) (Q := fun ts => ∀ cs S, OwC w ts cs S → (∀ k ∈ S, w'.heap[k]? = w.heap[k]?) → OwC w' ts cs S)
  · intro op nm st ts ih c S h hm
    rw [OwT_iff] at h ⊢
    obtain ⟨v, hc, hr⟩ := h
    exact ⟨v, hc, RowOf.imp hr hm (fun cs S' h hk => ih cs S' h (fun k hs => hm k (hk k hs)))⟩
  · intro cs S h _
    exact OwC_nil.2 (OwC_nil.1 h)
  · intro t ts iht ihs cs S h hm
    rw [OwC_cons] at h ⊢
    obtain ⟨c1, c2, S1, S2, rfl, rfl, h1, h2, hd⟩ := h
    exact ⟨c1, c2, S1, S2, rfl, rfl, iht _ _ h1 (fun k hk => hm k (List.mem_append_left _ hk)), ihs _ _ h2 (fun k hk => hm k (List.mem_append_right _ hk)), hd⟩
theorem OwL.frame {w w' : World} {v : Value} {ts : List T} {S : List Nat} (h : OwL w v ts S) (hm : ∀ k ∈ S, w'.heap[k]? = w.heap[k]?) : OwL w' v ts S := RowOf.imp h hm (fun cs S' h hk => (frame_all w w').2 ts cs S' h (fun k hs => hm k (hk k hs)))
theorem OwT.frame {w w' : World} {t : T} {c : List Value} {S : List Nat} (h : OwT w t c S) (hm : ∀ k ∈ S, w'.heap[k]? = w.heap[k]?) : OwT w' t c S := (frame_all w w').1 t c S h hm
theorem OwC.frame {w w' : World} {ts : List T} {c : List Value} {S : List Nat} (h : OwC w ts c S) (hm : ∀ k ∈ S, w'.heap[k]? = w.heap[k]?) : OwC w' ts c S := (frame_all w w').2 ts c S h hm

theorem heap_lt {w : World} {g : Nat} {o : Obj} (h : w.heap[g]? = some o) : g < w.heap.size := by
  rcases Nat.lt_or_ge g w.heap.size with h' | h'
  · exact h'
  · simp [Array.getElem?_eq_none h'] at h
theorem RowOf.lt {w : World} {e sz n : Nat} {v : Value} {R : List Value → List Nat → Prop} {S : List Nat} (h : RowOf w e sz v n R S) (hR : ∀ cs S', R cs S' → ∀ k ∈ S', k < w.heap.size) : ∀ k ∈ S, k < w.heap.size := by
  rcases h with ⟨_, _, rfl⟩ | ⟨g, cap, cur, S', hv, hn, hc, hh, hs, hr, rfl, hg⟩
  · intro k hk; cases hk
  · intro k hk
    rcases List.mem_cons.1 hk with rfl | hk
    · exact heap_lt hh
    · exact hR _ _ hr k hk
theorem lt_all (w : World) : (∀ t c S, OwT w t c S → ∀ k ∈ S, k < w.heap.size) ∧ ∀ ts cs S, OwC w ts cs S → ∀ k ∈ S, k < w.heap.size := by
  apply T.ind (P := fun t => ∀ c S, OwT w t c S → ∀ k ∈ S, k < w.heap.size) (Q := fun ts => ∀ cs S, OwC w ts cs S → ∀ k ∈ S, k < w.heap.size)
  · intro op nm st ts ih c S h
    rw [OwT_iff] at h
    obtain ⟨v, hc, hr⟩ := h
    exact RowOf.lt hr ih
  · intro cs S h k hk
    obtain ⟨_, rfl⟩ := OwC_nil.1 h
    cases hk
  · intro t ts iht ihs cs S h k hk
    rw [OwC_cons] at h
    obtain ⟨c1, c2, S1, S2, rfl, rfl, h1, h2, hd⟩ := h
    rcases List.mem_append.1 hk with hk | hk
    · exact iht _ _ h1 k hk
    · exact ihs _ _ h2 k hk
theorem OwL.lt {w : World} {v : Value} {ts : List T} {S : List Nat} (h : OwL w v ts S) : ∀ k ∈ S, k < w.heap.size := RowOf.lt h ((lt_all w).2 ts)
theorem OwT.lt {w : World} {t : T} {c : List Value} {S : List Nat} (h : OwT w t c S) : ∀ k ∈ S, k < w.heap.size := (lt_all w).1 t c S h
theorem OwC.lt {w : World} {ts : List T} {c : List Value} {S : List Nat} (h : OwC w ts c S) : ∀ k ∈ S, k < w.heap.size := (lt_all w).2 ts c S h
theorem OwT.len {w : World} {t : T} {c : List Value} {S : List Nat} (h : OwT w t c S) : c.length = 4 := by
  obtain ⟨op, nm, st, ts⟩ := t
  obtain ⟨v, rfl, _⟩ := OwT_iff.1 h
  rfl
theorem OwC.len {w : World} {ts : List T} {c : List Value} {S : List Nat} (h : OwC w ts c S) : c.length = ts.length * 4 := by
  induction ts generalizing c S with
  | nil => obtain ⟨rfl, _⟩ := OwC_nil.1 h; rfl
  | cons t ts ih =>
    obtain ⟨c1, c2, S1, S2, rfl, rfl, h1, h2, hd⟩ := OwC_cons.1 h
    rw [List.length_append, h1.len, ih h2]
    simp; omega

/-! ### what is owned reads -/
/-- A row of terms, read. -/
def RdL (w : World) (v : Value) (ts : List T) : Prop := ∃ A c, v = .slice A ts.length c ∧ ts.length ≤ c ∧ Kd.C kT w A ts.length ts
theorem RdL.below {w w' : World} {v : Value} {l : List T} (h : RdL w v l) (hb : Below w.heap.size w w') : RdL w' v l := by
  obtain ⟨A, c, e, hc, hr⟩ := h
  exact ⟨A, c, e, hc, Kd.C_below hr hb⟩
theorem RdL.len {w : World} {v : Value} {l : List T} (h : RdL w v l) : l.length ≤ 9223372036854775807 := by
  obtain ⟨A, c, e, hc, hr⟩ := h
  exact hr.2.1
/-- The cells of element j. -/
theorem OwC.get {w : World} {ts : List T} {cs : List Value} {S : List Nat} (h : OwC w ts cs S) {j : Nat} {t : T} (hj : ts[j]? = some t) : ∃ c S', c.length = 4 ∧ (∀ i u, c[i]? = some u → cs[j * 4 + i]? = some u) ∧ OwT w t c S' ∧ ∀ k ∈ S', k ∈ S := by
  induction ts generalizing cs S j with
  | nil => simp at hj
  | cons t0 ts ih =>
    obtain ⟨c1, c2, S1, S2, rfl, rfl, h1, h2, hd⟩ := OwC_cons.1 h
    cases j with
    | zero =>
      obtain rfl : t0 = t := by simpa using hj
      refine ⟨c1, S1, h1.len, fun i u hi => ?_, h1, fun k hk => List.mem_append_left _ hk⟩
      have hl : i < c1.length := (List.getElem?_eq_some_iff.1 hi).1
      rw [Nat.zero_mul, Nat.zero_add, List.getElem?_append_left hl]
      exact hi
    | succ j =>
      obtain ⟨c, S', hl, hc, ht, hs⟩ := ih h2 (by simpa using hj)
      refine ⟨c, S', hl, fun i u hi => ?_, ht, fun k hk => List.mem_append_right _ (hs k hk)⟩
      have e : (j + 1) * 4 + i = c1.length + (j * 4 + i) := by rw [h1.len]; omega
      rw [e, List.getElem?_append_right (by omega)]
      rw [Nat.add_sub_cancel_left]
      exact hc i u hi
theorem reads_all (w : World) : (∀ t c S, OwT w t c S → kT.K w t c) ∧ ∀ ts cs S, OwC w ts cs S → ∀ (j : Nat) t, ts[j]? = some t → ∃ c, c.length = 4 ∧ kT.K w t c ∧ ∀ i u, c[i]? = some u → cs[j * 4 + i]? = some u := by
  apply T.ind (P := fun t => ∀ c S, OwT w t c S → kT.K w t c) (Q := fun ts => ∀ cs S, OwC w ts cs S → ∀ (j : Nat) t, ts[j]? = some t → ∃ c, c.length = 4 ∧ kT.K w t c ∧ ∀ i u, c[i]? = some u → cs[j * 4 + i]? = some u)
  · intro op nm st ts ih c S h
    rw [OwT_iff] at h
    obtain ⟨v, rfl, hr⟩ := h
    rcases hr with ⟨rfl, hn, _⟩ | ⟨g, cap, cur, S', rfl, hn, hc, hh, hs, hr, rfl, hg⟩
    · obtain rfl : ts = [] := List.length_eq_zero_iff.1 hn
      exact k35_mk w ⟨op, nm, st, []⟩ (A3 := none) (c3 := 0) (Nat.le_refl _) ⟨rfl, by simp, fun h => by simp at h⟩
    · refine k35_mk w ⟨op, nm, st, ts⟩ (A3 := some ⟨g, 0, none⟩) (c3 := cap) hn ⟨rfl, by unfold maxLen at hc; show ts.length ≤ _; omega, fun _ => ⟨_, rfl, ?_⟩⟩
      intro j t hj
      obtain ⟨c, hl, hk, hcs⟩ := ih _ _ hr j t hj
      refine ⟨c, hl, hk, fun i u hi => ?_⟩
      have h1 := hcs i u hi
      have h2 : cur.toList[j * 4 + i]? = some u := by
        rw [List.getElem?_take] at h1
        split at h1
        · exact h1
        · cases h1
      have ha : (⟨g, 0, none⟩ : Addr).add (j * 4 + i) = ⟨g, j * 4 + i, none⟩ := by
        unfold Addr.add
        split
        · rename_i e; rw [e]
        · simp
      show w.cell? ((⟨g, 0, none⟩ : Addr).add (j * 4 + i)) = some u
      rw [ha]
      simp only [World.cell?, hh]
      simpa using h2
  · intro cs S h j t hj
    simp at hj
  · intro t ts iht ihs cs S h j t' hj
    rw [OwC_cons] at h
    obtain ⟨c1, c2, S1, S2, rfl, rfl, h1, h2, hd⟩ := h
    cases j with
    | zero =>
      obtain rfl : t = t' := by simpa using hj
      refine ⟨c1, h1.len, iht _ _ h1, fun i u hi => ?_⟩
      have hl : i < c1.length := (List.getElem?_eq_some_iff.1 hi).1
      rw [Nat.zero_mul, Nat.zero_add, List.getElem?_append_left hl]
      exact hi
    | succ j =>
      obtain ⟨c, hl, hk, hc⟩ := ihs _ _ h2 j t' (by simpa using hj)
      refine ⟨c, hl, hk, fun i u hi => ?_⟩
      have e : (j + 1) * 4 + i = c1.length + (j * 4 + i) := by rw [h1.len]; omega
      rw [e, List.getElem?_append_right (by omega), Nat.add_sub_cancel_left]
      exact hc i u hi
theorem OwL.rd {w : World} {v : Value} {ts : List T} {S : List Nat} (h : OwL w v ts S) : RdL w v ts := by
  have hk := (reads_all w).1 ⟨0, ⟨#[]⟩, 0, ts⟩ _ S (OwT_iff.2 ⟨v, rfl, h⟩)
  obtain ⟨A3, c3, he, hl, hC⟩ := k35_open hk
  have : v = .slice A3 ts.length c3 := by simpa using he
  exact ⟨A3, c3, this, hl, hC⟩
end Go.Proofs.Ytfnkobcmhbdcoaa.Trees
