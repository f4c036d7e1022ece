/- laws.szTerm, laws.szTermS: how large a term is, counted down from a bound. -/
import Derived.Test.YtfnkobcmhbdcoaaTrees
namespace Go.Proofs.Ytfnkobcmhbdcoaa.Sz
open Go.RowKit Go.Proofs.YtfnkobcmhbdcoaaW.PrintWords Go.Proofs.YtfnkobcmhbdcoaaW.PrintLast Go.Proofs.Ytfnkobcmhbdcoaa.Base Go.Proofs.Ytfnkobcmhbdcoaa.XTypes Go.Proofs.Ytfnkobcmhbdcoaa.PureInts Go.Proofs.Ytfnkobcmhbdcoaa.Typed Go.Proofs.Ytfnkobcmhbdcoaa.Trees
set_option linter.unusedVariables false
set_option linter.unusedSimpArgs false
set_option linter.unnecessarySimpa false

abbrev L := S55
abbrev kL : Kd L := k55
theorem L.ind {P : L → Prop} (h1 : ∀ op nm st ts, (∀ t ∈ ts, P t) → P ⟨op, nm, st, ts⟩) : ∀ t, P t :=
  fun t => S55.rec (motive_1 := P) (motive_2 := fun ts => ∀ t ∈ ts, P t) (fun op nm st ts ih => h1 op nm st ts ih) (fun t ht => by cases ht) (fun t ts iht ihs t' ht => by
    rcases List.mem_cons.1 ht with rfl | ht
    · exact iht
    · exact ihs t' ht) t
mutual
/-- What a term counts. -/
def cntT : L → Nat
  | ⟨_, nm, _, ts⟩ => nm.size + ts.length + cntL ts
def cntL : List L → Nat
  | [] => 0
  | t :: ts => cntT t + cntL ts
end
mutual
/-- No text is longer than a text may be. -/
def FitT : L → Prop
  | ⟨_, nm, _, ts⟩ => nm.size ≤ 9223372036854775807 ∧ FitL ts
def FitL : List L → Prop
  | [] => True
  | t :: ts => FitT t ∧ FitL ts
end
theorem FitL_mem {ts : List L} (h : FitL ts) : ∀ t ∈ ts, FitT t := by
  induction ts with
  | nil => intro t ht; cases ht
  | cons t0 ts ih =>
    simp only [FitL] at h
    intro t ht
    rcases List.mem_cons.1 ht with rfl | ht
    · exact h.1
    · exact ih h.2 t ht
/-- What is left behind a term. -/
def leftT (t : L) (left : Int) : Int := if left - cntT t < 0 then -1 else left - cntT t
def leftL (ts : List L) (left : Int) : Int := if left - cntL ts < 0 then -1 else left - cntL ts

theorem cntT_mk (op : Int) (nm : ByteArray) (st : Int) (ts : List L) : (cntT ⟨op, nm, st, ts⟩ : Int) = nm.size + ts.length + cntL ts := by
  simp only [cntT]
  omega
/-- A row of the laws' terms, read. -/
def RdK (w : World) (v : Value) (ts : List L) : Prop := ∃ A c, v = .slice A ts.length c ∧ ts.length ≤ c ∧ Kd.C kL w A ts.length ts
theorem RdK.below {w w' : World} {v : Value} {l : List L} (h : RdK w v l) (hb : Below w.heap.size w w') : RdK w' v l := by
  obtain ⟨A, c, e, hc, hr⟩ := h
  exact ⟨A, c, e, hc, Kd.C_below hr hb⟩
theorem RdK.len {w : World} {v : Value} {l : List L} (h : RdK w v l) : l.length ≤ 9223372036854775807 := by
  obtain ⟨A, c, e, hc, hr⟩ := h
  exact hr.2.1
def SzT (t : L) : Prop := ∀ (v : Value) (left : Int) (w : World), RdK w v t.f3 → FitT t → 0 ≤ left → left ≤ 1048576 →
  Calls Try.prog 43 #[.agg #[.int .i64 t.f0, .string t.f1, .int .i64 t.f2, v], .int .i64 left] w fun e w' => e = .returned (.int .i64 (leftT t left)) ∧ Below w.heap.size w w'
def SzL (ts : List L) : Prop := ∀ (v : Value) (left : Int) (w : World), RdK w v ts → FitL ts → 0 ≤ left → left ≤ 1048576 →
  Calls Try.prog 68 #[v, .int .i64 left] w fun e w' => e = .returned (.int .i64 (if left - ts.length < 0 then -1 else leftL ts (left - ts.length))) ∧ Below w.heap.size w w'

/-- An element, and what its own row reads. -/
theorem elem_at {w : World} {A : Option Addr} {n : Nat} {ts : List L} (h : Kd.C kL w A n ts) (i : Nat) (h1 : i < n) : ∃ ad v, A = some ad ∧
    w.cell? (ad.add (i * 4)) = some (.int .i64 (rd_T55 ts (i : Int)).f0) ∧ w.cell? ⟨(ad.add (i * 4)).block, (ad.add (i * 4)).off + 1, none⟩ = some (.string (rd_T55 ts (i : Int)).f1) ∧
    w.cell? ⟨(ad.add (i * 4)).block, (ad.add (i * 4)).off + 2, none⟩ = some (.int .i64 (rd_T55 ts (i : Int)).f2) ∧ w.cell? ⟨(ad.add (i * 4)).block, (ad.add (i * 4)).off + 3, none⟩ = some v ∧ RdK w v (rd_T55 ts (i : Int)).f3 := by
  obtain ⟨ad, A3, c3, e, h0, h1, h2, h3, l3, g3⟩ := at_T55 h (i : Int) (by omega) (by omega)
  simp only [Int.toNat_natCast] at h0 h1 h2 h3
  exact ⟨ad, _, e, h0, h1, h2, h3, A3, c3, rfl, l3, g3⟩
theorem rd_K {ts : List L} {i : Nat} (h : i < ts.length) : rd_T55 ts (i : Int) = ts[i] := by simp [rd_T55, h]
theorem cntL_take {ts : List L} {i : Nat} (h : i < ts.length) : cntL (ts.take (i + 1)) = cntL (ts.take i) + cntT ts[i] := by
  induction ts generalizing i with
  | nil => simp at h
  | cons t ts ih =>
    cases i with
    | zero => simp [cntL]
    | succ i =>
      simp only [List.take_succ_cons, cntL, List.getElem_cons_succ]
      rw [ih (by simpa using h)]
      omega
theorem cntL_take_le (ts : List L) (i : Nat) : cntL (ts.take i) ≤ cntL ts := by
  induction ts generalizing i with
  | nil => simp [cntL]
  | cons t ts ih =>
    cases i with
    | zero => simp [cntL]
    | succ i =>
      simp only [List.take_succ_cons, cntL]
      have := ih i
      omega

set_option maxHeartbeats 1000000 in
set_option maxRecDepth 100000 in
theorem szT_of (t : L) (h : SzL t.f3) : SzT t := by
  intro v left w hr hf h0 h1
  obtain ⟨op, nm, st, ts⟩ := t
  simp only [FitT] at hf
  have hn : nm.size ≤ 9223372036854775807 := hf.1
  have hl := hr.len
  obtain ⟨A, c, rfl, hc, hC⟩ := hr
  have HC := Lib.hid hC
  have HF := Lib.hid hf.2
  have HH := Lib.hid h
  clear hC hf h
  simp only at HH HC hl hc
  go_enter Try.func43, Try.ntmps43
  by_cases hlt : left - nm.size < 0
  · have hfin : leftT ⟨op, nm, st, ts⟩ left = -1 := by
      have e := cntT_mk op nm st ts
      exact if_pos (by omega)
    have HN := Lib.hid hfin
    clear hfin
    go_wp2_with fail
    go_ret
    exact ⟨by rw [HN.out]; rfl, below_alloc (Below.refl _ _) _⟩
  · have hfin : leftT ⟨op, nm, st, ts⟩ left = (if left - nm.size - ts.length < 0 then -1 else leftL ts (left - nm.size - ts.length)) := by
      have e := cntT_mk op nm st ts
      unfold leftT leftL
      rw [e]
      by_cases h2 : left - (nm.size : Int) - ts.length < 0
      · rw [if_pos (by omega), if_pos h2]
      · rw [if_neg h2]
        by_cases h3 : left - ((nm.size : Int) + ts.length + cntL ts) < 0
        · rw [if_pos h3, if_pos (by omega)]
        · rw [if_neg h3, if_neg (by omega)]
          omega
    generalize hx : (if left - (nm.size : Int) - ts.length < 0 then -1 else leftL ts (left - nm.size - ts.length)) = x at hfin
    have HX := Lib.hid hx
    have HN := Lib.hid hfin
    clear hfin hx
    go_wp2_with fail
    refine name_calls ?_
    intro W1 hW
    have hb : Below w.heap.size w W1 := by rw [hW]; repeat (first | exact Below.refl _ _ | apply below_alloc)
    have HB := Lib.hid hb
    clear hW hb
    refine (HH.out _ (left - nm.size) W1 ⟨A, c, rfl, hc, Kd.C_below HC.out HB.out⟩ HF.out (by omega) (by omega)).mono ?_
    rintro e W2 ⟨rfl, hb⟩
    rw [HX.out]
    have HB2 := Lib.hid (below_to HB.out hb HB.out.size)
    clear hb
    by_cases h0 : x < 0
    · have e1 : x = -1 := by
        have := HX.out
        unfold leftL at this
        split at this
        · omega
        · split at this <;> omega
      have E1 := Lib.hid e1
      clear e1
      go_wp2_with fail
      go_ret
      exact ⟨by rw [HN.out, E1.out]; rfl, HB2.out⟩
    · go_wp2_with fail
      go_ret
      exact ⟨by rw [HN.out]; rfl, HB2.out⟩

set_option maxHeartbeats 1000000 in
set_option maxRecDepth 100000 in
theorem szL_of (ts : List L) (h : ∀ t ∈ ts, SzT t) : SzL ts := by
  intro v left w hr hf h0 h1
  have hl := hr.len
  obtain ⟨A, c, rfl, hc, hC⟩ := hr
  have HC := Lib.hid hC
  have HF := Lib.hid hf
  have HH := Lib.hid h
  clear hC hf h
  go_enter Try.func68, Try.ntmps68
  by_cases hlt : left - ts.length < 0
  · go_wp2_with fail
    go_ret
    exact ⟨by simp, Below.refl _ _⟩
  · go_wp2_with fail
    go_loopw [1, 5] (fun l i wr => ∃ k : Nat, k ≤ ts.length ∧ i = .int .i64 k ∧ l = .int .i64 (left - ts.length - cntL (ts.take k)) ∧ Aside0 (0 ≤ left - ts.length - cntL (ts.take k)) ∧ Aside0 (Below w.heap.size w wr)) (fun _ i _ => ts.length - (intOf i).toNat)
    case atStart => exact ⟨0, Nat.zero_le _, rfl, by simp [cntL], ⟨by simp only [List.take_zero, cntL]; omega⟩, ⟨Below.refl _ _⟩⟩
    case round =>
      obtain ⟨k, hk, rfl, rfl, hpos, hB⟩ := hrel
      by_cases hlt2 : k < ts.length
      · obtain ⟨ad, v3, rfl, e0, e1, e2, e3, hv3⟩ := elem_at (Kd.C_below HC.out hB.out) k hlt2
        rw [rd_K hlt2] at e0 e1 e2 hv3
        have HV := Lib.hid hv3
        have hcnt := cntL_take hlt2
        have hle := cntL_take_le ts (k + 1)
        have hpos' := hpos.out
        have hst : 0 ≤ left - (ts.length : Int) - cntL (ts.take k) ∧ left - (ts.length : Int) - cntL (ts.take k) ≤ 1048576 := by omega
        generalize hs : left - (ts.length : Int) - cntL (ts.take k) = s at *
        have HS := Lib.hid hs
        have HCNT := Lib.hid hcnt
        have HLE := Lib.hid hle
        generalize ht : ts[k] = t at *
        have HT := Lib.hid ht
        obtain ⟨hs0, hs1⟩ := hst
        clear hv3 hs hcnt hle hpos hpos'
        have hmem : t ∈ ts := by rw [← ht]; exact List.getElem_mem _
        have HM := Lib.hid hmem
        clear hmem ht
        go_wp2_with fail
        refine (HH.out t HM.out v3 s _ HV.out (FitL_mem HF.out t HM.out) hs0 hs1).mono ?_
        rintro e W1 ⟨rfl, hb⟩
        have HB2 := Lib.hid (below_to hB.out hb hB.out.size)
        clear hb hB e0 e1 e2 e3
        by_cases hneg : s - cntT t < 0
        · have el : leftT t s = -1 := if_pos hneg
          rw [el]
          have hfin : leftL ts (left - ts.length) = -1 := by
            unfold leftL
            have a1 := HS.out; have a2 := HCNT.out; have a3 := HLE.out
            rw [if_pos (by omega)]
          have HFIN := Lib.hid hfin
          clear hfin el
          go_wp2_with fail
          go_ret
          exact ⟨by rw [HFIN.out]; rfl, HB2.out⟩
        · have el : leftT t s = s - cntT t := if_neg hneg
          rw [el]
          generalize hq : s - (cntT t : Int) = q at *
          have HQ := Lib.hid hq
          clear hq el
          go_wp2_with fail
          go_roundw
          case rel => exact ⟨k + 1, by omega, by go_num, by rw [← HQ.out, ← HS.out, HCNT.out]; congr 1; omega, ⟨by have a1 := HS.out; have a2 := HCNT.out; have a3 := HQ.out; omega⟩, ⟨HB2.out⟩⟩
          case measure => simp [intOf]; omega
      · obtain rfl : k = ts.length := by omega
        rw [List.take_length] at hpos ⊢
        have hfin : leftL ts (left - ts.length) = left - ts.length - cntL ts := by
          unfold leftL
          rw [if_neg (by have := hpos.out; omega)]
        have HFIN := Lib.hid hfin
        clear hfin hlt2 hk
        go_wp2_with fail
        go_ret
        exact ⟨by rw [HFIN.out]; rfl, hB.out⟩
theorem sz_all : ∀ t, SzT t := L.ind (fun op nm st ts ih => szT_of ⟨op, nm, st, ts⟩ (szL_of ts ih))
theorem szL_all (ts : List L) : SzL ts := szL_of ts (fun t _ => sz_all t)
end Go.Proofs.Ytfnkobcmhbdcoaa.Sz
