/- laws.toTerm, laws.toTermS: the tree that they build is the call's own. -/
import Derived.Test.YtfnkobcmhbdcoaaSz
import Derived.Test.YtfnkobcmhbdcoaaBagT
namespace Go.Proofs.Ytfnkobcmhbdcoaa.ToT
open Go.RowKit Go.Proofs.YtfnkobcmhbdcoaaW.PrintWords Go.Proofs.YtfnkobcmhbdcoaaW.PrintLast Go.Proofs.Ytfnkobcmhbdcoaa.Base Go.Proofs.Ytfnkobcmhbdcoaa.XTypes Go.Proofs.Ytfnkobcmhbdcoaa.PureInts Go.Proofs.Ytfnkobcmhbdcoaa.Typed Go.Proofs.Ytfnkobcmhbdcoaa.Trees Go.Proofs.Ytfnkobcmhbdcoaa.Sz Go.Proofs.Ytfnkobcmhbdcoaa.MarkT Go.Proofs.Ytfnkobcmhbdcoaa.NumT Go.Proofs.Ytfnkobcmhbdcoaa.BagT
set_option linter.unusedVariables false
set_option linter.unusedSimpArgs false
set_option linter.unnecessarySimpa false

mutual
def conT : L → T
  | ⟨op, nm, st, ts⟩ => ⟨op, nm, st, conL ts⟩
def conL : List L → List T
  | [] => []
  | t :: ts => conT t :: conL ts
end
theorem conL_len (ts : List L) : (conL ts).length = ts.length := by
  induction ts with
  | nil => simp [conL]
  | cons t ts ih => simp [conL, ih]
theorem conL_append (xs ys : List L) : conL (xs ++ ys) = conL xs ++ conL ys := by
  induction xs with
  | nil => simp [conL]
  | cons t ts ih => simp [conL, ih]
theorem conT_f (t : L) : (conT t).f0 = t.f0 ∧ (conT t).f1 = t.f1 ∧ (conT t).f2 = t.f2 ∧ (conT t).f3 = conL t.f3 := by cases t; simp [conT]
/-- An element and its row put into an owned row. -/
theorem OwL.put {w : World} {v : Value} {xs ys ts : List T} {op st : Int} {nm : ByteArray} {S : List Nat} (h : OwL w v (xs ++ ⟨op, nm, st, ts⟩ :: ys) S) :
    ∃ g cap va, ∃ cur : Array Value, v = .slice (some ⟨g, 0, none⟩) (xs.length + (ys.length + 1)) cap ∧ xs.length + (ys.length + 1) ≤ cap ∧ w.heap[g]? = some (.cells cur 35 (0, 0)) ∧ xs.length * 4 + 3 < cur.size ∧
      cur[xs.length * 4]? = some (.int .i64 op) ∧ cur[xs.length * 4 + 1]? = some (.string nm) ∧ cur[xs.length * 4 + 2]? = some (.int .i64 st) ∧ cur[xs.length * 4 + 3]? = some va ∧ g ∈ S ∧
      ∀ (w' : World) (op' st' : Int) (nm' : ByteArray) (ts' : List T) (va' : Value) (S' : List Nat), w'.heap[g]? = some (.cells ((((cur.setIfInBounds (xs.length * 4) (.int .i64 op')).setIfInBounds (xs.length * 4 + 1) (.string nm')).setIfInBounds (xs.length * 4 + 2) (.int .i64 st')).setIfInBounds (xs.length * 4 + 3) va') 35 (0, 0)) →
        OwL w' va' ts' S' → (∀ k ∈ S', k ∉ S) → (∀ k ∈ S, k ≠ g → w'.heap[k]? = w.heap[k]?) → ∃ S'', OwL w' v (xs ++ ⟨op', nm', st', ts'⟩ :: ys) S'' ∧ ∀ k ∈ S'', k ∈ S ∨ k ∈ S' := by
  rcases h with ⟨_, hn, _⟩ | ⟨g, cap, cur, S0, hv, hn, hc, hh, hs, hr, rfl, hg⟩
  · simp at hn
  · obtain ⟨c1, c, c2, S1, St, S2, ecs, rfl, h1, h2, h3, hd1, hd2⟩ := OwC_mid.1 hr
    obtain ⟨va, rfl, hva⟩ := OwT_iff.1 h2
    have l1 := h1.len
    have l2 := h3.len
    have hlen : (xs ++ (⟨op, nm, st, ts⟩ : T) :: ys).length = xs.length + (ys.length + 1) := by simp
    rw [hlen] at hv hn ecs
    have hsz : cur.toList.length = cap * 4 := by simpa using hs
    have hget : ∀ i u, i < 4 → [Value.int .i64 op, .string nm, .int .i64 st, va][i]? = some u → cur[xs.length * 4 + i]? = some u := by
      intro i u hi hu
      have e : (cur.toList.take ((xs.length + (ys.length + 1)) * 4))[xs.length * 4 + i]? = some u := by
        rw [ecs, List.getElem?_append_right (by omega), l1, Nat.add_sub_cancel_left, List.getElem?_append_left (by simpa using hi)]
        exact hu
      rw [List.getElem?_take] at e
      split at e
      · simpa using e
      · cases e
    refine ⟨g, cap, va, cur, hv, hn, hh, by omega, hget 0 _ (by omega) rfl, hget 1 _ (by omega) rfl, hget 2 _ (by omega) rfl, hget 3 _ (by omega) rfl, List.mem_cons_self, ?_⟩
    intro w' op' st' nm' ts' va' S' hh' hva' hS' hrest
    have m1 : ∀ k ∈ S1, k ∈ g :: (S1 ++ (St ++ S2)) := fun k hk => List.mem_cons_of_mem _ (List.mem_append_left _ hk)
    have m2 : ∀ k ∈ S2, k ∈ g :: (S1 ++ (St ++ S2)) := fun k hk => List.mem_cons_of_mem _ (List.mem_append_right _ (List.mem_append_right _ hk))
    refine ⟨g :: (S1 ++ (S' ++ S2)), .inr ⟨g, cap, _, S1 ++ (S' ++ S2), by rw [hv]; simp, by simpa using hn, hc, hh', by simpa using hs, ?_, rfl, ?_⟩, ?_⟩
    · refine OwC_mid.2 ⟨c1, [.int .i64 op', .string nm', .int .i64 st', va'], c2, S1, S', S2, ?_, rfl, OwC.frame h1 (fun k hk => hrest k (m1 k hk) (fun e => hg (by rw [← e]; exact List.mem_append_left _ hk))), OwT_iff.2 ⟨va', rfl, hva'⟩, OwC.frame h3 (fun k hk => hrest k (m2 k hk) (fun e => hg (by rw [← e]; exact List.mem_append_right _ (List.mem_append_right _ hk)))), fun k hk hk' => ?_, fun k hk hk' => hS' k hk (m2 k hk')⟩
      · have hlen' : (xs ++ (⟨op', nm', st', ts'⟩ : T) :: ys).length = xs.length + (ys.length + 1) := by simp
        rw [hlen']
        simp only [Array.toList_setIfInBounds, List.take_set, ecs]
        rw [List.set_append_right _ _ (by omega), List.set_append_right _ _ (by omega), List.set_append_right _ _ (by omega), List.set_append_right _ _ (by omega)]
        congr 1
        simp [l1]
      · rcases List.mem_append.1 hk' with hk' | hk'
        · exact hS' k hk' (m1 k hk)
        · exact hd1 k hk (List.mem_append_right _ hk')
    · intro hk
      rcases List.mem_append.1 hk with hk | hk
      · exact hg (List.mem_append_left _ hk)
      · rcases List.mem_append.1 hk with hk | hk
        · exact hS' g hk List.mem_cons_self
        · exact hg (List.mem_append_right _ (List.mem_append_right _ hk))
    · intro k hk
      rcases List.mem_cons.1 hk with rfl | hk
      · exact .inl List.mem_cons_self
      · rcases List.mem_append.1 hk with hk | hk
        · exact .inl (m1 k hk)
        · rcases List.mem_append.1 hk with hk | hk
          · exact .inr hk
          · exact .inl (m2 k hk)
def ToL (ts : List L) : Prop := ∀ (v : Value) (w : World), RdK w v ts → cntL ts + ts.length ≤ 1048576 →
  Calls Try.prog 69 #[v] w fun e w' => ∃ v' S, e = .returned v' ∧ OwL w' v' (conL ts) S ∧ (∀ k ∈ S, w.heap.size ≤ k) ∧ Below w.heap.size w w'
def ToTm (t : L) : Prop := ∀ (v : Value) (w : World), RdK w v t.f3 → cntT t ≤ 1048576 →
  Calls Try.prog 45 #[.agg #[.int .i64 t.f0, .string t.f1, .int .i64 t.f2, v]] w fun e w' => ∃ v' S, e = .returned (.agg #[.int .i64 t.f0, .string t.f1, .int .i64 t.f2, v']) ∧ OwL w' v' (conL t.f3) S ∧ (∀ k ∈ S, w.heap.size ≤ k) ∧ Below w.heap.size w w'
set_option maxHeartbeats 1000000 in
set_option maxRecDepth 100000 in
theorem toL_of (ts : List L) (h : ∀ t ∈ ts, ToTm t) : ToL ts := by
  intro v w hr hn
  have hl := hr.len
  obtain ⟨A, c, rfl, hc, hC⟩ := hr
  have HC := Lib.hid hC
  have HH := Lib.hid h
  clear hC h
  go_enter Try.func69, Try.ntmps69
  go_wp2_with (first | ((with_reducible refine gate_dst (N := 7) rfl ?_); refine Kd.R_make (Kd.raw 4) _ 35 rfl (N := 7) rfl 33 _ _ rfl (ts.length : Int) rfl rfl Try.underlying33 (.agg #[(.int .i64 0), (.string ⟨#[]⟩), (.int .i64 0), (.slice none 0 0)]) 56 info35 rfl (by decide) (by omega) [.int .i64 0, .string ⟨#[]⟩, .int .i64 0, .slice none 0 0] (ok := fun _ => True) (okp := fun _ => True) ⟨rfl, rfl, leaf_cells 0⟩ (fun _ hk => hk) trivial (by omega) (by rw [Int.toNat_natCast]; omega) (Below.refl w.heap.size w) (Nat.le_refl _) ?_; intro v1 w1 ho hb hg_ hnew_; clear hg_ hnew_; rw [Int.toNat_natCast] at ho; have HO := Lib.hid ho; have HB := Lib.hid hb; clear ho hb))
  have hof : OwF w.heap.size w1 v1 (List.replicate ts.length 0) := by
    refine OwF.of (ok := fun _ => True) ?_
    rw [List.map_replicate]
    exact HO.out
  obtain ⟨S0, ho0, hs0⟩ := hof.owl
  rw [List.map_replicate] at ho0
  obtain ⟨A1, c1, e1, _, _⟩ := ho0.rd
  rw [List.length_replicate] at e1
  subst e1
  have HO0 := Lib.hid (And.intro ho0 hs0)
  clear hof ho0 hs0 HO
  go_wp2_with fail
  go_loopw [4] (fun i wr => ∃ k : Nat, k ≤ ts.length ∧ i = .int .i64 k ∧ ∃ S, Aside0 (OwL wr (.slice A1 ts.length c1) (conL (ts.take k) ++ List.replicate (ts.length - k) (leaf 0)) S ∧ ∀ q ∈ S, w.heap.size ≤ q) ∧ Aside0 (Below w.heap.size w wr)) (fun i _ => ts.length - (intOf i).toNat)
  case atStart => exact ⟨0, Nat.zero_le _, rfl, S0, ⟨by simpa [conL] using HO0.out.1, HO0.out.2⟩, ⟨HB.out⟩⟩
  case round =>
    obtain ⟨k, hk, rfl, S, hO, hB⟩ := hrel
    by_cases hlt : k < ts.length
    · obtain ⟨ad, v3, rfl, e0, e1, e2, e3, hv3⟩ := Sz.elem_at (Kd.C_below HC.out hB.out) k hlt
      rw [rd_K hlt] at e0 e1 e2 hv3
      have hmem : ts[k] ∈ ts := List.getElem_mem _
      have hcnt := cntL_take hlt
      have hcle := cntL_take_le ts (k + 1)
      have ht1 : ts.take (k + 1) = ts.take k ++ [ts[k]] := List.take_succ_eq_append_getElem hlt
      have hct : cntT ts[k] ≤ 1048576 := by omega
      have hrep : List.replicate (ts.length - k) (leaf 0) = leaf 0 :: List.replicate (ts.length - (k + 1)) (leaf 0) := by
        have : ts.length - k = (ts.length - (k + 1)) + 1 := by omega
        rw [this, List.replicate_succ]
      generalize ts[k] = t at *
      obtain ⟨A3, c3, rfl, _, _⟩ := id hv3
      generalize hl3 : t.f3.length = l3 at *
      have HV := Lib.hid hv3
      have HM := Lib.hid hmem
      have HCT := Lib.hid hct
      have HT := Lib.hid (And.intro ht1 hrep)
      have hO1 := hO.out.1
      rw [hrep] at hO1
      have HO1 := Lib.hid hO1
      clear hv3 hmem hct ht1 hrep hO1 hcnt hcle
      go_wp2_with fail
      refine (HH.out t HM.out _ wr HV.out HCT.out).mono ?_
      rintro e W1 ⟨va, St, rfl, ho, hs, hb⟩
      obtain ⟨A5, c5, rfl, _, _⟩ := ho.rd
      have HO2 : OwL W1 (.slice A1 ts.length c1) (conL (ts.take k) ++ leaf 0 :: List.replicate (ts.length - (k + 1)) (leaf 0)) S := HO1.out.frame (fun q hq => hb.block q (HO1.out.lt q hq))
      obtain ⟨g, cap, va0, cur, hv, hcap, hg, hsz, f0, f1, f2, f3, hgS, hback⟩ := OwL.put HO2
      have hm : (conL (ts.take k)).length = k := by rw [conL_len, List.length_take]; omega
      have hdl : k + ((List.replicate (ts.length - (k + 1)) (leaf 0)).length + 1) = ts.length := by rw [List.length_replicate]; omega
      rw [hm] at f0 f1 f2 f3 hv hback hsz hcap
      rw [hdl] at hv hcap
      injection hv with eA _ ec
      subst eA
      subst ec
      obtain ⟨d0, p0, d1, p1, d2, p2, d3, p3⟩ := cells4 hg hsz f0 f1 f2 f3
      have HBACK := Lib.hid hback
      have HST := Lib.hid (And.intro ho hs)
      have HBW := Lib.hid hb
      have HG := Lib.hid hg
      generalize hl5 : (conL t.f3).length = l5 at *
      have HOW := Lib.hid HO2
      clear hback ho hs hb hg HO2 f0 f1 f2 f3 e0 e1 e2 e3
      go_upto_region 4 with (fail)
      refine name_wp ?_
      intro W2 hW
      have g2 := set_at (i := k * 4 + 3) (set_at (i := k * 4 + 2) (set_at (i := k * 4 + 1) (set_at (i := k * 4) HG.out (.int .i64 t.f0)) (.string t.f1)) (.int .i64 t.f2)) (.slice A5 l5 c5)
      rw [← hW] at g2
      have ob : Stirs [g] W1 W2 := by
        rw [hW]
        exact (((Stirs.set _ _ List.mem_cons_self).trans (Stirs.set _ _ List.mem_cons_self)).trans (Stirs.set _ _ List.mem_cons_self)).trans (Stirs.set _ _ List.mem_cons_self)
      clear hW d0 p0 d1 p1 d2 p2 d3 p3
      have hgw : g < wr.heap.size := HO1.out.lt g hgS
      have hgn : g ∉ St := fun h => by have := HST.out.2 g h; omega
      have hva : OwL W2 (.slice A5 l5 c5) (conL t.f3) St := HST.out.1.frame (fun q hq => ob.block q (HST.out.1.lt q hq) (fun e => hgn (by rw [List.mem_singleton.1 e] at hq; exact hq)))
      obtain ⟨S2, hS2, hsub⟩ := HBACK.out W2 t.f0 t.f2 t.f1 (conL t.f3) (.slice A5 l5 c5) St g2 hva (fun q hq hs => by have := HST.out.2 q hq; have := HO1.out.lt q hs; omega) (fun q hq hne => ob.block q (HOW.out.lt q hq) (fun e => hne (List.mem_singleton.1 e)))
      have hbel : Below w.heap.size w W2 := (hB.out.trans (HBW.out.mono hB.out.size)).trans (ob.below (n := w.heap.size) (Nat.le_trans hB.out.size HBW.out.size) (fun q hq => by rw [List.mem_singleton.1 hq]; exact hO.out.2 g hgS))
      have hall : ∀ q ∈ S2, w.heap.size ≤ q := fun q hq => by
        rcases hsub q hq with hq | hq
        · exact hO.out.2 q hq
        · exact Nat.le_trans hB.out.size (HST.out.2 q hq)
      have hcon : conL (ts.take (k + 1)) = conL (ts.take k) ++ [⟨t.f0, t.f1, t.f2, conL t.f3⟩] := by
        rw [HT.out.1, conL_append]
        cases t
        simp [conL, conT]
      have HFIN := Lib.hid (And.intro hS2 (And.intro hall (And.intro hbel hcon)))
      clear hS2 hall hbel hcon hva g2 ob hsub
      go_wp2_with fail
      go_roundw
      case rel => exact ⟨k + 1, by omega, by go_num, S2, ⟨by rw [HFIN.out.2.2.2, List.append_assoc]; exact HFIN.out.1, HFIN.out.2.1⟩, ⟨HFIN.out.2.2.1⟩⟩
      case measure => simp [intOf]; omega
    · obtain rfl : k = ts.length := by omega
      have ho := hO.out
      rw [List.take_length, Nat.sub_self, List.replicate_zero, List.append_nil] at ho
      have HE := Lib.hid ho
      clear ho
      go_wp2_with fail
      go_ret
      exact ⟨_, S, rfl, HE.out.1, HE.out.2, hB.out⟩
set_option maxHeartbeats 1000000 in
set_option maxRecDepth 100000 in
theorem toT_of (t : L) (h : ToL t.f3) : ToTm t := by
  intro v w hr hn
  obtain ⟨op, nm, st, ts⟩ := t
  have hle : cntL ts + ts.length ≤ 1048576 := by simp only [cntT] at hn; omega
  have HLE := Lib.hid hle
  clear hle
  obtain ⟨A, c, rfl, _, _⟩ := id hr
  simp only at hr ⊢
  generalize hl : ts.length = l at hr ⊢
  have HR := Lib.hid hr
  have HH := Lib.hid h
  simp only at HH
  clear hr h hl
  go_enter Try.func45, Try.ntmps45
  go_wp2_with fail
  refine name_calls ?_
  intro W1 hW
  have hb : Below w.heap.size w W1 := by rw [hW]; repeat (first | exact Below.refl _ _ | apply below_alloc)
  have gr : W1.heap[w.heap.size + 1]? = some (.cells #[.int .i64 0, .string ⟨#[]⟩, .int .i64 0, .slice none 0 0] 35 (0, 0)) := by
    rw [hW]
    refine (Go.Deep.blk_alloc_lt _ _ _ (by simp)).trans ?_
    have e : (w.alloc (.cells #[.int .i64 op, .string nm, .int .i64 st, .slice A l c] 55)).heap.size = w.heap.size + 1 := by simp
    rw [← e]
    exact blk_new _ _
  have go : W1.heap[w.heap.size + 1 + 1]? = some (.cells #[.int .i64 op, .string nm, .int .i64 st, .slice none 0 0] 35 (0, 0)) := by
    rw [hW]
    have e : ((w.alloc (.cells #[.int .i64 op, .string nm, .int .i64 st, .slice A l c] 55)).alloc (.cells #[.int .i64 0, .string ⟨#[]⟩, .int .i64 0, .slice none 0 0] 35)).heap.size = w.heap.size + 1 + 1 := by simp
    rw [← e]
    exact blk_new _ _
  have hs1 : W1.heap.size = w.heap.size + 3 := by rw [hW]; simp
  have HB := Lib.hid hb
  have HSZ := Lib.hid hs1
  clear hW hb hs1
  refine (HH.out (.slice A l c) W1 (HR.out.below HB.out) HLE.out).mono ?_
  rintro e W2 ⟨v', S, rfl, ho, hs, hb2⟩
  obtain ⟨A2, c2, rfl, _, _⟩ := ho.rd
  have hrd := ho.rd
  generalize hl2 : (conL ts).length = l2 at *
  have HO := Lib.hid (And.intro ho hs)
  have g1 := blk_below gr hb2
  have g2 := blk_below go hb2
  have HB2 := Lib.hid (below_to HB.out hb2 HB.out.size)
  have HS2 := Lib.hid hb2.size
  clear ho hs gr go hb2 hrd
  obtain ⟨c0, p0, c1, p1, c2', p2, c3, p3⟩ := cells4 (i := 0) g1 (by simp) rfl rfl rfl rfl
  obtain ⟨d0, q0, d1, q1, d2, q2, d3, q3⟩ := cells4 (i := 0) g2 (by simp) rfl rfl rfl rfl
  go_upto_region 6 with (fail)
  refine name_wp ?_
  intro W3 hW
  have g3 : W3.heap[w.heap.size + 1 + 1]? = some (.cells #[.int .i64 op, .string nm, .int .i64 st, .slice A2 l2 c2] 35 (0, 0)) := by
    rw [hW]
    exact set_at g2 _
  have ob : Stirs [w.heap.size + 1 + 1] W2 W3 := by rw [hW]; exact Stirs.set _ _ List.mem_cons_self
  have g1' : W3.heap[w.heap.size + 1]? = some (.cells #[.int .i64 0, .string ⟨#[]⟩, .int .i64 0, .slice none 0 0] 35 (0, 0)) := (ob.block _ (heap_lt g1) (by simp)).trans g1
  clear hW c0 p0 c1 p1 c2' p2 c3 p3 d0 q0 d1 q1 d2 q2 d3 q3 g1 g2
  obtain ⟨c0, p0, c1, p1, c2', p2, c3, p3⟩ := cells4 (i := 0) g1' (by simp) rfl rfl rfl rfl
  obtain ⟨d0, q0, d1, q1, d2, q2, d3, q3⟩ := cells4 (i := 0) g3 (by simp) rfl rfl rfl rfl
  have OB := Lib.hid ob
  have G1 := Lib.hid g1'
  clear ob g1' g3
  go_wp2_with fail
  refine name_post ?_
  intro W4 hW
  have g4 : W4.heap[w.heap.size + 1]? = some (.cells #[.int .i64 op, .string nm, .int .i64 st, .slice A2 l2 c2] 35 (0, 0)) := by
    rw [hW]
    exact set_at (set_at (set_at (set_at G1.out _) _) _) _
  have ob2 : Stirs [w.heap.size + 1] W3 W4 := by
    rw [hW]
    exact (((Stirs.set _ _ List.mem_cons_self).trans (Stirs.set _ _ List.mem_cons_self)).trans (Stirs.set _ _ List.mem_cons_self)).trans (Stirs.set _ _ List.mem_cons_self)
  clear hW
  refine bodyPost_ret (results_cell_row rfl _ _ (w.heap.size + 1) 35 #[.int .i64 op, .string nm, .int .i64 st, .slice A2 l2 c2] (0, 0) _ rfl g4 Try.underlying35 rfl (by kernel_rfl)) rfl ?_
  have hz := HSZ.out
  have hz2 := HS2.out
  have hz3 := OB.out.size
  refine ⟨_, S, rfl, ?_, fun k hk => by have := HO.out.2 k hk; omega, ?_⟩
  · have h3 := HO.out.1.frame (w' := W3) (fun k hk => OB.out.block k (HO.out.1.lt k hk) (fun e => by have := HO.out.2 k hk; simp at e; omega))
    exact h3.frame (fun k hk => ob2.block k (h3.lt k hk) (fun e => by have := HO.out.2 k hk; simp at e; omega))
  · exact (HB2.out.trans (OB.out.below (n := w.heap.size) (by omega) (fun k hk => by simp at hk; omega))).trans (ob2.below (n := w.heap.size) (by omega) (fun k hk => by simp at hk; omega))
theorem to_all : ∀ t, ToTm t := L.ind (fun op nm st ts ih => toT_of ⟨op, nm, st, ts⟩ (toL_of ts ih))
end Go.Proofs.Ytfnkobcmhbdcoaa.ToT
