/- laws.markTerm, laws.markTermS over a tree of one's own. -/
import Derived.Test.YtfnkobcmhbdcoaaTrees
import Derived.Test.YtfnkobcmhbdcoaaXTm1
namespace Go.Proofs.Ytfnkobcmhbdcoaa.MarkT
open Go.RowKit Go.Proofs.YtfnkobcmhbdcoaaW.PrintWords Go.Proofs.YtfnkobcmhbdcoaaW.PrintLast Go.Proofs.Ytfnkobcmhbdcoaa.Base Go.Proofs.Ytfnkobcmhbdcoaa.XTypes Go.Proofs.Ytfnkobcmhbdcoaa.PureInts Go.Proofs.Ytfnkobcmhbdcoaa.Typed Go.Proofs.Ytfnkobcmhbdcoaa.Trees Go.Proofs.Ytfnkobcmhbdcoaa.XTm
set_option linter.unusedVariables false
set_option linter.unusedSimpArgs false
set_option linter.unnecessarySimpa false

/-! ### the marks -/
theorem strOfNums_one (n : Int) : (strOfNums [n]).size = 1 := rfl
theorem text_l0 : ∀ (n : Nat) (x : Int) (s : ByteArray), 0 ≤ x → x < 10 ^ n → x < 9223372036854775808 → s.size + n ≤ 1000 → ∃ r, laws_markText.l0 (n + 1) x s = some r := by
  intro n
  induction n with
  | zero =>
    intro x s h0 h1 h2 h3
    simp only [laws_markText.l0]
    rw [if_neg (by omega), if_pos (by omega)]
    exact ⟨_, rfl⟩
  | succ n ih =>
    intro x s h0 h1 h2 h3
    rw [laws_markText.l0]
    by_cases hx : x > 0
    · rw [if_pos hx]
      simp only [Option.bind_some]
      rw [if_pos (by rw [strOfNums_one]; omega)]
      have e : Int.tdiv x 10 = x / 10 := by rw [Int.tdiv_eq_ediv_of_nonneg h0]
      rw [e, wrap_id (by omega) (by omega)]
      refine ih _ _ (by omega) ?_ (by omega) (by rw [ByteArray.size_append, strOfNums_one]; omega)
      rw [Int.pow_succ] at h1
      omega
    · rw [if_neg hx, if_pos (by omega)]
      exact ⟨_, rfl⟩
theorem text_any (x : Int) (h : x < 9223372036854775808) : ∃ r, laws_markText.f 30 x = some r := by
  unfold laws_markText.f
  by_cases hx : x ≤ 0
  · rw [if_pos hx]; exact ⟨_, rfl⟩
  · rw [if_neg hx]
    exact text_l0 29 x _ (by omega) (by omega) h (by show (0 : Nat) + 29 ≤ 1000; omega)
/-- The text of a mark. -/
def mt (k : Nat) : ByteArray := (laws_markText.f 30 (k : Int)).getD ⟨#[]⟩
theorem mt_is {k : Nat} (h : k < 9223372036854775808) : laws_markText.f 30 (k : Int) = some (mt k) := by
  obtain ⟨r, hr⟩ := text_any (k : Int) (by omega)
  unfold mt
  rw [hr]
  rfl
mutual
/-- How many terms a term is made of. -/
def nod : T → Nat
  | ⟨_, _, _, ts⟩ => 1 + nodL ts
def nodL : List T → Nat
  | [] => 0
  | t :: ts => nod t + nodL ts
end
mutual
def mkT : T → Nat → T
  | ⟨_, _, _, ts⟩, k => ⟨k, mt (k + 1), k + 2, mkL ts (k + 3)⟩
def mkL : List T → Nat → List T
  | [], _ => []
  | t :: ts, k => mkT t k :: mkL ts (k + 3 * nod t)
end
theorem mkL_len (ts : List T) (k : Nat) : (mkL ts k).length = ts.length := by
  induction ts generalizing k with
  | nil => simp [mkL]
  | cons t ts ih => simp [mkL, ih]
theorem nodL_append (xs ys : List T) : nodL (xs ++ ys) = nodL xs + nodL ys := by
  induction xs with
  | nil => simp [nodL]
  | cons t ts ih => simp only [List.cons_append, nodL, ih]; omega
theorem mkL_append (xs ys : List T) (k : Nat) : mkL (xs ++ ys) k = mkL xs k ++ mkL ys (k + 3 * nodL xs) := by
  induction xs generalizing k with
  | nil => simp [mkL, nodL]
  | cons t ts ih =>
    simp only [List.cons_append, mkL, nodL, ih]
    congr 3
    omega

/-! ### one element of an owned row -/
theorem OwC_mid {w : World} {xs ys : List T} {t : T} {cs : List Value} {S : List Nat} : OwC w (xs ++ t :: ys) cs S ↔ ∃ c1 c c2 S1 St S2, cs = c1 ++ (c ++ c2) ∧ S = S1 ++ (St ++ S2) ∧ OwC w xs c1 S1 ∧ OwT w t c St ∧ OwC w ys c2 S2 ∧ (∀ k ∈ S1, k ∉ St ++ S2) ∧ ∀ k ∈ St, k ∉ S2 := by
  induction xs generalizing cs S with
  | nil =>
    rw [List.nil_append, OwC_cons]
    constructor
    · rintro ⟨c1, c2, S1, S2, rfl, rfl, h1, h2, hd⟩
      exact ⟨[], c1, c2, [], S1, S2, rfl, rfl, OwC_nil.2 ⟨rfl, rfl⟩, h1, h2, (fun k hk => by cases hk), hd⟩
    · rintro ⟨c1, c, c2, S1, St, S2, rfl, rfl, h1, h2, h3, hd1, hd2⟩
      obtain ⟨rfl, rfl⟩ := OwC_nil.1 h1
      exact ⟨c, c2, St, S2, rfl, rfl, h2, h3, hd2⟩
  | cons a xs ih =>
    rw [List.cons_append, OwC_cons]
    constructor
    · rintro ⟨d1, d2, R1, R2, rfl, rfl, h1, h2, hd⟩
      obtain ⟨c1, c, c2, S1, St, S2, rfl, rfl, g1, g2, g3, hd1, hd2⟩ := ih.1 h2
      refine ⟨d1 ++ c1, c, c2, R1 ++ S1, St, S2, by simp, by simp, OwC_cons.2 ⟨d1, c1, R1, S1, rfl, rfl, h1, g1, fun k hk hk' => hd k hk (List.mem_append_left _ hk')⟩, g2, g3, fun k hk => ?_, hd2⟩
      rcases List.mem_append.1 hk with hk | hk
      · exact fun hk' => hd k hk (List.mem_append_right _ hk')
      · exact hd1 k hk
    · rintro ⟨c1, c, c2, S1, St, S2, rfl, rfl, h1, h2, h3, hd1, hd2⟩
      obtain ⟨d1, d2, R1, R2, rfl, rfl, g1, g2, gd⟩ := OwC_cons.1 h1
      refine ⟨d1, d2 ++ (c ++ c2), R1, R2 ++ (St ++ S2), by simp, by simp, g1, ih.2 ⟨d2, c, c2, R2, St, S2, rfl, rfl, g2, h2, h3, fun k hk => hd1 k (List.mem_append_right _ hk), hd2⟩, fun k hk hk' => ?_⟩
      rcases List.mem_append.1 hk' with hk' | hk'
      · exact gd k hk hk'
      · exact hd1 k (List.mem_append_left _ hk) hk'
/-- An element, its cells, its own row; and how the whole is owned again when they have been changed. -/
theorem OwL.at {w : World} {v : Value} {xs ys ts : List T} {op st : Int} {nm : ByteArray} {S : List Nat} (h : OwL w v (xs ++ ⟨op, nm, st, ts⟩ :: ys) S) :
    ∃ g cap va St, ∃ cur : Array Value, v = .slice (some ⟨g, 0, none⟩) (xs.length + (ys.length + 1)) cap ∧ xs.length + (ys.length + 1) ≤ cap ∧ w.heap[g]? = some (.cells cur 35 (0, 0)) ∧ xs.length * 4 + 3 < cur.size ∧
      cur[xs.length * 4]? = some (.int .i64 op) ∧ cur[xs.length * 4 + 1]? = some (.string nm) ∧ cur[xs.length * 4 + 2]? = some (.int .i64 st) ∧ cur[xs.length * 4 + 3]? = some va ∧
      OwL w va ts St ∧ g ∈ S ∧ g ∉ St ∧ (∀ k ∈ St, k ∈ S) ∧
      ∀ (w' : World) (op' st' : Int) (nm' : ByteArray) (ts' : List T), ts'.length = ts.length → w'.heap[g]? = some (.cells (((cur.setIfInBounds (xs.length * 4) (.int .i64 op')).setIfInBounds (xs.length * 4 + 1) (.string nm')).setIfInBounds (xs.length * 4 + 2) (.int .i64 st')) 35 (0, 0)) →
        OwL w' va ts' St → (∀ k ∈ S, k ≠ g → k ∉ St → w'.heap[k]? = w.heap[k]?) → OwL w' v (xs ++ ⟨op', nm', st', ts'⟩ :: ys) S := by
  rcases h with ⟨_, hn, _⟩ | ⟨g, cap, cur, S', hv, hn, hc, hh, hs, hr, rfl, hg⟩
  · simp at hn
  · obtain ⟨c1, c, c2, S1, St, S2, ecs, rfl, h1, h2, h3, hd1, hd2⟩ := OwC_mid.1 hr
    obtain ⟨va, rfl, hva⟩ := OwT_iff.1 h2
    have l1 := h1.len
    have l2 := h3.len
    have hlen : (xs ++ (⟨op, nm, st, ts⟩ : T) :: ys).length = xs.length + (ys.length + 1) := by simp
    rw [hlen] at hv hn ecs
    have hsz : cur.toList.length = cap * 4 := by simpa using hs
    have hget : ∀ i u, i < 4 → [Value.int .i64 op, .string nm, .int .i64 st, va][i]? = some u → cur[xs.length * 4 + i]? = some u := by
      intro i u hi hu
      have e : (cur.toList.take ((xs.length + (ys.length + 1)) * 4))[xs.length * 4 + i]? = some u := by
        rw [ecs, List.getElem?_append_right (by omega), l1, Nat.add_sub_cancel_left, List.getElem?_append_left (by simpa using hi)]
        exact hu
      rw [List.getElem?_take] at e
      split at e
      · simpa using e
      · cases e
    refine ⟨g, cap, va, St, cur, hv, hn, hh, by omega, hget 0 _ (by omega) rfl, hget 1 _ (by omega) rfl, hget 2 _ (by omega) rfl, hget 3 _ (by omega) rfl, hva, List.mem_cons_self, fun hk => hg (List.mem_append_right _ (List.mem_append_left _ hk)), fun k hk => List.mem_cons_of_mem _ (List.mem_append_right _ (List.mem_append_left _ hk)), ?_⟩
    intro w' op' st' nm' ts' hl hh' hva' hrest
    refine .inr ⟨g, cap, _, S1 ++ (St ++ S2), by rw [hv]; simp, by simpa using hn, hc, hh', by simpa using hs, ?_, rfl, hg⟩
    refine OwC_mid.2 ⟨c1, [.int .i64 op', .string nm', .int .i64 st', va], c2, S1, St, S2, ?_, rfl, OwC.frame h1 (fun k hk => hrest k (List.mem_cons_of_mem _ (List.mem_append_left _ hk)) (fun e => hg (by rw [← e]; exact List.mem_append_left _ hk)) (fun hk' => hd1 k hk (List.mem_append_left _ hk'))), OwT_iff.2 ⟨va, rfl, hva'⟩, OwC.frame h3 (fun k hk => hrest k (List.mem_cons_of_mem _ (List.mem_append_right _ (List.mem_append_right _ hk))) (fun e => hg (by rw [← e]; exact List.mem_append_right _ (List.mem_append_right _ hk))) (fun hk' => hd2 k hk' hk)), hd1, hd2⟩
    have hlen' : (xs ++ (⟨op', nm', st', ts'⟩ : T) :: ys).length = xs.length + (ys.length + 1) := by simp
    rw [hlen']
    simp only [Array.toList_setIfInBounds, List.take_set, ecs]
    rw [List.set_append_right _ _ (by omega), List.set_append_right _ _ (by omega), List.set_append_right _ _ (by omega)]
    congr 1
    simp [l1]

/-! ### the walk -/
theorem cells4 {w : World} {g i e : Nat} {cur : Array Value} (hg : w.heap[g]? = some (.cells cur e (0, 0))) (hs : i + 3 < cur.size) {a b c d : Value}
    (h0 : cur[i]? = some a) (h1 : cur[i + 1]? = some b) (h2 : cur[i + 2]? = some c) (h3 : cur[i + 3]? = some d) :
    w.cell? ⟨g, i, none⟩ = some a ∧ w.frozen? ⟨g, i, none⟩ = false ∧ w.cell? ⟨g, i + 1, none⟩ = some b ∧ w.frozen? ⟨g, i + 1, none⟩ = false ∧ w.cell? ⟨g, i + 2, none⟩ = some c ∧ w.frozen? ⟨g, i + 2, none⟩ = false ∧ w.cell? ⟨g, i + 3, none⟩ = some d ∧ w.frozen? ⟨g, i + 3, none⟩ = false := by
  simp [World.cell?, World.frozen?, hg, h0, h1, h2, h3]
/-- Of what was there, nothing but S was touched. -/
structure Stirs (S : List Nat) (w w' : World) : Prop where
  os : w'.os = w.os
  tape : w'.tape = w.tape
  output : w'.output = w.output
  size : w.heap.size ≤ w'.heap.size
  block : ∀ k, k < w.heap.size → k ∉ S → w'.heap[k]? = w.heap[k]?
theorem Stirs.refl (S : List Nat) (w : World) : Stirs S w w := ⟨rfl, rfl, rfl, Nat.le_refl _, fun _ _ _ => rfl⟩
theorem Stirs.trans {S : List Nat} {a b c : World} (h : Stirs S a b) (k : Stirs S b c) : Stirs S a c :=
  ⟨k.os.trans h.os, k.tape.trans h.tape, k.output.trans h.output, Nat.le_trans h.size k.size, fun i hi hs => (k.block i (Nat.lt_of_lt_of_le hi h.size) hs).trans (h.block i hi hs)⟩
theorem Stirs.sub {S S' : List Nat} {a b : World} (h : Stirs S a b) (hs : ∀ k ∈ S, k ∈ S') : Stirs S' a b := ⟨h.os, h.tape, h.output, h.size, fun k hk hn => h.block k hk (fun e => hn (hs k e))⟩
theorem Stirs.of_below {S : List Nat} {a b : World} (h : Below a.heap.size a b) : Stirs S a b := ⟨h.os, h.tape, h.output, h.size, fun k hk _ => h.block k hk⟩
theorem Stirs.below {S : List Nat} {n : Nat} {a b : World} (h : Stirs S a b) (hn : n ≤ a.heap.size) (hs : ∀ k ∈ S, n ≤ k) : Below n a b := ⟨h.os, h.tape, h.output, h.size, fun k hk => h.block k (by omega) (fun e => by have := hs k e; omega)⟩
theorem Stirs.set {S : List Nat} {g i : Nat} (w : World) (v : Value) (hg : g ∈ S) : Stirs S w (w.setCell ⟨g, i, none⟩ v) :=
  ⟨rfl, rfl, rfl, by simp [World.setCell], fun k _ hs => Go.Deep.blk_setCell_other w ⟨g, i, none⟩ v k (fun e => hs (by rw [e]; exact hg))⟩
theorem set_at {w : World} {g i e : Nat} {cur : Array Value} (hg : w.heap[g]? = some (.cells cur e (0, 0))) (v : Value) : (w.setCell ⟨g, i, none⟩ v).heap[g]? = some (.cells (cur.setIfInBounds i v) e (0, 0)) := by
  simp [World.setCell, Array.getElem?_modify, hg]
/-- What a marking leaves: the same blocks own the marked tree, and nothing else that was there has moved. -/
def MkL (ts : List T) : Prop := ∀ (v : Value) (S : List Nat) (k : Nat) (w : World), OwL w v ts S → k + 3 * nodL ts < 9223372036854775800 →
  Calls Try.prog 61 #[v, .int .i64 k] w fun e w' => e = .returned (.int .i64 (k + 3 * nodL ts : Nat)) ∧ OwL w' v (mkL ts k) S ∧ Stirs S w w'
theorem MkL.use {ts : List T} (h : MkL ts) {v : Value} {S : List Nat} {k : Nat} {w : World} (hw : OwL w v ts S) (hk : k + 3 * nodL ts < 9223372036854775800) :
    Calls Try.prog 61 #[v, .int .i64 k] w fun e w' => e = .returned (.int .i64 (k + 3 * nodL ts : Nat)) ∧ OwL w' v (mkL ts k) S ∧ Stirs S w w' := h v S k w hw hk
theorem nodT_eq (op : Int) (nm : ByteArray) (st : Int) (ts : List T) : nod ⟨op, nm, st, ts⟩ = 1 + nodL ts := by simp only [nod]
theorem nodL_split {ts : List T} {i : Nat} (h : i < ts.length) : nodL ts = nodL (ts.take i) + (1 + nodL ts[i].f3) + nodL (ts.drop (i + 1)) := by
  have e : ts = ts.take i ++ ts[i] :: ts.drop (i + 1) := by rw [List.getElem_cons_drop, List.take_append_drop]
  have e2 := congrArg nodL e
  rw [nodL_append] at e2
  rw [e2]
  simp only [nodL]
  cases ts[i]
  simp only [nodT_eq]
  omega

set_option maxHeartbeats 1000000 in
set_option maxRecDepth 100000 in
theorem mkL_of (ts : List T) (h : ∀ t ∈ ts, MkL t.f3) : MkL ts := by
  intro v S k w hw hk
  have HW := Lib.hid hw
  have HH := Lib.hid h
  obtain ⟨A, c, rfl, hc, hC⟩ := hw.rd
  have hl := hC.2.1
  clear hw h hC
  go_enter Try.func61, Try.ntmps61
  go_wp2_with fail
  go_loopw [1, 5] (fun q i wr => ∃ j : Nat, j ≤ ts.length ∧ i = .int .i64 j ∧ q = .int .i64 (k + 3 * nodL (ts.take j) : Nat) ∧ Aside0 (OwL wr (.slice A ts.length c) (mkL (ts.take j) k ++ ts.drop j) S) ∧ Aside0 (Stirs S w wr)) (fun _ i _ => ts.length - (intOf i).toNat)
  case atStart => exact ⟨0, Nat.zero_le _, rfl, by simp [nodL], ⟨by simpa [mkL] using HW.out⟩, ⟨Stirs.refl _ _⟩⟩
  case round =>
    obtain ⟨j, hj, rfl, rfl, hO, hF⟩ := hrel
    by_cases hlt2 : j < ts.length
    · have hsp := nodL_split hlt2
      have hmem : ts[j] ∈ ts := List.getElem_mem _
      have ho := hO.out
      have hd : ts.drop j = ts[j] :: ts.drop (j + 1) := (List.getElem_cons_drop hlt2).symm
      rw [hd] at ho
      have hm : (mkL (ts.take j) k).length = j := by rw [mkL_len, List.length_take]; omega
      have hdl : j + ((ts.drop (j + 1)).length + 1) = ts.length := by rw [List.length_drop]; omega
      have HHt := HH.out _ hmem
      have hstep : mkL (ts.take (j + 1)) k = mkL (ts.take j) k ++ [mkT ts[j] (k + 3 * nodL (ts.take j))] := by
        rw [List.take_succ_eq_append_getElem hlt2, mkL_append]
        simp [mkL]
      have hnod : nodL (ts.take (j + 1)) = nodL (ts.take j) + (1 + nodL ts[j].f3) := by
        rw [List.take_succ_eq_append_getElem hlt2, nodL_append]
        cases ts[j]
        simp [nodL, nod]
      generalize ts[j] = t at *
      obtain ⟨op, nm, st, us⟩ := t
      obtain ⟨g, cap, va, St, cur, hv, hcap, hg, hsz, e0, e1, e2, e3, hva, hgS, hgt, hSt, hback⟩ := OwL.at ho
      rw [hm] at e0 e1 e2 e3 hv hback hsz hcap
      rw [hdl] at hv hcap
      injection hv with eA _ ec
      subst eA
      subst ec
      generalize hn0 : nodL (ts.take j) = n0 at *
      simp only [] at hsp hnod HHt
      have hb1 : k + 3 * n0 + 3 + 3 * nodL us < 9223372036854775800 := by omega
      have HBACK := Lib.hid hback
      have HSP := Lib.hid hsp
      have HT := Lib.hid HHt
      have HVA := Lib.hid hva
      have HG := Lib.hid hg
      have e0' := e0; have e1' := e1; have e2' := e2; have e3' := e3
      have HSTEP := Lib.hid hstep
      have HD := Lib.hid hd
      clear hback hsp HHt hva e0 e1 e2 e3 hstep hd ho hmem
      have hb2 : k + 3 * n0 < 9223372036854775800 := by omega
      generalize hq : k + 3 * n0 = q at *
      obtain ⟨c0, f0, c1, f1, c2, f2, c3, f3⟩ := cells4 HG.out (by omega) e0' e1' e2' e3'
      go_wp2_with fail
      refine name_calls ?_
      intro W1 hW
      have g1 : W1.heap[g]? = some (.cells (cur.setIfInBounds (j * 4) (.int .i64 q)) 35 (0, 0)) := by rw [hW]; exact set_at HG.out _
      have t1 : Stirs S wr W1 := by rw [hW]; exact Stirs.set _ _ hgS
      have t1' : Stirs [g] wr W1 := by rw [hW]; exact Stirs.set _ _ List.mem_cons_self
      clear hW c0 f0 c1 f1 c2 f2 c3 f3
      have e1q : ((q : Int) + 1) = ((q + 1 : Nat) : Int) := by omega
      rw [e1q]
      clear e1q
      refine (laws_markText.calls 30 _ _ W1 (mt_is (by omega))).mono ?_
      rintro e W2 ⟨rfl, hb⟩
      have g2 : W2.heap[g]? = some (.cells (cur.setIfInBounds (j * 4) (.int .i64 q)) 35 (0, 0)) := blk_below g1 hb
      have t2 : Stirs S wr W2 := t1.trans (Stirs.of_below hb)
      have t2' : Stirs [g] wr W2 := t1'.trans (Stirs.of_below hb)
      clear t1 t1' g1 hb
      obtain ⟨c0, f0, c1, f1, c2, f2, c3, f3⟩ := cells4 g2 (a := .int .i64 q) (b := .string nm) (c := .int .i64 st) (d := va) (by simpa using hsz) (by rw [Array.getElem?_setIfInBounds_self_of_lt (by omega)]) (by rw [Array.getElem?_setIfInBounds_ne (by omega)]; exact e1') (by rw [Array.getElem?_setIfInBounds_ne (by omega)]; exact e2') (by rw [Array.getElem?_setIfInBounds_ne (by omega)]; exact e3')
      have G2 := Lib.hid g2
      clear g2
      go_wp2_with fail
      refine name_calls ?_
      intro W3 hW
      have e3q : ((q : Int) + 1 + 1 + 1) = ((q + 3 : Nat) : Int) := by omega
      have e2q : ((q : Int) + 1 + 1) = ((q + 2 : Nat) : Int) := by omega
      have g3 : W3.heap[g]? = some (.cells (((cur.setIfInBounds (j * 4) (.int .i64 (q : Nat))).setIfInBounds (j * 4 + 1) (.string (mt (q + 1)))).setIfInBounds (j * 4 + 2) (.int .i64 (q + 2 : Nat))) 35 (0, 0)) := by rw [hW, e2q]; exact set_at (set_at G2.out _) _
      have t3' : Stirs [g] wr W3 := by rw [hW]; exact t2'.trans ((Stirs.set _ _ List.mem_cons_self).trans (Stirs.set _ _ List.mem_cons_self))
      clear hW c0 f0 c1 f1 c2 f2 c3 f3 t2 t2' G2
      rw [e3q]
      clear e3q e2q
      have hva3 : OwL W3 va us St := OwL.frame HVA.out (fun k hk => t3'.block k (HVA.out.lt k hk) (fun e => hgt (by rw [List.mem_singleton.1 e] at hk; exact hk)))
      refine (HT.out.use hva3 (by omega)).mono ?_
      rintro e W4 ⟨rfl, hva4, t4⟩
      have g4 := (t4.block g (heap_lt g3) hgt).trans g3
      have hfin := HBACK.out W4 q (q + 2 : Nat) (mt (q + 1)) (mkL us (q + 3)) (mkL_len _ _) g4 hva4 (fun k hk hkg hkt => by
        have hlt : k < wr.heap.size := hO.out.lt k hk
        exact (t4.block k (Nat.lt_of_lt_of_le hlt t3'.size) hkt).trans (t3'.block k hlt (fun e => hkg (List.mem_singleton.1 e))))
      have tf : Stirs S wr W4 := (t3'.sub (fun k hk => by rw [List.mem_singleton.1 hk]; exact hgS)).trans (t4.sub hSt)
      have HFIN := Lib.hid hfin
      have HTF := Lib.hid (hF.out.trans tf)
      clear hfin tf g4 hva4 t4 g3 t3' hva3
      go_wp2_with fail
      go_roundw
      case rel =>
        refine ⟨j + 1, by omega, by go_num, ?_, ⟨?_⟩, ⟨HTF.out⟩⟩
        · rw [hnod]; congr 2; omega
        · rw [HSTEP.out]
          have := HFIN.out
          simpa [mkT, hq] using this
      case measure => simp [intOf]; omega
    · obtain rfl : j = ts.length := by omega
      have ho := hO.out
      rw [List.take_length, List.drop_length, List.append_nil] at ho
      rw [List.take_length]
      have HO := Lib.hid ho
      clear ho
      go_wp2_with fail
      go_ret
      exact ⟨rfl, HO.out, hF.out⟩
theorem markL_all (ts : List T) : MkL ts := by
  have key : ∀ t : T, MkL t.f3 := (T.ind (P := fun t => MkL t.f3) (Q := fun ts => ∀ t ∈ ts, MkL t.f3) (fun op nm st ts ih => mkL_of ts ih) (fun t ht => by cases ht) (fun t ts iht ihs t' ht => by
    rcases List.mem_cons.1 ht with rfl | ht
    · exact iht
    · exact ihs t' ht)).1
  exact mkL_of ts (fun t _ => key t)
end Go.Proofs.Ytfnkobcmhbdcoaa.MarkT
