/- Texts joined. -/
import Derived.Test.YtfnkobcmhbdcoaaBasis1
import Derived.WalkSpells
section
-- Written by this session's program xprint.py out of the translation; not trusted: Lean checks it.

namespace Go.Proofs.Ytfnkobcmhbdcoaa.XTm
open Go.RowKit Go.Proofs.YtfnkobcmhbdcoaaW.PrintWords Go.Proofs.YtfnkobcmhbdcoaaW.PrintLast Go.Proofs.YtfnkobcmhbdcoaaW.PrintMore
attribute [local go_sem] max2_int min2_int max_two min_two max_three min_three max_four min_four   -- for this text's walks alone
set_option linter.unusedVariables false
set_option linter.unusedSimpArgs false
open Go.Proofs.Ytfnkobcmhbdcoaa.XInts Go.Proofs.Ytfnkobcmhbdcoaa.XTypes

-- NOT PRINTED: function 60 (laws_eqTermS)

-- NOT PRINTED: function 29 (laws_eqTerm)

/-! ### laws_markText: function 79 -/
def laws_markText.l0 : Nat → Int → ByteArray → Option (ByteArray)
 | 0, _, _ => none
 | k + 1, x0, x3 => if x0 > 0 then ((some (([(wrap64 (48 + (Int.tmod x0 10))) % 256] : List Int) : List Int)).bind fun y105 => (if (strOfNums y105).size + x3.size ≤ 9223372036854775807 then (laws_markText.l0 k (wrap64 (Int.tdiv x0 10)) ((strOfNums y105) ++ x3)) else (none))) else (if 1 + x3.size ≤ 9223372036854775807 then (some ((⟨#[109]⟩ : ByteArray) ++ x3)) else (none))
def laws_markText.f (k : Nat) (a0 : Int) : Option (ByteArray) := if a0 ≤ 0 then (some (⟨#[109, 48]⟩ : ByteArray)) else (laws_markText.l0 k a0 (⟨#[]⟩ : ByteArray))
theorem laws_markText.mono_l : ∀ k, (∀ y0 y1, LeO (laws_markText.l0 k y0 y1) (laws_markText.l0 (k + 1) y0 y1))
 | 0 => fun _ _ r h => by simp [laws_markText.l0] at h
 | k + 1 => by
  have ih0 := laws_markText.mono_l k
  ·
   intro y0 y1
   unfold laws_markText.l0
   repeat' first
   | (with_reducible exact ih0 _ _)
   | (with_reducible exact LeO.refl _)
   | (with_reducible exact LeO.none _)
   | (with_reducible refine LeO.ite ?_ ?_)
   | (with_reducible refine LeO.bind ?_ (fun _ => ?_))
   | exact ih0 _ _
   | exact LeO.none _
   | refine LeO.ite ?_ ?_
   | refine LeO.bind ?_ (fun _ => ?_)
theorem laws_markText.mono : ∀ a0 k, LeO (laws_markText.f k a0) (laws_markText.f (k + 1) a0) := by
 intro a0 k
 have ih0 := laws_markText.mono_l k
 unfold laws_markText.f
 repeat' first
   | (with_reducible exact ih0 _ _)
   | (with_reducible exact LeO.refl _)
   | (with_reducible exact LeO.none _)
   | (with_reducible refine LeO.ite ?_ ?_)
   | (with_reducible refine LeO.bind ?_ (fun _ => ?_))
   | exact ih0 _ _
   | exact LeO.none _
   | refine LeO.ite ?_ ?_
   | refine LeO.bind ?_ (fun _ => ?_)
set_option maxHeartbeats 8000000 in
set_option maxRecDepth 100000 in
theorem laws_markText.calls (k : Nat) (a0 : Int) (r : ByteArray) (w : World) (h : laws_markText.f k a0 = some r) :
  Calls Try.prog 79 #[.int .i64 a0] w fun e w' => e = .returned (.string r) ∧ Below w.heap.size w w' := by
 have HB := Aside0.mk (Below.refl w.heap.size w)
 have H : (if a0 ≤ 0 then (some (⟨#[109, 48]⟩ : ByteArray)) else (laws_markText.l0 k a0 (⟨#[]⟩ : ByteArray))) = some r := h
 clear h
 by_cases c2 : a0 ≤ 0
 ·
  rw [if_pos c2] at H
  have c2b0 : decide (a0 ≤ 0) = true := decide_eq_true c2
  clear c2
  obtain rfl := Option.some.inj H
  go_enter Try.func79, Try.ntmps79
  go_wp2
  go_ret
  exact ⟨by first | rfl | (simp [errW_none, errW_some] <;> rfl) | (simp [*, errW_none, errW_some] <;> rfl), by repeat (first | (with_reducible first | exact HB.out | apply below_alloc | apply pw_below_drewN | apply below_drew1) | exact HB.out)⟩
 ·
  rw [if_neg c2] at H
  have c2b0 : decide (a0 ≤ 0) = false := decide_eq_false c2
  clear c2
  have H' := Aside0.mk H
  clear H
  go_enter Try.func79, Try.ntmps79
  go_wp2
  go_loopg [0, 3] k (fun kq v0 v3 w' => ∃ (x0_1 : Int) (x3_1 : ByteArray), v0 = .int .i64 x0_1 ∧ v3 = .string x3_1 ∧ Aside0 (laws_markText.l0 kq x0_1 x3_1 = some r) ∧ Aside0 (kq ≤ k) ∧ Aside0 (Below w.heap.size w w'))
  case atStart => exact ⟨(a0), ((⟨#[]⟩ : ByteArray)), (by first | rfl | (simp; done) | (simp [*]; done)), (by first | rfl | (simp; done) | (simp [*]; done)), H', ⟨Nat.le_refl _⟩, ⟨by repeat (first | (with_reducible first | exact HB.out | apply below_alloc | apply pw_below_drewN | apply below_drew1) | exact HB.out)⟩⟩
  case round =>
   clear H'
   try clear c2
   try clear c2b0
   try clear p2
   obtain ⟨x0_1, x3_1, rfl, rfl, HA, HK1, HB⟩ := hrel
   cases gk with
   | zero => exact absurd HA.out (by simp [laws_markText.l0])
   | succ k1 =>
    have H := HA.out
    clear HA
    simp only [laws_markText.l0] at H
    by_cases c3 : x0_1 > 0
    ·
     rw [if_pos c3] at H
     have c3b0 : decide (0 < x0_1) = true := decide_eq_true c3
     clear c3
     obtain ⟨y105, hy105⟩ : ∃ y_ : List Int, y_ = (([(wrap64 (48 + (Int.tmod x0_1 10))) % 256] : List Int)) := ⟨_, rfl⟩
     replace H : (if (strOfNums y105).size + x3_1.size ≤ 9223372036854775807 then (laws_markText.l0 k1 (wrap64 (Int.tdiv x0_1 10)) ((strOfNums y105) ++ x3_1)) else (none)) = some r := by first | (rw [hy105]; with_reducible exact H) | (have H2_ := (Option.bind_some _ _).symm.trans H; rw [hy105]; with_reducible exact H2_) | (have H2_ := (Option.bind_some _ _).symm.trans H; with_reducible exact H2_) | with_reducible exact H | (rw [hy105]; exact H) | exact H
     have Ny105 := Aside0.mk hy105
     clear hy105
     by_cases c4 : (strOfNums y105).size + x3_1.size ≤ 9223372036854775807
     ·
      rw [if_pos c4] at H
      have c4b0 := eq_true c4
      have c4b1 : decide ((strOfNums y105).size + x3_1.size ≤ 9223372036854775807) = true := decide_eq_true c4
      try have c4b2 : (9223372036854775807 < (strOfNums y105).size + x3_1.size) = False := eq_false (Nat.not_lt.2 c4)
      have H' := Aside0.mk H
      clear H
      go_wp2_with (first | ((with_reducible refine gate_dst (N := 12) rfl ?_); refine Kd.R_lit (Kd.int .u8) _ 5 ?hg (N := 12) ?hd (xs := ([(wrap64 (48 + (Int.tmod x0_1 10))) % 256] : List Int)) (inner := [.int .u8 ((wrap64 (48 + (Int.tmod x0_1 10))) % 256)]) (ok := fun _ => True) (okp := fun _ => True) ?hr ?hp (fun _ hk => hk) trivial (Below.refl _ _) (Nat.le_refl _) (by simp) ?_; (case hd => rfl); (case hg => rfl); (case hr => first | (go_simp; done) | (go_simp; rfl)); (case hp => exact (Reps.one (show Kd.M (Kd.int .u8) _ _ _ ((wrap64 (48 + (Int.tmod x0_1 10))) % 256) [.int .u8 ((wrap64 (48 + (Int.tmod x0_1 10))) % 256)] from rfl) (Reps.none _ _))); intro v106 w5 ho6 hb hg_ hnew_; clear hg_ hnew_; (first | rw [← Ny105.out] at ho6 | (simp only [Int.reduceToNat] at ho6; rw [← Ny105.out] at ho6)); have n0_ := Aside0.mk (Kd.R_lower ho6 (below_size (by repeat (first | (with_reducible first | exact HB.out | apply below_alloc | apply pw_below_drewN | apply below_drew1) | exact HB.out)))); have n1_ := Aside0.mk (below_step (by repeat (first | (with_reducible first | exact HB.out | apply below_alloc | apply pw_below_drewN | apply below_drew1) | exact HB.out)) hb); clear HB; have HO107 := n0_; have HB := n1_; clear n0_ n1_; clear hb ho6; have hcv7 := own_string (P := Try.prog) Try.underlying64 Try.underlying5 Try.underlying9 (Kd.own_of_R HO107.out)))
      go_roundg k1
      case measure => have := HK1.out; omega
      case rel => exact ⟨(wrap64 (Int.tdiv x0_1 10)), ((strOfNums y105) ++ x3_1), (by first | rfl | (simp; done) | (simp [*]; done)), (by first | rfl | (simp; done) | (simp [*]; done)), H', ⟨by have := HK1.out; omega⟩, ⟨by repeat (first | (with_reducible first | exact HB.out | apply below_alloc | apply pw_below_drewN | apply below_drew1) | exact HB.out)⟩⟩
     ·
      rw [if_neg c4] at H
      exact absurd H (by simp)
    ·
     rw [if_neg c3] at H
     have c3b0 : decide (0 < x0_1) = false := decide_eq_false c3
     clear c3
     by_cases c8 : 1 + x3_1.size ≤ 9223372036854775807
     ·
      rw [if_pos c8] at H
      have c8b0 := eq_true c8
      have c8b1 : decide (1 + x3_1.size ≤ 9223372036854775807) = true := decide_eq_true c8
      try have c8b2 : (9223372036854775807 < 1 + x3_1.size) = False := eq_false (Nat.not_lt.2 c8)
      obtain rfl := Option.some.inj H
      go_wp2
      go_ret
      exact ⟨by first | rfl | (simp [errW_none, errW_some] <;> rfl) | (simp [*, errW_none, errW_some] <;> rfl), by repeat (first | (with_reducible first | exact HB.out | apply below_alloc | apply pw_below_drewN | apply below_drew1) | exact HB.out)⟩
     ·
      rw [if_neg c8] at H
      exact absurd H (by simp)

end Go.Proofs.Ytfnkobcmhbdcoaa.XTm
end
section
/- laws.markTerm, laws.markTermS over a tree of one's own. -/


namespace Go.Proofs.Ytfnkobcmhbdcoaa.MarkT
open Go.RowKit Go.Proofs.YtfnkobcmhbdcoaaW.PrintWords Go.Proofs.YtfnkobcmhbdcoaaW.PrintLast Go.Proofs.Ytfnkobcmhbdcoaa.Base Go.Proofs.Ytfnkobcmhbdcoaa.XTypes Go.Proofs.Ytfnkobcmhbdcoaa.PureInts Go.Proofs.Ytfnkobcmhbdcoaa.Typed Go.Proofs.Ytfnkobcmhbdcoaa.Trees Go.Proofs.Ytfnkobcmhbdcoaa.XTm
set_option linter.unusedVariables false
set_option linter.unusedSimpArgs false
set_option linter.unnecessarySimpa false

/-! ### the marks -/
theorem strOfNums_one (n : Int) : (strOfNums [n]).size = 1 := rfl
theorem text_l0 : ∀ (n : Nat) (x : Int) (s : ByteArray), 0 ≤ x → x < 10 ^ n → x < 9223372036854775808 → s.size + n ≤ 1000 → ∃ r, laws_markText.l0 (n + 1) x s = some r := by
  intro n
  induction n with
  | zero =>
    intro x s h0 h1 h2 h3
    simp only [laws_markText.l0]
    rw [if_neg (by omega), if_pos (by omega)]
    exact ⟨_, rfl⟩
  | succ n ih =>
    intro x s h0 h1 h2 h3
    rw [laws_markText.l0]
    by_cases hx : x > 0
    · rw [if_pos hx]
      simp only [Option.bind_some]
      rw [if_pos (by rw [strOfNums_one]; omega)]
      have e : Int.tdiv x 10 = x / 10 := by rw [Int.tdiv_eq_ediv_of_nonneg h0]
      rw [e, wrap_id (by omega) (by omega)]
      refine ih _ _ (by omega) ?_ (by omega) (by rw [ByteArray.size_append, strOfNums_one]; omega)
      rw [Int.pow_succ] at h1
      omega
    · rw [if_neg hx, if_pos (by omega)]
      exact ⟨_, rfl⟩
theorem text_any (x : Int) (h : x < 9223372036854775808) : ∃ r, laws_markText.f 30 x = some r := by
  unfold laws_markText.f
  by_cases hx : x ≤ 0
  · rw [if_pos hx]; exact ⟨_, rfl⟩
  · rw [if_neg hx]
    exact text_l0 29 x _ (by omega) (by omega) h (by show (0 : Nat) + 29 ≤ 1000; omega)
/-- The text of a mark. -/
def mt (k : Nat) : ByteArray := (laws_markText.f 30 (k : Int)).getD ⟨#[]⟩
theorem mt_is {k : Nat} (h : k < 9223372036854775808) : laws_markText.f 30 (k : Int) = some (mt k) := by
  obtain ⟨r, hr⟩ := text_any (k : Int) (by omega)
  unfold mt
  rw [hr]
  rfl
mutual
/-- How many terms a term is made of. -/
def nod : T → Nat
  | ⟨_, _, _, ts⟩ => 1 + nodL ts
def nodL : List T → Nat
  | [] => 0
  | t :: ts => nod t + nodL ts
end
mutual
def mkT : T → Nat → T
  | ⟨_, _, _, ts⟩, k => ⟨k, mt (k + 1), k + 2, mkL ts (k + 3)⟩
def mkL : List T → Nat → List T
  | [], _ => []
  | t :: ts, k => mkT t k :: mkL ts (k + 3 * nod t)
end
theorem mkL_len (ts : List T) (k : Nat) : (mkL ts k).length = ts.length := by
  induction ts generalizing k with
  | nil => simp [mkL]
  | cons t ts ih => simp [mkL, ih]
theorem nodL_append (xs ys : List T) : nodL (xs ++ ys) = nodL xs + nodL ys := by
  induction xs with
  | nil => simp [nodL]
  | cons t ts ih => simp only [List.cons_append, nodL, ih]; omega
theorem mkL_append (xs ys : List T) (k : Nat) : mkL (xs ++ ys) k = mkL xs k ++ mkL ys (k + 3 * nodL xs) := by
  induction xs generalizing k with
  | nil => simp [mkL, nodL]
  | cons t ts ih =>
    simp only [List.cons_append, mkL, nodL, ih]
    congr 3
    omega

/-! ### one element of an owned row -/
theorem OwC_mid {w : World} {xs ys : List T} {t : T} {cs : List Value} {S : List Nat} : OwC w (xs ++ t :: ys) cs S ↔ ∃ c1 c c2 S1 St S2, cs = c1 ++ (c ++ c2) ∧ S = S1 ++ (St ++ S2) ∧ OwC w xs c1 S1 ∧ OwT w t c St ∧ OwC w ys c2 S2 ∧ (∀ k ∈ S1, k ∉ St ++ S2) ∧ ∀ k ∈ St, k ∉ S2 := by
  induction xs generalizing cs S with
  | nil =>
    rw [List.nil_append, OwC_cons]
    constructor
    · rintro ⟨c1, c2, S1, S2, rfl, rfl, h1, h2, hd⟩
      exact ⟨[], c1, c2, [], S1, S2, rfl, rfl, OwC_nil.2 ⟨rfl, rfl⟩, h1, h2, (fun k hk => by cases hk), hd⟩
    · rintro ⟨c1, c, c2, S1, St, S2, rfl, rfl, h1, h2, h3, hd1, hd2⟩
      obtain ⟨rfl, rfl⟩ := OwC_nil.1 h1
      exact ⟨c, c2, St, S2, rfl, rfl, h2, h3, hd2⟩
  | cons a xs ih =>
    rw [List.cons_append, OwC_cons]
    constructor
    · rintro ⟨d1, d2, R1, R2, rfl, rfl, h1, h2, hd⟩
      obtain ⟨c1, c, c2, S1, St, S2, rfl, rfl, g1, g2, g3, hd1, hd2⟩ := ih.1 h2
      refine ⟨d1 ++ c1, c, c2, R1 ++ S1, St, S2, by simp, by simp, OwC_cons.2 ⟨d1, c1, R1, S1, rfl, rfl, h1, g1, fun k hk hk' => hd k hk (List.mem_append_left _ hk')⟩, g2, g3, fun k hk => ?_, hd2⟩
      rcases List.mem_append.1 hk with hk | hk
      · exact fun hk' => hd k hk (List.mem_append_right _ hk')
      · exact hd1 k hk
    · rintro ⟨c1, c, c2, S1, St, S2, rfl, rfl, h1, h2, h3, hd1, hd2⟩
      obtain ⟨d1, d2, R1, R2, rfl, rfl, g1, g2, gd⟩ := OwC_cons.1 h1
      refine ⟨d1, d2 ++ (c ++ c2), R1, R2 ++ (St ++ S2), by simp, by simp, g1, ih.2 ⟨d2, c, c2, R2, St, S2, rfl, rfl, g2, h2, h3, fun k hk => hd1 k (List.mem_append_right _ hk), hd2⟩, fun k hk hk' => ?_⟩
      rcases List.mem_append.1 hk' with hk' | hk'
      · exact gd k hk hk'
      · exact hd1 k (List.mem_append_left _ hk) hk'
/-- An element, its cells, its own row; and how the whole is owned again when they have been changed. -/
theorem OwL.at {w : World} {v : Value} {xs ys ts : List T} {op st : Int} {nm : ByteArray} {S : List Nat} (h : OwL w v (xs ++ ⟨op, nm, st, ts⟩ :: ys) S) :
    ∃ g cap va St, ∃ cur : Array Value, v = .slice (some ⟨g, 0, none⟩) (xs.length + (ys.length + 1)) cap ∧ xs.length + (ys.length + 1) ≤ cap ∧ w.heap[g]? = some (.cells cur 35 (0, 0)) ∧ xs.length * 4 + 3 < cur.size ∧
      cur[xs.length * 4]? = some (.int .i64 op) ∧ cur[xs.length * 4 + 1]? = some (.string nm) ∧ cur[xs.length * 4 + 2]? = some (.int .i64 st) ∧ cur[xs.length * 4 + 3]? = some va ∧
      OwL w va ts St ∧ g ∈ S ∧ g ∉ St ∧ (∀ k ∈ St, k ∈ S) ∧
      ∀ (w' : World) (op' st' : Int) (nm' : ByteArray) (ts' : List T), ts'.length = ts.length → w'.heap[g]? = some (.cells (((cur.setIfInBounds (xs.length * 4) (.int .i64 op')).setIfInBounds (xs.length * 4 + 1) (.string nm')).setIfInBounds (xs.length * 4 + 2) (.int .i64 st')) 35 (0, 0)) →
        OwL w' va ts' St → (∀ k ∈ S, k ≠ g → k ∉ St → w'.heap[k]? = w.heap[k]?) → OwL w' v (xs ++ ⟨op', nm', st', ts'⟩ :: ys) S := by
  rcases h with ⟨_, hn, _⟩ | ⟨g, cap, cur, S', hv, hn, hc, hh, hs, hr, rfl, hg⟩
  · simp at hn
  · obtain ⟨c1, c, c2, S1, St, S2, ecs, rfl, h1, h2, h3, hd1, hd2⟩ := OwC_mid.1 hr
    obtain ⟨va, rfl, hva⟩ := OwT_iff.1 h2
    have l1 := h1.len
    have l2 := h3.len
    have hlen : (xs ++ (⟨op, nm, st, ts⟩ : T) :: ys).length = xs.length + (ys.length + 1) := by simp
    rw [hlen] at hv hn ecs
    have hsz : cur.toList.length = cap * 4 := by simpa using hs
    have hget : ∀ i u, i < 4 → [Value.int .i64 op, .string nm, .int .i64 st, va][i]? = some u → cur[xs.length * 4 + i]? = some u := by
      intro i u hi hu
      have e : (cur.toList.take ((xs.length + (ys.length + 1)) * 4))[xs.length * 4 + i]? = some u := by
        rw [ecs, List.getElem?_append_right (by omega), l1, Nat.add_sub_cancel_left, List.getElem?_append_left (by simpa using hi)]
        exact hu
      rw [List.getElem?_take] at e
      split at e
      · simpa using e
      · cases e
    refine ⟨g, cap, va, St, cur, hv, hn, hh, by omega, hget 0 _ (by omega) rfl, hget 1 _ (by omega) rfl, hget 2 _ (by omega) rfl, hget 3 _ (by omega) rfl, hva, List.mem_cons_self, fun hk => hg (List.mem_append_right _ (List.mem_append_left _ hk)), fun k hk => List.mem_cons_of_mem _ (List.mem_append_right _ (List.mem_append_left _ hk)), ?_⟩
    intro w' op' st' nm' ts' hl hh' hva' hrest
    refine .inr ⟨g, cap, _, S1 ++ (St ++ S2), by rw [hv]; simp, by simpa using hn, hc, hh', by simpa using hs, ?_, rfl, hg⟩
    refine OwC_mid.2 ⟨c1, [.int .i64 op', .string nm', .int .i64 st', va], c2, S1, St, S2, ?_, rfl, OwC.frame h1 (fun k hk => hrest k (List.mem_cons_of_mem _ (List.mem_append_left _ hk)) (fun e => hg (by rw [← e]; exact List.mem_append_left _ hk)) (fun hk' => hd1 k hk (List.mem_append_left _ hk'))), OwT_iff.2 ⟨va, rfl, hva'⟩, OwC.frame h3 (fun k hk => hrest k (List.mem_cons_of_mem _ (List.mem_append_right _ (List.mem_append_right _ hk))) (fun e => hg (by rw [← e]; exact List.mem_append_right _ (List.mem_append_right _ hk))) (fun hk' => hd2 k hk' hk)), hd1, hd2⟩
    have hlen' : (xs ++ (⟨op', nm', st', ts'⟩ : T) :: ys).length = xs.length + (ys.length + 1) := by simp
    rw [hlen']
    simp only [Array.toList_setIfInBounds, List.take_set, ecs]
    rw [List.set_append_right _ _ (by omega), List.set_append_right _ _ (by omega), List.set_append_right _ _ (by omega)]
    congr 1
    simp [l1]

/-! ### the walk -/
theorem cells4 {w : World} {g i e : Nat} {cur : Array Value} (hg : w.heap[g]? = some (.cells cur e (0, 0))) (hs : i + 3 < cur.size) {a b c d : Value}
    (h0 : cur[i]? = some a) (h1 : cur[i + 1]? = some b) (h2 : cur[i + 2]? = some c) (h3 : cur[i + 3]? = some d) :
    w.cell? ⟨g, i, none⟩ = some a ∧ w.frozen? ⟨g, i, none⟩ = false ∧ w.cell? ⟨g, i + 1, none⟩ = some b ∧ w.frozen? ⟨g, i + 1, none⟩ = false ∧ w.cell? ⟨g, i + 2, none⟩ = some c ∧ w.frozen? ⟨g, i + 2, none⟩ = false ∧ w.cell? ⟨g, i + 3, none⟩ = some d ∧ w.frozen? ⟨g, i + 3, none⟩ = false := by
  simp [World.cell?, World.frozen?, hg, h0, h1, h2, h3]
/-- Of what was there, nothing but S was touched. -/
structure Stirs (S : List Nat) (w w' : World) : Prop where
  os : w'.os = w.os
  tape : w'.tape = w.tape
  output : w'.output = w.output
  size : w.heap.size ≤ w'.heap.size
  block : ∀ k, k < w.heap.size → k ∉ S → w'.heap[k]? = w.heap[k]?
theorem Stirs.refl (S : List Nat) (w : World) : Stirs S w w := ⟨rfl, rfl, rfl, Nat.le_refl _, fun _ _ _ => rfl⟩
theorem Stirs.trans {S : List Nat} {a b c : World} (h : Stirs S a b) (k : Stirs S b c) : Stirs S a c :=
  ⟨k.os.trans h.os, k.tape.trans h.tape, k.output.trans h.output, Nat.le_trans h.size k.size, fun i hi hs => (k.block i (Nat.lt_of_lt_of_le hi h.size) hs).trans (h.block i hi hs)⟩
theorem Stirs.sub {S S' : List Nat} {a b : World} (h : Stirs S a b) (hs : ∀ k ∈ S, k ∈ S') : Stirs S' a b := ⟨h.os, h.tape, h.output, h.size, fun k hk hn => h.block k hk (fun e => hn (hs k e))⟩
theorem Stirs.of_below {S : List Nat} {a b : World} (h : Below a.heap.size a b) : Stirs S a b := ⟨h.os, h.tape, h.output, h.size, fun k hk _ => h.block k hk⟩
theorem Stirs.below {S : List Nat} {n : Nat} {a b : World} (h : Stirs S a b) (hn : n ≤ a.heap.size) (hs : ∀ k ∈ S, n ≤ k) : Below n a b := ⟨h.os, h.tape, h.output, h.size, fun k hk => h.block k (by omega) (fun e => by have := hs k e; omega)⟩
theorem Stirs.set {S : List Nat} {g i : Nat} (w : World) (v : Value) (hg : g ∈ S) : Stirs S w (w.setCell ⟨g, i, none⟩ v) :=
  ⟨rfl, rfl, rfl, by simp [World.setCell], fun k _ hs => Go.Deep.blk_setCell_other w ⟨g, i, none⟩ v k (fun e => hs (by rw [e]; exact hg))⟩
theorem set_at {w : World} {g i e : Nat} {cur : Array Value} (hg : w.heap[g]? = some (.cells cur e (0, 0))) (v : Value) : (w.setCell ⟨g, i, none⟩ v).heap[g]? = some (.cells (cur.setIfInBounds i v) e (0, 0)) := by
  simp [World.setCell, Array.getElem?_modify, hg]
/-- What a marking leaves: the same blocks own the marked tree, and nothing else that was there has moved. -/
def MkL (ts : List T) : Prop := ∀ (v : Value) (S : List Nat) (k : Nat) (w : World), OwL w v ts S → k + 3 * nodL ts < 9223372036854775800 →
  Calls Try.prog 61 #[v, .int .i64 k] w fun e w' => e = .returned (.int .i64 (k + 3 * nodL ts : Nat)) ∧ OwL w' v (mkL ts k) S ∧ Stirs S w w'
theorem MkL.use {ts : List T} (h : MkL ts) {v : Value} {S : List Nat} {k : Nat} {w : World} (hw : OwL w v ts S) (hk : k + 3 * nodL ts < 9223372036854775800) :
    Calls Try.prog 61 #[v, .int .i64 k] w fun e w' => e = .returned (.int .i64 (k + 3 * nodL ts : Nat)) ∧ OwL w' v (mkL ts k) S ∧ Stirs S w w' := h v S k w hw hk
theorem nodT_eq (op : Int) (nm : ByteArray) (st : Int) (ts : List T) : nod ⟨op, nm, st, ts⟩ = 1 + nodL ts := by simp only [nod]
theorem nodL_split {ts : List T} {i : Nat} (h : i < ts.length) : nodL ts = nodL (ts.take i) + (1 + nodL ts[i].f3) + nodL (ts.drop (i + 1)) := by
  have e : ts = ts.take i ++ ts[i] :: ts.drop (i + 1) := by rw [List.getElem_cons_drop, List.take_append_drop]
  have e2 := congrArg nodL e
  rw [nodL_append] at e2
  rw [e2]
  simp only [nodL]
  cases ts[i]
  simp only [nodT_eq]
  omega

set_option maxHeartbeats 1000000 in
set_option maxRecDepth 100000 in
theorem mkL_of (ts : List T) (h : ∀ t ∈ ts, MkL t.f3) : MkL ts := by
  intro v S k w hw hk
  have HW := Lib.hid hw
  have HH := Lib.hid h
  obtain ⟨A, c, rfl, hc, hC⟩ := hw.rd
  have hl := hC.2.1
  clear hw h hC
  go_enter Try.func61, Try.ntmps61
  go_wp2_with fail
  go_loopw [1, 5] (fun q i wr => ∃ j : Nat, j ≤ ts.length ∧ i = .int .i64 j ∧ q = .int .i64 (k + 3 * nodL (ts.take j) : Nat) ∧ Aside0 (OwL wr (.slice A ts.length c) (mkL (ts.take j) k ++ ts.drop j) S) ∧ Aside0 (Stirs S w wr)) (fun _ i _ => ts.length - (intOf i).toNat)
  case atStart => exact ⟨0, Nat.zero_le _, rfl, by simp [nodL], ⟨by simpa [mkL] using HW.out⟩, ⟨Stirs.refl _ _⟩⟩
  case round =>
    obtain ⟨j, hj, rfl, rfl, hO, hF⟩ := hrel
    by_cases hlt2 : j < ts.length
    · have hsp := nodL_split hlt2
      have hmem : ts[j] ∈ ts := List.getElem_mem _
      have ho := hO.out
      have hd : ts.drop j = ts[j] :: ts.drop (j + 1) := (List.getElem_cons_drop hlt2).symm
      rw [hd] at ho
      have hm : (mkL (ts.take j) k).length = j := by rw [mkL_len, List.length_take]; omega
      have hdl : j + ((ts.drop (j + 1)).length + 1) = ts.length := by rw [List.length_drop]; omega
      have HHt := HH.out _ hmem
      have hstep : mkL (ts.take (j + 1)) k = mkL (ts.take j) k ++ [mkT ts[j] (k + 3 * nodL (ts.take j))] := by
        rw [List.take_succ_eq_append_getElem hlt2, mkL_append]
        simp [mkL]
      have hnod : nodL (ts.take (j + 1)) = nodL (ts.take j) + (1 + nodL ts[j].f3) := by
        rw [List.take_succ_eq_append_getElem hlt2, nodL_append]
        cases ts[j]
        simp [nodL, nod]
      generalize ts[j] = t at *
      obtain ⟨op, nm, st, us⟩ := t
      obtain ⟨g, cap, va, St, cur, hv, hcap, hg, hsz, e0, e1, e2, e3, hva, hgS, hgt, hSt, hback⟩ := OwL.at ho
      rw [hm] at e0 e1 e2 e3 hv hback hsz hcap
      rw [hdl] at hv hcap
      injection hv with eA _ ec
      subst eA
      subst ec
      generalize hn0 : nodL (ts.take j) = n0 at *
      simp only [] at hsp hnod HHt
      have hb1 : k + 3 * n0 + 3 + 3 * nodL us < 9223372036854775800 := by omega
      have HBACK := Lib.hid hback
      have HSP := Lib.hid hsp
      have HT := Lib.hid HHt
      have HVA := Lib.hid hva
      have HG := Lib.hid hg
      have e0' := e0; have e1' := e1; have e2' := e2; have e3' := e3
      have HSTEP := Lib.hid hstep
      have HD := Lib.hid hd
      clear hback hsp HHt hva e0 e1 e2 e3 hstep hd ho hmem
      have hb2 : k + 3 * n0 < 9223372036854775800 := by omega
      generalize hq : k + 3 * n0 = q at *
      obtain ⟨c0, f0, c1, f1, c2, f2, c3, f3⟩ := cells4 HG.out (by omega) e0' e1' e2' e3'
      go_wp2_with fail
      refine name_calls ?_
      intro W1 hW
      have g1 : W1.heap[g]? = some (.cells (cur.setIfInBounds (j * 4) (.int .i64 q)) 35 (0, 0)) := by rw [hW]; exact set_at HG.out _
      have t1 : Stirs S wr W1 := by rw [hW]; exact Stirs.set _ _ hgS
      have t1' : Stirs [g] wr W1 := by rw [hW]; exact Stirs.set _ _ List.mem_cons_self
      clear hW c0 f0 c1 f1 c2 f2 c3 f3
      have e1q : ((q : Int) + 1) = ((q + 1 : Nat) : Int) := by omega
      rw [e1q]
      clear e1q
      refine (laws_markText.calls 30 _ _ W1 (mt_is (by omega))).mono ?_
      rintro e W2 ⟨rfl, hb⟩
      have g2 : W2.heap[g]? = some (.cells (cur.setIfInBounds (j * 4) (.int .i64 q)) 35 (0, 0)) := blk_below g1 hb
      have t2 : Stirs S wr W2 := t1.trans (Stirs.of_below hb)
      have t2' : Stirs [g] wr W2 := t1'.trans (Stirs.of_below hb)
      clear t1 t1' g1 hb
      obtain ⟨c0, f0, c1, f1, c2, f2, c3, f3⟩ := cells4 g2 (a := .int .i64 q) (b := .string nm) (c := .int .i64 st) (d := va) (by simpa using hsz) (by rw [Array.getElem?_setIfInBounds_self_of_lt (by omega)]) (by rw [Array.getElem?_setIfInBounds_ne (by omega)]; exact e1') (by rw [Array.getElem?_setIfInBounds_ne (by omega)]; exact e2') (by rw [Array.getElem?_setIfInBounds_ne (by omega)]; exact e3')
      have G2 := Lib.hid g2
      clear g2
      go_wp2_with fail
      refine name_calls ?_
      intro W3 hW
      have e3q : ((q : Int) + 1 + 1 + 1) = ((q + 3 : Nat) : Int) := by omega
      have e2q : ((q : Int) + 1 + 1) = ((q + 2 : Nat) : Int) := by omega
      have g3 : W3.heap[g]? = some (.cells (((cur.setIfInBounds (j * 4) (.int .i64 (q : Nat))).setIfInBounds (j * 4 + 1) (.string (mt (q + 1)))).setIfInBounds (j * 4 + 2) (.int .i64 (q + 2 : Nat))) 35 (0, 0)) := by rw [hW, e2q]; exact set_at (set_at G2.out _) _
      have t3' : Stirs [g] wr W3 := by rw [hW]; exact t2'.trans ((Stirs.set _ _ List.mem_cons_self).trans (Stirs.set _ _ List.mem_cons_self))
      clear hW c0 f0 c1 f1 c2 f2 c3 f3 t2 t2' G2
      rw [e3q]
      clear e3q e2q
      have hva3 : OwL W3 va us St := OwL.frame HVA.out (fun k hk => t3'.block k (HVA.out.lt k hk) (fun e => hgt (by rw [List.mem_singleton.1 e] at hk; exact hk)))
      refine (HT.out.use hva3 (by omega)).mono ?_
      rintro e W4 ⟨rfl, hva4, t4⟩
      have g4 := (t4.block g (heap_lt g3) hgt).trans g3
      have hfin := HBACK.out W4 q (q + 2 : Nat) (mt (q + 1)) (mkL us (q + 3)) (mkL_len _ _) g4 hva4 (fun k hk hkg hkt => by
        have hlt : k < wr.heap.size := hO.out.lt k hk
        exact (t4.block k (Nat.lt_of_lt_of_le hlt t3'.size) hkt).trans (t3'.block k hlt (fun e => hkg (List.mem_singleton.1 e))))
      have tf : Stirs S wr W4 := (t3'.sub (fun k hk => by rw [List.mem_singleton.1 hk]; exact hgS)).trans (t4.sub hSt)
      have HFIN := Lib.hid hfin
      have HTF := Lib.hid (hF.out.trans tf)
      clear hfin tf g4 hva4 t4 g3 t3' hva3
      go_wp2_with fail
      go_roundw
      case rel =>
        refine ⟨j + 1, by omega, by go_num, ?_, ⟨?_⟩, ⟨HTF.out⟩⟩
        · rw [hnod]; congr 2; omega
        · rw [HSTEP.out]
          have := HFIN.out
          simpa [mkT, hq] using this
      case measure => simp [intOf]; omega
    · obtain rfl : j = ts.length := by omega
      have ho := hO.out
      rw [List.take_length, List.drop_length, List.append_nil] at ho
      rw [List.take_length]
      have HO := Lib.hid ho
      clear ho
      go_wp2_with fail
      go_ret
      exact ⟨rfl, HO.out, hF.out⟩
theorem markL_all (ts : List T) : MkL ts := by
  have key : ∀ t : T, MkL t.f3 := (T.ind (P := fun t => MkL t.f3) (Q := fun ts => ∀ t ∈ ts, MkL t.f3) (fun op nm st ts ih => mkL_of ts ih) (fun t ht => by cases ht) (fun t ts iht ihs t' ht => by
    rcases List.mem_cons.1 ht with rfl | ht
    · exact iht
    · exact ihs t' ht)).1
  exact mkL_of ts (fun t _ => key t)
end Go.Proofs.Ytfnkobcmhbdcoaa.MarkT
end
section
/- Rows of rows of integers that the call owns: which blocks, no two of which are one. -/

namespace Go.Proofs.Ytfnkobcmhbdcoaa.Rows2
open Go.RowKit Go.Proofs.YtfnkobcmhbdcoaaW.PrintWords Go.Proofs.YtfnkobcmhbdcoaaW.PrintLast Go.Proofs.Ytfnkobcmhbdcoaa.Base Go.Proofs.Ytfnkobcmhbdcoaa.XTypes Go.Proofs.Ytfnkobcmhbdcoaa.XInts Go.Proofs.Ytfnkobcmhbdcoaa.PureInts Go.Proofs.Ytfnkobcmhbdcoaa.Typed Go.Proofs.Ytfnkobcmhbdcoaa.Trees Go.Proofs.Ytfnkobcmhbdcoaa.MarkT
set_option linter.unusedVariables false
set_option linter.unusedSimpArgs false
set_option linter.unnecessarySimpa false

/-- The block of a row. -/
def own : Value → List Nat
  | .slice (some a) _ _ => [a.block]
  | _ => []
theorem own_iff {v : Value} {k : Nat} : k ∈ own v ↔ Fp v k := by
  unfold own Fp Value.ownBlock
  split
  · rename_i a _ _
    constructor
    · intro h; rw [List.mem_singleton.1 h]
    · intro h; injection h with h; rw [h]; exact List.mem_cons_self
  · rename_i h
    constructor
    · intro h'; cases h'
    · intro h'
      split at h'
      · rename_i a _ _; exact (h a _ _ rfl).elim
      · cases h'
theorem frameI {w w' : World} {v : Value} {l : List Int} (h : OwI 0 w v l) (hm : ∀ k ∈ own v, w'.heap[k]? = w.heap[k]?) : OwI 0 w' v l := h.step (fun k hk _ => hm k (own_iff.2 hk))
def OwRC (w : World) : List (List Int) → List Value → List Nat → Prop
  | [], cs, S => cs = [] ∧ S = []
  | l :: ls, cs, S => ∃ v cs' S', cs = v :: cs' ∧ S = own v ++ S' ∧ OwI 0 w v l ∧ OwRC w ls cs' S' ∧ ∀ k ∈ own v, k ∉ S'
/-- A row of rows of one's own. -/
def OwSS (w : World) (v : Value) (ls : List (List Int)) (S : List Nat) : Prop := RowOf w 24 1 v ls.length (OwRC w ls) S
theorem OwRC.len {w : World} {ls : List (List Int)} {cs : List Value} {S : List Nat} (h : OwRC w ls cs S) : cs.length = ls.length := by
  induction ls generalizing cs S with
  | nil => rw [h.1]; rfl
  | cons l ls ih =>
    obtain ⟨v, cs', S', rfl, rfl, _, h2, _⟩ := h
    simp [ih h2]
theorem OwRC.frame {w w' : World} {ls : List (List Int)} {cs : List Value} {S : List Nat} (h : OwRC w ls cs S) (hm : ∀ k ∈ S, w'.heap[k]? = w.heap[k]?) : OwRC w' ls cs S := by
  induction ls generalizing cs S with
  | nil => exact h
  | cons l ls ih =>
    obtain ⟨v, cs', S', rfl, rfl, h1, h2, hd⟩ := h
    exact ⟨v, cs', S', rfl, rfl, frameI h1 (fun k hk => hm k (List.mem_append_left _ hk)), ih h2 (fun k hk => hm k (List.mem_append_right _ hk)), hd⟩
theorem OwRC.lt {w : World} {ls : List (List Int)} {cs : List Value} {S : List Nat} (h : OwRC w ls cs S) : ∀ k ∈ S, k < w.heap.size := by
  induction ls generalizing cs S with
  | nil => intro k hk; rw [h.2] at hk; cases hk
  | cons l ls ih =>
    obtain ⟨v, cs', S', rfl, rfl, h1, h2, hd⟩ := h
    intro k hk
    rcases List.mem_append.1 hk with hk | hk
    · exact (h1.lt (own_iff.1 hk)).2
    · exact ih h2 k hk
theorem OwSS.frame {w w' : World} {v : Value} {ls : List (List Int)} {S : List Nat} (h : OwSS w v ls S) (hm : ∀ k ∈ S, w'.heap[k]? = w.heap[k]?) : OwSS w' v ls S := RowOf.imp h hm (fun cs S' h hk => h.frame (fun k hs => hm k (hk k hs)))
theorem OwSS.lt {w : World} {v : Value} {ls : List (List Int)} {S : List Nat} (h : OwSS w v ls S) : ∀ k ∈ S, k < w.heap.size := RowOf.lt h (fun cs S' h => h.lt)
theorem OwSS.below {w w' : World} {v : Value} {ls : List (List Int)} {S : List Nat} (h : OwSS w v ls S) (hb : Below w.heap.size w w') : OwSS w' v ls S := h.frame (fun k hk => hb.block k (h.lt k hk))
theorem OwRC_mid {w : World} {xs ys : List (List Int)} {l : List Int} {cs : List Value} {S : List Nat} : OwRC w (xs ++ l :: ys) cs S ↔ ∃ c1 v c2 S1 S2, cs = c1 ++ (v :: c2) ∧ S = S1 ++ (own v ++ S2) ∧ OwRC w xs c1 S1 ∧ OwI 0 w v l ∧ OwRC w ys c2 S2 ∧ (∀ k ∈ S1, k ∉ own v ++ S2) ∧ ∀ k ∈ own v, k ∉ S2 := by
  induction xs generalizing cs S with
  | nil =>
    constructor
    · rintro ⟨v, c2, S2, rfl, rfl, h1, h2, hd⟩
      exact ⟨[], v, c2, [], S2, rfl, rfl, ⟨rfl, rfl⟩, h1, h2, (fun k hk => by cases hk), hd⟩
    · rintro ⟨c1, v, c2, S1, S2, rfl, rfl, ⟨rfl, rfl⟩, h2, h3, hd1, hd2⟩
      exact ⟨v, c2, S2, rfl, rfl, h2, h3, hd2⟩
  | cons a xs ih =>
    constructor
    · rintro ⟨u, d2, R2, rfl, rfl, h1, h2, hd⟩
      obtain ⟨c1, v, c2, S1, S2, rfl, rfl, g1, g2, g3, hd1, hd2⟩ := ih.1 h2
      refine ⟨u :: c1, v, c2, own u ++ S1, S2, rfl, by simp, ⟨u, c1, S1, rfl, rfl, h1, g1, fun k hk hk' => hd k hk (List.mem_append_left _ hk')⟩, g2, g3, fun k hk => ?_, hd2⟩
      rcases List.mem_append.1 hk with hk | hk
      · exact fun hk' => hd k hk (List.mem_append_right _ hk')
      · exact hd1 k hk
    · rintro ⟨c1, v, c2, S1, S2, rfl, rfl, h1, h2, h3, hd1, hd2⟩
      obtain ⟨u, c1', R2, rfl, rfl, g1, g2, gd⟩ := h1
      refine ⟨u, c1' ++ (v :: c2), R2 ++ (own v ++ S2), rfl, by simp, g1, ih.2 ⟨c1', v, c2, R2, S2, rfl, rfl, g2, h2, h3, fun k hk => hd1 k (List.mem_append_right _ hk), hd2⟩, fun k hk hk' => ?_⟩
      rcases List.mem_append.1 hk' with hk' | hk'
      · exact gd k hk hk'
      · exact hd1 k (List.mem_append_left _ hk) hk'
/-- An element; and how the whole is owned again when its row has been changed. -/
theorem OwSS.at {w : World} {v : Value} {xs ys : List (List Int)} {l : List Int} {S : List Nat} (h : OwSS w v (xs ++ l :: ys) S) :
    ∃ g cap u, v = .slice (some ⟨g, 0, none⟩) (xs.length + (ys.length + 1)) cap ∧ xs.length + (ys.length + 1) ≤ cap ∧ w.cell? ⟨g, xs.length, none⟩ = some u ∧ OwI 0 w u l ∧ (∀ k ∈ own u, k ∈ S) ∧
      ∀ (w' : World) (l' : List Int), OwI 0 w' u l' → (∀ k ∈ S, k ∉ own u → w'.heap[k]? = w.heap[k]?) → OwSS w' v (xs ++ l' :: ys) S := by
  rcases h with ⟨_, hn, _⟩ | ⟨g, cap, cur, S', hv, hn, hc, hh, hs, hr, rfl, hg⟩
  · simp at hn
  · obtain ⟨c1, u, c2, S1, S2, ecs, rfl, h1, h2, h3, hd1, hd2⟩ := OwRC_mid.1 hr
    have l1 := h1.len
    have hlen : (xs ++ l :: ys).length = xs.length + (ys.length + 1) := by simp
    rw [hlen] at hv hn ecs
    have hcell : w.cell? ⟨g, xs.length, none⟩ = some u := by
      have e : (cur.toList.take ((xs.length + (ys.length + 1)) * 1))[xs.length]? = some u := by
        rw [ecs, List.getElem?_append_right (by omega), l1, Nat.sub_self]
        rfl
      rw [List.getElem?_take] at e
      split at e
      · simp only [World.cell?, hh]
        simpa using e
      · cases e
    have hug : ∀ k ∈ own u, k ∈ S1 ++ (own u ++ S2) := fun k hk => List.mem_append_right _ (List.mem_append_left _ hk)
    refine ⟨g, cap, u, hv, hn, hcell, h2, fun k hk => List.mem_cons_of_mem _ (hug k hk), ?_⟩
    intro w' l' hu' hrest
    have hgu : g ∉ own u := fun e => hg (hug g e)
    have hlen' : (xs ++ l' :: ys).length = xs.length + (ys.length + 1) := by simp
    refine .inr ⟨g, cap, cur, S1 ++ (own u ++ S2), by rw [hv, hlen'], by rw [hlen']; exact hn, hc, (hrest g List.mem_cons_self hgu).trans hh, hs, ?_, rfl, hg⟩
    rw [hlen', ecs]
    exact OwRC_mid.2 ⟨c1, u, c2, S1, S2, rfl, rfl, h1.frame (fun k hk => hrest k (List.mem_cons_of_mem _ (List.mem_append_left _ hk)) (fun e => hd1 k hk (List.mem_append_left _ e))), hu', h3.frame (fun k hk => hrest k (List.mem_cons_of_mem _ (List.mem_append_right _ (List.mem_append_right _ hk))) (fun e => hd2 k e hk)), hd1, hd2⟩

/-! ### read -/
abbrev kII : Kd (List Int) := Kd.slice 3 (Kd.int .i64)
def RdSS (w : World) (v : Value) (ls : List (List Int)) : Prop := ∃ A c, v = .slice A ls.length c ∧ ls.length ≤ c ∧ Kd.C kII w A ls.length ls
theorem RdSS.below {w w' : World} {v : Value} {l : List (List Int)} (h : RdSS w v l) (hb : Below w.heap.size w w') : RdSS w' v l := by
  obtain ⟨A, c, e, hc, hr⟩ := h
  exact ⟨A, c, e, hc, Kd.C_below hr hb⟩
theorem OwRC.rd {w : World} {ls : List (List Int)} {cs : List Value} {S : List Nat} (h : OwRC w ls cs S) : ∀ (j : Nat) l, ls[j]? = some l → ∃ u, cs[j]? = some u ∧ OwI 0 w u l := by
  induction ls generalizing cs S with
  | nil => intro j l hj; simp at hj
  | cons l0 ls ih =>
    obtain ⟨v, cs', S', rfl, rfl, h1, h2, hd⟩ := h
    intro j l hj
    cases j with
    | zero =>
      obtain rfl : l0 = l := by simpa using hj
      exact ⟨v, rfl, h1⟩
    | succ j => exact ih h2 j l (by simpa using hj)
theorem OwSS.rd {w : World} {v : Value} {ls : List (List Int)} {S : List Nat} (h : OwSS w v ls S) : RdSS w v ls := by
  rcases h with ⟨rfl, hn, _⟩ | ⟨g, cap, cur, S', rfl, hn, hc, hh, hs, hr, rfl, hg⟩
  · obtain rfl : ls = [] := List.length_eq_zero_iff.1 hn
    exact ⟨none, 0, rfl, Nat.le_refl _, ⟨rfl, by simp, fun h => by simp at h⟩⟩
  · refine ⟨some ⟨g, 0, none⟩, cap, rfl, hn, ⟨rfl, by unfold maxLen at hc; omega, fun _ => ⟨_, rfl, ?_⟩⟩⟩
    intro j l hj
    obtain ⟨u, hu, hI⟩ := hr.rd j l hj
    obtain ⟨A, c, rfl, hcl, hC⟩ := OwI.rd hI
    refine ⟨[.slice A l.length c], rfl, ⟨A, c, rfl, hcl, hC⟩, fun i x hi => ?_⟩
    obtain rfl : i = 0 := by
      have := (List.getElem?_eq_some_iff.1 hi).1
      simp at this
      exact this
    obtain rfl : Value.slice A l.length c = x := by simpa using hi
    rw [List.getElem?_take] at hu
    split at hu
    · have ha : (⟨g, 0, none⟩ : Addr).add (j * (Kd.sz kII) + 0) = ⟨g, j, none⟩ := by
        have e : j * (Kd.sz kII) + 0 = j := by show j * 1 + 0 = j; omega
        rw [e]
        unfold Addr.add
        split
        · rename_i e; rw [e]
        · simp
      show w.cell? ((⟨g, 0, none⟩ : Addr).add (j * (Kd.sz kII) + 0)) = _
      rw [ha]
      simp only [World.cell?, hh]
      simpa using hu
    · cases hu

/-! ### marks -/
def sumL : List (List Int) → Nat
  | [] => 0
  | l :: ls => l.length + sumL ls
def mkSS : List (List Int) → Nat → List (List Int)
  | [], _ => []
  | l :: ls, k => upFrom k l.length :: mkSS ls (k + l.length)
theorem mkSS_len (ls : List (List Int)) (k : Nat) : (mkSS ls k).length = ls.length := by
  induction ls generalizing k with
  | nil => rfl
  | cons l ls ih => simp [mkSS, ih]
theorem sumL_append (xs ys : List (List Int)) : sumL (xs ++ ys) = sumL xs + sumL ys := by
  induction xs with
  | nil => simp [sumL]
  | cons l ls ih => simp only [List.cons_append, sumL, ih]; omega
theorem mkSS_append (xs ys : List (List Int)) (k : Nat) : mkSS (xs ++ ys) k = mkSS xs k ++ mkSS ys (k + sumL xs) := by
  induction xs generalizing k with
  | nil => simp [mkSS, sumL]
  | cons l ls ih => simp only [List.cons_append, mkSS, sumL, ih, Nat.add_assoc]
/-- markIntS over a row of one's own. -/
theorem markI (v : Value) (l : List Int) (k : Nat) (hk : k + l.length ≤ 4611686018427387904) (w : World) (h : OwI 0 w v l) :
    Calls Try.prog 24 #[v, .int .i64 k] w fun e w' => e = .returned (.int .i64 (k + l.length : Nat)) ∧ OwI 0 w' v (upFrom k l.length) ∧ Stirs (own v) w w' := by
  obtain ⟨n, hn⟩ := (markIntS_ev l k (by omega) (by omega)).rounds
  have hB : Below ({ w with heap := #[] } : World).heap.size ({ w with heap := #[] } : World) w := ⟨rfl, rfl, rfl, Nat.zero_le _, fun k hk => absurd hk (Nat.not_lt_zero _)⟩
  refine (laws_markIntS.calls n (Fp v) v l k _ _ { w with heap := #[] } w hB h hn).mono ?_
  rintro e w' ⟨rfl, ho, hb, hk⟩
  refine ⟨by rw [Int.natCast_add], OwI.of ho, ⟨hb.os, hb.tape, hb.output, hk.1, fun j hj hs => hk.2 j hj (fun e => hs (own_iff.2 e))⟩⟩
set_option maxHeartbeats 1000000 in
set_option maxRecDepth 100000 in
theorem markSS (ls : List (List Int)) (v : Value) (S : List Nat) (k : Nat) (w : World) (hw : OwSS w v ls S) (hk : k + sumL ls ≤ 4611686018427387904) :
    Calls Try.prog 25 #[v, .int .i64 k] w fun e w' => e = .returned (.int .i64 (k + sumL ls : Nat)) ∧ OwSS w' v (mkSS ls k) S ∧ Stirs S w w' := by
  have HW := Lib.hid hw
  obtain ⟨A, c, rfl, hc, hC⟩ := hw.rd
  have hl := hC.2.1
  clear hw hC
  go_enter Try.func25, Try.ntmps25
  go_wp2_with fail
  go_loopw [1, 5] (fun q i wr => ∃ j : Nat, j ≤ ls.length ∧ i = .int .i64 j ∧ q = .int .i64 (k + sumL (ls.take j) : Nat) ∧ Aside0 (OwSS wr (.slice A ls.length c) (mkSS (ls.take j) k ++ ls.drop j) S) ∧ Aside0 (Stirs S w wr)) (fun _ i _ => ls.length - (intOf i).toNat)
  case atStart => exact ⟨0, Nat.zero_le _, rfl, by simp [sumL], ⟨by simpa [mkSS] using HW.out⟩, ⟨Stirs.refl _ _⟩⟩
  case round =>
    obtain ⟨j, hj, rfl, rfl, hO, hF⟩ := hrel
    by_cases hlt2 : j < ls.length
    · have ho := hO.out
      have hd : ls.drop j = ls[j] :: ls.drop (j + 1) := (List.getElem_cons_drop hlt2).symm
      rw [hd] at ho
      have hm : (mkSS (ls.take j) k).length = j := by rw [mkSS_len, List.length_take]; omega
      have hdl : j + ((ls.drop (j + 1)).length + 1) = ls.length := by rw [List.length_drop]; omega
      have hstep : mkSS (ls.take (j + 1)) k = mkSS (ls.take j) k ++ [upFrom ((k + sumL (ls.take j) : Nat) : Int) ls[j].length] := by
        rw [List.take_succ_eq_append_getElem hlt2, mkSS_append]
        simp [mkSS]
      have hsum : sumL (ls.take (j + 1)) = sumL (ls.take j) + ls[j].length := by
        rw [List.take_succ_eq_append_getElem hlt2, sumL_append]
        simp [sumL]
      have hle : sumL (ls.take j) + ls[j].length + sumL (ls.drop (j + 1)) = sumL ls := by
        have e : sumL (ls.take j ++ ls[j] :: ls.drop (j + 1)) = sumL ls := by rw [List.getElem_cons_drop, List.take_append_drop]
        rw [sumL_append] at e
        simp only [sumL] at e
        omega
      generalize ls[j] = l at *
      obtain ⟨g, cap, u, hv, hcap, hcell, hu, huS, hback⟩ := OwSS.at ho
      rw [hm] at hv hcap hcell
      rw [hdl] at hv hcap
      injection hv with eA _ ec
      subst eA
      subst ec
      generalize hq : k + sumL (ls.take j) = q at *
      have hb1 : q + l.length ≤ 4611686018427387904 := by omega
      have HBACK := Lib.hid hback
      have HU := Lib.hid hu
      have HSTEP := Lib.hid hstep
      have HSUM := Lib.hid hsum
      clear hback hstep hd ho hu hsum hle
      go_wp2_with fail
      refine (markI u l q hb1 _ HU.out).mono ?_
      rintro e W1 ⟨rfl, hu1, t1⟩
      have HF := Lib.hid (HBACK.out W1 _ hu1 (fun k hk hn => t1.block k (hO.out.lt k hk) hn))
      have HT := Lib.hid (hF.out.trans (t1.sub huS))
      clear hu1 t1 hcell
      go_wp2_with fail
      go_roundw
      case rel =>
        refine ⟨j + 1, by omega, by go_num, ?_, ⟨?_⟩, ⟨HT.out⟩⟩
        · rw [HSUM.out, ← hq]; congr 1; omega
        · rw [HSTEP.out, List.append_assoc]
          exact HF.out
      case measure => simp [intOf]; omega
    · obtain rfl : j = ls.length := by omega
      have ho := hO.out
      rw [List.take_length, List.drop_length, List.append_nil] at ho
      rw [List.take_length]
      have HO := Lib.hid ho
      clear ho
      go_wp2_with fail
      go_ret
      exact ⟨rfl, HO.out, hF.out⟩
end Go.Proofs.Ytfnkobcmhbdcoaa.Rows2
end
section
/- Rows of integers that are being gathered into a row of the call's own. -/

namespace Go.Proofs.Ytfnkobcmhbdcoaa.GathR
open Go.RowKit Go.Proofs.YtfnkobcmhbdcoaaW.PrintWords Go.Proofs.YtfnkobcmhbdcoaaW.PrintLast Go.Proofs.Ytfnkobcmhbdcoaa.Base Go.Proofs.Ytfnkobcmhbdcoaa.XTypes Go.Proofs.Ytfnkobcmhbdcoaa.XInts Go.Proofs.Ytfnkobcmhbdcoaa.PureInts Go.Proofs.Ytfnkobcmhbdcoaa.Typed Go.Proofs.Ytfnkobcmhbdcoaa.Trees Go.Proofs.Ytfnkobcmhbdcoaa.MarkT Go.Proofs.Ytfnkobcmhbdcoaa.Rows2
set_option linter.unusedVariables false
set_option linter.unusedSimpArgs false
set_option linter.unnecessarySimpa false

/-- The blocks of some rows. -/
def blks (vs : List Value) : List Nat := vs.flatMap own
theorem blks_append (vs us : List Value) : blks (vs ++ us) = blks vs ++ blks us := List.flatMap_append
theorem blks_one (u : Value) : blks [u] = own u := by simp [blks]
theorem OwRC.blks {w : World} {ls : List (List Int)} {vs : List Value} {S : List Nat} (h : OwRC w ls vs S) : S = blks vs := by
  induction ls generalizing vs S with
  | nil => rw [h.1, h.2]; rfl
  | cons l ls ih =>
    obtain ⟨v, cs', S', rfl, rfl, _, h2, _⟩ := h
    rw [ih h2]
    simp [GathR.blks]
/-- What is so while rows are gathered from block B on: they are owned, apart, and so is the row that holds them. -/
structure Ga (B : Nat) (vout : Value) (ls : List (List Int)) (vs : List Value) (W : World) : Prop where
  rows : OwRC W ls vs (blks vs)
  out : Kd.R (Kd.raw 1) 24 W B (fun k => some k = vout.ownBlock) vout (vs.map fun v => [v])
  far : ∀ k ∈ blks vs, B ≤ k
  outs : ∀ k, vout.ownBlock = some k → k ∉ blks vs
theorem Ga.len {B : Nat} {vout : Value} {ls : List (List Int)} {vs : List Value} {W : World} (h : Ga B vout ls vs W) : vs.length = ls.length := h.rows.len
theorem Ga.lt {B : Nat} {vout : Value} {ls : List (List Int)} {vs : List Value} {W : World} (h : Ga B vout ls vs W) : ∀ k ∈ blks vs, k < W.heap.size := h.rows.lt
theorem Ga.out_lt {B : Nat} {vout : Value} {ls : List (List Int)} {vs : List Value} {W : World} (h : Ga B vout ls vs W) {k : Nat} (hk : vout.ownBlock = some k) : k < W.heap.size := Kd.R_lt h.out k hk
theorem Ga.step {B : Nat} {vout : Value} {ls : List (List Int)} {vs : List Value} {W W1 : World} (h : Ga B vout ls vs W) (h1 : ∀ k ∈ blks vs, W1.heap[k]? = W.heap[k]?) (h2 : ∀ k, vout.ownBlock = some k → W1.heap[k]? = W.heap[k]?) : Ga B vout ls vs W1 :=
  ⟨h.rows.frame h1, Kd.R_step h.out (fun k hk _ => h2 k hk.symm), h.far, h.outs⟩
theorem Ga.below {B : Nat} {vout : Value} {ls : List (List Int)} {vs : List Value} {W W1 : World} (h : Ga B vout ls vs W) (hb : Below W.heap.size W W1) : Ga B vout ls vs W1 :=
  h.step (fun k hk => hb.block k (h.lt k hk)) (fun k hk => hb.block k (h.out_lt hk))
theorem Ga.grown {B : Nat} {vout : Value} {ls : List (List Int)} {vs : List Value} {W W1 : World} (h : Ga B vout ls vs W) {r : Option Nat} (hg : W.grownBy W1 r) (h1 : ∀ k, r = some k → k ∉ blks vs ∧ vout.ownBlock ≠ some k) : Ga B vout ls vs W1 :=
  h.step (fun k hk => hg.block k (h.lt k hk) (fun e => (h1 k e.symm).1 hk)) (fun k hk => hg.block k (h.out_lt hk) (fun e => (h1 k e.symm).2 hk))
theorem Ga.kept {B : Nat} {vout : Value} {ls : List (List Int)} {vs : List Value} {W W1 : World} {P : Nat → Prop} (h : Ga B vout ls vs W) (hk : Kept W W1 P) (h1 : ∀ k, P k → k ∉ blks vs ∧ vout.ownBlock ≠ some k) : Ga B vout ls vs W1 :=
  h.step (fun k hb => hk.2 k (h.lt k hb) (fun hp => (h1 k hp).1 hb)) (fun k hb => hk.2 k (h.out_lt hb) (fun hp => (h1 k hp).2 hb))
/-- One more row. -/
theorem Ga.push {B base : Nat} {vout v1 u : Value} {ls : List (List Int)} {vs : List Value} {W W1 : World} {nx : List Int} {ok : Nat → Prop} (h : Ga B vout ls vs W) (hn : OwI base W u nx) (hf : ∀ k, Fp u k → B ≤ k ∧ k ∉ blks vs ∧ vout.ownBlock ≠ some k)
    (ho : Kd.R (Kd.raw 1) 24 W1 B ok v1 ((vs.map fun v => [v]) ++ [[u]])) (hg : W.grownBy W1 vout.ownBlock) (hat : v1.ownBlock = vout.ownBlock ∨ ∃ b, v1.ownBlock = some b ∧ W.heap.size ≤ b) : Ga B v1 (ls ++ [nx]) (vs ++ [u]) W1 := by
  refine ⟨?_, ?_, fun k hk => ?_, fun k hk => ?_⟩
  · have e : blks (vs ++ [u]) = blks vs ++ (own u ++ []) := by rw [blks_append, blks_one]; simp
    rw [e]
    refine OwRC_mid.2 ⟨vs, u, [], blks vs, [], rfl, rfl, h.rows.frame (fun k hk => hg.block k (h.rows.lt k hk) (fun e => (h.outs k e.symm) hk)), ?_, ⟨rfl, rfl⟩, fun k hk hk' => ?_, fun k _ hk => by cases hk⟩
    · exact (hn.step (fun k hk hlt => hg.block k hlt (fun e => (hf k hk).2.2 e.symm))).lower (Nat.zero_le _)
    · simp at hk'
      exact (hf k (own_iff.1 hk')).2.1 hk
  · have := Kd.raw_tight ho
    simpa using this
  · rw [blks_append, blks_one] at hk
    rcases List.mem_append.1 hk with hk | hk
    · exact h.far k hk
    · exact (hf k (own_iff.1 hk)).1
  · rw [blks_append, blks_one]
    rcases hat with hat | ⟨b, hb', hle⟩
    · rw [hat] at hk
      intro hs
      rcases List.mem_append.1 hs with hs | hs
      · exact (h.outs k hk) hs
      · exact (hf k (own_iff.1 hs)).2.2 hk
    · rw [hb'] at hk
      injection hk with hk
      subst hk
      intro hs
      rcases List.mem_append.1 hs with hs | hs
      · have := h.rows.lt _ hs; omega
      · have := (hn.lt (own_iff.1 hs)).2; omega
theorem Ga.owss {B : Nat} {W : World} {vout : Value} {ls : List (List Int)} {vs : List Value} (h : Ga B vout ls vs W) : ∃ S', OwSS W vout ls S' ∧ ∀ k ∈ S', B ≤ k := by
  obtain ⟨_, inner, ho, hr⟩ := h.out
  have hin : inner = vs := by
    have key : ∀ (vs inner : List Value), Reps (fun x cs => cs = x ∧ cs.length = 1 ∧ ∀ u ∈ cs, u.oneCell' = true) 1 (vs.map fun v => [v]) inner → inner = vs := by
      intro vs
      induction vs with
      | nil =>
        intro inner h
        have := h.1
        simp at this
        exact this
      | cons v vs ih =>
        intro inner h
        have h0 := (h.2 0 [v] rfl).1
        have hl := h.1
        simp only [List.map_cons, List.length_cons, List.length_map] at hl
        have h1 : inner.drop 1 = vs := by
          refine ih _ ⟨by simp [hl], fun j p hj => ?_⟩
          have := h.2 (j + 1) p (by simpa using hj)
          rw [List.drop_drop]
          have e : 1 + j * 1 = (j + 1) * 1 := by omega
          rw [e]
          exact this
        have h2 : inner.take 1 = [v] := by simpa using h0
        rw [← List.take_append_drop 1 inner, h1, h2]
        rfl
    exact key vs inner hr
  rw [hin] at ho
  have hlv := h.rows.len
  have hl : (vs.map fun v => [v]).length = ls.length := by rw [List.length_map, hlv]
  rw [hl] at ho
  rcases ho.2 with ⟨rfl, hn⟩ | ⟨g, cap, cur, rfl, hb, hh, hc, hm, hs, ht⟩
  · refine ⟨[], .inl ⟨rfl, hn, rfl⟩, fun k hk => by cases hk⟩
  · refine ⟨g :: blks vs, .inr ⟨g, cap, cur, blks vs, rfl, hc, hm, hh, hs, ?_, rfl, h.outs g rfl⟩, fun k hk => ?_⟩
    · have ht' : cur.toList.take (ls.length * 1) = vs := ht
      rw [ht']
      exact h.rows
    · rcases List.mem_cons.1 hk with rfl | hk
      · exact hb
      · exact h.far k hk
/-- The cells of the gathered row. -/
theorem Ga.cell {B : Nat} {W : World} {vout : Value} {ls : List (List Int)} {vs : List Value} (h : Ga B vout ls vs W) {j : Nat} (hj : j < ls.length) : ∃ g cap u, vout = .slice (some ⟨g, 0, none⟩) ls.length cap ∧ ls.length ≤ cap ∧ vs[j]? = some u ∧ W.cell? ⟨g, j, none⟩ = some u ∧ OwI 0 W u (ls.getD j []) := by
  obtain ⟨_, inner, ho, hr⟩ := h.out
  have hlv := h.rows.len
  have hl : (vs.map fun v => [v]).length = ls.length := by rw [List.length_map, hlv]
  obtain ⟨u, hu, hI⟩ := h.rows.rd j ls[j] (by simp [hj])
  rw [hl] at ho
  rcases ho.2 with ⟨rfl, hn⟩ | ⟨g, cap, cur, rfl, hb, hh, hc, hm, hs, ht⟩
  · omega
  · refine ⟨g, cap, u, rfl, hc, hu, ?_, by simpa [hj] using hI⟩
    have h0 : (inner.drop (j * 1)).take 1 = [u] := (hr.2 j [u] (by simp [hu])).1
    have ht' : cur.toList.take (ls.length * 1) = inner := ht
    have h1 : inner[j]? = some u := by
      have : (((inner.drop (j * 1)).take 1)[0]?) = some u := by rw [h0]; rfl
      simpa using this
    rw [← ht', List.getElem?_take] at h1
    split at h1
    · simp only [World.cell?, hh]
      simpa using h1
    · cases h1
/-- A new, empty row. -/
theorem Ga.new {B n : Nat} {W : World} (hn : B ≤ n) (hg : W.heap[n]? = some (.cells #[] 24 (0, 0))) : Ga B (.slice (some ⟨n, 0, none⟩) 0 0) [] [] W :=
  ⟨⟨rfl, rfl⟩, ⟨fun k hk => hk.symm, [], ⟨rfl, .inr ⟨n, 0, #[], rfl, hn, hg, Nat.le_refl _, by decide, rfl, rfl⟩⟩, Reps.none _ _⟩, (fun k hk => by cases hk), fun k _ h => by cases h⟩
theorem Ga.nil (B : Nat) (W : World) : Ga B (.slice none 0 0) [] [] W :=
  ⟨⟨rfl, rfl⟩, ⟨fun k hk => hk.symm, [], ⟨rfl, .inl ⟨rfl, rfl⟩⟩, Reps.none _ _⟩, (fun k hk => by cases hk), fun k h => by cases h⟩
theorem Ga.rd {B : Nat} {W : World} {vout : Value} {ls : List (List Int)} {vs : List Value} (h : Ga B vout ls vs W) : RdSS W vout ls := by
  obtain ⟨S, ho, _⟩ := h.owss
  exact ho.rd
theorem Ga.mem {B : Nat} {W : World} {vout : Value} {ls : List (List Int)} {vs : List Value} (h : Ga B vout ls vs W) {j : Nat} {u : Value} (hu : vs[j]? = some u) : ∀ k ∈ own u, k ∈ blks vs ∧ k ∉ blks (vs.take j) := by
  have hj : j < vs.length := (List.getElem?_eq_some_iff.1 hu).1
  have hjl : j < ls.length := by rw [← h.len]; exact hj
  have e : ls = ls.take j ++ ls[j] :: ls.drop (j + 1) := by rw [List.getElem_cons_drop, List.take_append_drop]
  have hr := h.rows
  rw [e] at hr
  obtain ⟨c1, v, c2, S1, S2, e1, e2, h1, h2, h3, hd1, hd2⟩ := OwRC_mid.1 hr
  have l1 := h1.len
  have hl1 : c1.length = j := by rw [l1, List.length_take]; omega
  have ev : v = u := by
    rw [e1, List.getElem?_append_right (by omega), hl1, Nat.sub_self] at hu
    simpa using hu
  subst ev
  have et : vs.take j = c1 := by rw [e1, ← hl1, List.take_left]
  intro k hk
  rw [et, ← OwRC.blks h1]
  exact ⟨by rw [e2]; exact List.mem_append_right _ (List.mem_append_left _ hk), fun hs => hd1 k hs (List.mem_append_left _ hk)⟩
end Go.Proofs.Ytfnkobcmhbdcoaa.GathR
end
section
/- Plain mathematics of balanced sums: every part of a least solution is at most the largest factor of the other side. -/
namespace Go.Proofs.Ytfnkobcmhbdcoaa.Dio
set_option linter.unusedVariables false
set_option linter.unusedSimpArgs false

def sm (f : Nat → Int) : Nat → Int
  | 0 => 0
  | n + 1 => sm f n + f n
theorem sm_congr {f g : Nat → Int} {n : Nat} (h : ∀ i, i < n → f i = g i) : sm f n = sm g n := by
  induction n with
  | zero => rfl
  | succ n ih => simp only [sm]; rw [ih (fun i hi => h i (by omega)), h n (by omega)]
theorem sm_nonneg {f : Nat → Int} {n : Nat} (h : ∀ i, i < n → 0 ≤ f i) : 0 ≤ sm f n := by
  induction n with
  | zero => simp [sm]
  | succ n ih =>
    have := ih (fun i hi => h i (by omega))
    have := h n (by omega)
    simp only [sm]; omega
theorem sm_le_of {f : Nat → Int} {n : Nat} (h : ∀ i, i < n → 0 ≤ f i) {i : Nat} (hi : i < n) : f i ≤ sm f n := by
  induction n with
  | zero => omega
  | succ n ih =>
    have h0 := sm_nonneg (fun i hi => h i (by omega) : ∀ i, i < n → 0 ≤ f i)
    have hn := h n (by omega)
    simp only [sm]
    by_cases e : i = n
    · subst e; omega
    · have := ih (fun i hi => h i (by omega)) (by omega); omega
theorem sm_pos {f : Nat → Int} {n : Nat} (h : 0 < sm f n) : ∃ i, i < n ∧ 0 < f i := by
  induction n with
  | zero => simp [sm] at h
  | succ n ih =>
    simp only [sm] at h
    by_cases e : 0 < f n
    · exact ⟨n, by omega, e⟩
    · obtain ⟨i, hi, hp⟩ := ih (by omega)
      exact ⟨i, by omega, hp⟩
theorem sm_neg {f : Nat → Int} {n : Nat} (h : sm f n < 0) : ∃ i, i < n ∧ f i < 0 := by
  induction n with
  | zero => simp [sm] at h
  | succ n ih =>
    simp only [sm] at h
    by_cases e : f n < 0
    · exact ⟨n, by omega, e⟩
    · obtain ⟨i, hi, hp⟩ := ih (by omega)
      exact ⟨i, by omega, hp⟩
theorem sm_zero {f : Nat → Int} {n : Nat} (h : ∀ i, i < n → f i ≤ 0) (h0 : 0 ≤ sm f n) : ∀ i, i < n → f i = 0 := by
  intro i hi
  have h1 := sm_le_of (f := fun i => - f i) (n := n) (fun i hi => by have := h i hi; omega) hi
  have h2 : sm (fun i => - f i) n = - sm f n := by
    clear h h0 h1 hi
    induction n with
    | zero => simp [sm]
    | succ n ih => simp only [sm]; omega
  have := h i hi
  simp only [h2] at h1
  omega
theorem sm_sub (f g : Nat → Int) (n : Nat) : sm (fun i => f i - g i) n = sm f n - sm g n := by
  induction n with
  | zero => simp [sm]
  | succ n ih => simp only [sm]; omega
theorem sm_neg_fn (f : Nat → Int) (n : Nat) : sm (fun i => - f i) n = - sm f n := by
  induction n with
  | zero => simp [sm]
  | succ n ih => simp only [sm]; omega
theorem sm_zero_fn (n : Nat) : sm (fun _ => 0) n = 0 := by
  induction n with
  | zero => rfl
  | succ n ih => simp only [sm, ih]; omega
/-- One more at i. -/
def bump (v : Nat → Int) (i : Nat) : Nat → Int := fun k => if k = i then v k + 1 else v k
theorem sm_point {f g : Nat → Int} {n i : Nat} {d : Int} (hi : i < n) (h : ∀ k, k ≠ i → g k = f k) (hd : g i = f i + d) : sm g n = sm f n + d := by
  induction n with
  | zero => omega
  | succ n ih =>
    simp only [sm]
    by_cases e : i = n
    · subst e
      rw [sm_congr (f := g) (g := f) (fun k hk => h k (by omega)), hd]; omega
    · rw [ih (by omega), h n (fun e' => e e'.symm)]; omega
def le (n : Nat) (u v : Nat → Int) : Prop := ∀ i, i < n → u i ≤ v i
def lt (n : Nat) (u v : Nat → Int) : Prop := le n u v ∧ ∃ i, i < n ∧ u i < v i
def val (c u : Nat → Int) (n : Nat) : Int := sm (fun i => c i * u i) n
theorem val_bump (c v : Nat → Int) {n i : Nat} (hi : i < n) : val c (bump v i) n = val c v n + c i := by
  unfold val
  refine sm_point hi (fun k hk => ?_) ?_
  · simp [bump, hk]
  · simp [bump, Int.mul_add]
theorem val_sub (c u v : Nat → Int) (n : Nat) : val c (fun i => u i - v i) n = val c u n - val c v n := by
  unfold val
  rw [← sm_sub]
  exact sm_congr (fun i _ => by rw [Int.mul_sub])
/-- The way from v to x in single steps: a step up only where the sum is not above zero, a step down only where it is. The places where it steps up. -/
theorem chain (n : Nat) (c x : Nat → Int) (P : Int) (hc : ∀ i, i < n → c i ≠ 0) (hP : ∀ i, i < n → - c i ≤ P) (hx : val c x n = 0) :
    ∀ (m : Nat) (v : Nat → Int), le n v x → sm (fun i => x i - v i) n = m → -P < val c v n →
    ∃ L : List (Nat → Int), (L.length : Int) = sm (fun i => if 0 < c i then x i - v i else 0) n ∧ (∀ u ∈ L, le n v u ∧ lt n u x ∧ -P < val c u n ∧ val c u n ≤ 0) ∧ L.Pairwise (lt n) := by
  intro m
  induction m with
  | zero =>
    intro v hv hm hs
    have h0 : ∀ i, i < n → x i - v i = 0 := by
      intro i hi
      have h1 := sm_le_of (f := fun i => x i - v i) (n := n) (fun i hi => by have := hv i hi; omega) hi
      have := hv i hi
      simp only [hm] at h1
      omega
    refine ⟨[], ?_, by simp, List.Pairwise.nil⟩
    rw [sm_congr (g := fun _ => 0) (fun i hi => by (try simp only []); rw [h0 i hi]; simp), sm_zero_fn]
    rfl
  | succ m ih =>
    intro v hv hm hs
    have hd := val_sub c x v n
    have hup : ∀ i, i < n → v i < x i → le n v (bump v i) ∧ le n (bump v i) x ∧ sm (fun k => x k - bump v i k) n = m := by
      intro i hi hlt
      refine ⟨fun k hk => ?_, fun k hk => ?_, ?_⟩
      · unfold bump; split <;> omega
      · unfold bump; split
        · rename_i e; subst e; omega
        · exact hv k hk
      · have := sm_point (f := fun k => x k - v k) (g := fun k => x k - bump v i k) (d := -1) hi (fun k hk => by simp [bump, hk]) (by simp [bump]; omega)
        omega
    by_cases hs0 : val c v n ≤ 0
    · obtain ⟨i, hi, hp⟩ : ∃ i, i < n ∧ 0 < c i * (x i - v i) := by
        apply Classical.byContradiction
        intro hno
        have hle : ∀ i, i < n → c i * (x i - v i) ≤ 0 := fun i hi => by
          apply Int.not_lt.1
          intro hlt
          exact hno ⟨i, hi, hlt⟩
        have hz := sm_zero hle (by show 0 ≤ val c (fun i => x i - v i) n; omega)
        obtain ⟨j, hj, hjp⟩ := sm_pos (f := fun i => x i - v i) (n := n) (by omega)
        have := hz j hj
        rcases Int.mul_eq_zero.1 this with h | h
        · exact hc j hj h
        · omega
      have hvi := hv i hi
      have hci : 0 < c i := by
        apply Int.not_le.1
        intro hle
        have := Int.mul_nonpos_of_nonpos_of_nonneg hle (show 0 ≤ x i - v i by omega)
        omega
      have hlt : v i < x i := by
        apply Int.not_le.1
        intro hle
        have e : x i - v i = 0 := by omega
        rw [e] at hp
        simp at hp
      obtain ⟨h1, h2, h3⟩ := hup i hi hlt
      have hb := val_bump c v hi
      obtain ⟨L, hL, hin, hpw⟩ := ih (bump v i) h2 h3 (by omega)
      refine ⟨v :: L, ?_, ?_, ?_⟩
      · have := sm_point (f := fun k => if 0 < c k then x k - v k else 0) (g := fun k => if 0 < c k then x k - bump v i k else 0) (d := -1) hi (fun k hk => by simp [bump, hk]) (by simp [bump, hci]; omega)
        simp only [List.length_cons]
        omega
      · intro u hu
        rcases List.mem_cons.1 hu with rfl | hu
        · exact ⟨fun _ _ => Int.le_refl _, ⟨hv, i, hi, hlt⟩, hs, hs0⟩
        · obtain ⟨g1, g2⟩ := hin u hu
          exact ⟨fun k hk => Int.le_trans (h1 k hk) (g1 k hk), g2⟩
      · refine List.Pairwise.cons (fun u hu => ?_) hpw
        have g1 := (hin u hu).1
        refine ⟨fun k hk => Int.le_trans (h1 k hk) (g1 k hk), i, hi, ?_⟩
        have := g1 i hi
        simp [bump] at this
        omega
    · obtain ⟨i, hi, hp⟩ := sm_neg (f := fun i => c i * (x i - v i)) (n := n) (by show val c (fun i => x i - v i) n < 0; omega)
      have hvi := hv i hi
      have hci : c i < 0 := by
        apply Int.not_le.1
        intro hle
        have := Int.mul_nonneg hle (show 0 ≤ x i - v i by omega)
        omega
      have hlt : v i < x i := by
        apply Int.not_le.1
        intro hle
        have e : x i - v i = 0 := by omega
        simp only [e] at hp
        simp at hp
      obtain ⟨h1, h2, h3⟩ := hup i hi hlt
      have hb := val_bump c v hi
      have hPi := hP i hi
      obtain ⟨L, hL, hin, hpw⟩ := ih (bump v i) h2 h3 (by omega)
      refine ⟨L, ?_, ?_, hpw⟩
      · rw [hL]
        apply sm_congr
        intro k hk
        (try simp only [])
        by_cases e : k = i
        · subst e; rw [if_neg (by omega), if_neg (by omega)]
        · simp [bump, e]
      · intro u hu
        obtain ⟨g1, g2⟩ := hin u hu
        exact ⟨fun k hk => Int.le_trans (h1 k hk) (g1 k hk), g2⟩

theorem nodup_le (P : Nat) : ∀ (l : List Int), l.Nodup → (∀ x ∈ l, 0 ≤ x ∧ x < P) → l.length ≤ P := by
  induction P with
  | zero =>
    intro l _ h
    cases l with
    | nil => simp
    | cons a l => have := h a List.mem_cons_self; omega
  | succ P ih =>
    intro l hn h
    by_cases hm : (P : Int) ∈ l
    · have h1 := List.length_erase_of_mem hm
      have h2 := ih (l.erase (P : Int)) (hn.erase _) (fun x hx => by
        have hx' := (List.Nodup.mem_erase_iff hn).1 hx
        have := h x hx'.2
        have := hx'.1
        omega)
      omega
    · have := ih l hn (fun x hx => by
        have := h x hx
        have : x ≠ P := fun e => hm (e ▸ hx)
        omega)
      omega

/-- Nothing but x itself lies under x. -/
def Mini (n : Nat) (c x : Nat → Int) : Prop := ∀ y, le n (fun _ => 0) y → le n y x → (∃ i, i < n ∧ 0 < y i) → val c y n = 0 → ∀ i, i < n → y i = x i
theorem small (n : Nat) (c x : Nat → Int) (P : Nat) (hP0 : 0 < P) (hc : ∀ i, i < n → c i ≠ 0) (hP : ∀ i, i < n → - c i ≤ P) (hx : val c x n = 0) (h0 : le n (fun _ => 0) x) (hm : Mini n c x) {i : Nat} (hi : i < n) (hci : 0 < c i) : x i ≤ P := by
  have hv0 : val c (fun _ => 0) n = 0 := by
    unfold val
    rw [sm_congr (g := fun _ => 0) (fun i _ => by simp), sm_zero_fn]
  obtain ⟨m, hmm⟩ : ∃ m : Nat, sm (fun i => x i - (fun _ => 0) i) n = m := by
    have := sm_nonneg (f := fun i => x i - (fun _ => (0 : Int)) i) (n := n) (fun i hi => by have := h0 i hi; (try simp only [] at this ⊢); omega)
    exact ⟨_, (Int.toNat_of_nonneg this).symm⟩
  obtain ⟨L, hL, hin, hpw⟩ := chain n c x P hc hP hx m (fun _ => 0) h0 hmm (by rw [hv0]; omega)
  have hnd : (L.map (fun u => - val c u n)).Nodup := by
    refine List.Pairwise.map _ (fun u u' h => ?_) (List.Pairwise.and_mem.1 hpw)
    obtain ⟨hu, hu', hle, j, hj, hlt⟩ := h
    intro he
    have e : val c (fun i => u' i - u i) n = 0 := by rw [val_sub]; omega
    obtain ⟨g1, g2, _⟩ := hin u hu
    obtain ⟨_, ⟨g3, k, hk, hlt'⟩, _⟩ := hin u' hu'
    have := hm (fun i => u' i - u i) (fun i hi => by have := hle i hi; (try simp only []); omega) (fun i hi => by have := g1 i hi; have := g3 i hi; (try simp only [] at *); omega) ⟨j, hj, by (try simp only []); omega⟩ e k hk
    have := g1 k hk
    (try simp only [] at *)
    omega
  have hlen := nodup_le P _ hnd (fun z hz => by
    obtain ⟨u, hu, rfl⟩ := List.mem_map.1 hz
    obtain ⟨_, _, h1, h2⟩ := hin u hu
    omega)
  rw [List.length_map] at hlen
  have hone := sm_le_of (f := fun i => if 0 < c i then x i - (fun _ => (0 : Int)) i else 0) (n := n) (fun i hi => by
    have := h0 i hi
    (try simp only [] at this ⊢)
    split <;> omega) hi
  simp only [hci, if_true] at hone
  omega
theorem small' (n : Nat) (c x : Nat → Int) (P : Nat) (hP0 : 0 < P) (hc : ∀ i, i < n → c i ≠ 0) (hP : ∀ i, i < n → c i ≤ P) (hx : val c x n = 0) (h0 : le n (fun _ => 0) x) (hm : Mini n c x) {i : Nat} (hi : i < n) (hci : c i < 0) : x i ≤ P := by
  have hneg : ∀ y, val (fun i => - c i) y n = - val c y n := fun y => by
    unfold val
    rw [← sm_neg_fn]
    exact sm_congr (fun i _ => by rw [Int.neg_mul])
  exact small n (fun i => - c i) x P hP0 (fun i hi => by have := hc i hi; (try simp only []); omega) (fun i hi => by have := hP i hi; (try simp only []); omega) (by rw [hneg, hx]; rfl) h0
    (fun y h1 h2 h3 h4 => hm y h1 h2 h3 (by rw [hneg] at h4; omega)) hi (by (try simp only []); omega)
end Go.Proofs.Ytfnkobcmhbdcoaa.Dio
end
section
/- Plain mathematics of the basis: both lists of candidates have the same least elements; each solution is a sum of them. -/

namespace Go.Proofs.Ytfnkobcmhbdcoaa.DioL
open Go.Proofs.Ytfnkobcmhbdcoaa.Dio
set_option linter.unusedVariables false
set_option linter.unusedSimpArgs false

def gt (l : List Int) (i : Nat) : Int := l.getD i 0
theorem gt_lt {l : List Int} {i : Nat} (h : i < l.length) : gt l i = l[i] := by simp [gt, h]
theorem gt_ge {l : List Int} {i : Nat} (h : l.length ≤ i) : gt l i = 0 := by simp [gt, h]
theorem gt_cons_succ (a : Int) (l : List Int) (i : Nat) : gt (a :: l) (i + 1) = gt l i := by simp [gt]
theorem gt_cons_zero (a : Int) (l : List Int) : gt (a :: l) 0 = a := by simp [gt]
theorem gt_ext {x y : List Int} (hl : x.length = y.length) (h : ∀ i, i < x.length → gt x i = gt y i) : x = y := by
  apply List.ext_getElem hl
  intro i h1 h2
  have := h i h1
  rwa [gt_lt h1, gt_lt h2] at this
/-- The list of a function. -/
def tab (n : Nat) (y : Nat → Int) : List Int := (List.range n).map y
@[simp] theorem tab_length (n : Nat) (y : Nat → Int) : (tab n y).length = n := by simp [tab]
theorem gt_tab {n : Nat} {y : Nat → Int} {i : Nat} (h : i < n) : gt (tab n y) i = y i := by
  rw [gt_lt (by simpa using h)]
  simp [tab]

/-! ### all lists under bounds, in order -/
def lexB : List Nat → List (List Int)
  | [] => [[]]
  | b :: bs => (List.range (b + 1)).flatMap fun (k : Nat) => (lexB bs).map fun x => (k : Int) :: x
def withinB : List Nat → List Int → Bool
  | [], [] => true
  | b :: bs, x :: xs => (decide (0 ≤ x) && decide (x ≤ b)) && withinB bs xs
  | _, _ => false
theorem mem_lexB (bs : List Nat) : ∀ x, x ∈ lexB bs ↔ withinB bs x = true := by
  induction bs with
  | nil => intro x; cases x <;> simp [lexB, withinB]
  | cons b bs ih =>
    intro x
    cases x with
    | nil => simp [lexB, withinB]
    | cons x xs =>
      simp only [lexB, List.mem_flatMap, List.mem_range, List.mem_map, withinB, Bool.and_eq_true, decide_eq_true_eq]
      constructor
      · rintro ⟨k, hk, y, hy, he⟩
        injection he with h1 h2
        subst h1; subst h2
        exact ⟨by omega, (ih _).1 hy⟩
      · rintro ⟨h1, h2⟩
        exact ⟨x.toNat, by omega, xs, (ih _).2 h2, by rw [Int.toNat_of_nonneg h1.1]⟩
theorem nodup_lexB (bs : List Nat) : (lexB bs).Nodup := by
  induction bs with
  | nil => simp [lexB]
  | cons b bs ih =>
    unfold lexB
    refine List.pairwise_flatMap.2 ⟨fun k _ => ?_, ?_⟩
    · refine List.Pairwise.map _ (fun a b h => ?_) ih
      intro e
      injection e with _ e
      exact h e
    · refine List.Pairwise.imp ?_ (List.nodup_range (n := b + 1))
      intro a a' hne x hx y hy e
      obtain ⟨x', _, rfl⟩ := List.mem_map.1 hx
      obtain ⟨y', _, rfl⟩ := List.mem_map.1 hy
      injection e with e _
      exact hne (by omega)
theorem withinB_iff (bs : List Nat) : ∀ x, withinB bs x = true ↔ x.length = bs.length ∧ ∀ i, i < x.length → 0 ≤ gt x i ∧ gt x i ≤ (bs.getD i 0 : Nat) := by
  induction bs with
  | nil => intro x; cases x <;> simp [withinB]
  | cons b bs ih =>
    intro x
    cases x with
    | nil => simp [withinB]
    | cons x xs =>
      simp only [withinB, Bool.and_eq_true, decide_eq_true_eq, ih]
      constructor
      · rintro ⟨h1, h2, h3⟩
        refine ⟨by simp [h2], fun i hi => ?_⟩
        cases i with
        | zero => simpa [gt] using h1
        | succ i => simpa [gt] using h3 i (by simpa using hi)
      · rintro ⟨h1, h2⟩
        refine ⟨by simpa [gt] using h2 0 (by simp), by simpa using h1, fun i hi => ?_⟩
        simpa [gt] using h2 (i + 1) (by simpa using hi)
/-- Smaller bounds pick out. -/
def under : List Nat → List Nat → Prop
  | [], [] => True
  | b :: bs, c :: cs => b ≤ c ∧ under bs cs
  | _, _ => False
theorem range_flat {α : Type} (f : Nat → List α) (b : Nat) : ∀ c, b ≤ c → (List.range (c + 1)).flatMap (fun k => if k ≤ b then f k else []) = (List.range (b + 1)).flatMap f := by
  intro c
  induction c with
  | zero =>
    intro h
    obtain rfl : b = 0 := by omega
    simp [List.range_succ]
  | succ c ih =>
    intro h
    by_cases e : b ≤ c
    · rw [List.range_succ, List.flatMap_append, ih e]
      simp; omega
    · obtain rfl : b = c + 1 := by omega
      have : ∀ l : List Nat, (∀ k ∈ l, k ≤ c + 1) → l.flatMap (fun k => if k ≤ c + 1 then f k else []) = l.flatMap f := by
        intro l
        induction l with
        | nil => intro _; rfl
        | cons a l ih =>
          intro h
          simp only [List.flatMap_cons]
          rw [ih (fun k hk => h k (List.mem_cons_of_mem _ hk)), if_pos (h a List.mem_cons_self)]
      exact this _ (fun k hk => by have := List.mem_range.1 hk; omega)
theorem lexB_filter : ∀ (bs cs : List Nat), under bs cs → (lexB cs).filter (withinB bs) = lexB bs := by
  intro bs
  induction bs with
  | nil =>
    intro cs h
    cases cs with
    | nil => rfl
    | cons c cs => exact h.elim
  | cons b bs ih =>
    intro cs h
    cases cs with
    | nil => exact h.elim
    | cons c cs =>
      simp only [lexB, List.filter_flatMap]
      rw [← range_flat (fun (k : Nat) => (lexB bs).map fun x => (k : Int) :: x) b c h.1]
      congr 1
      funext k
      rw [List.filter_map]
      split
      · rename_i hk
        rw [← ih cs h.2]
        congr 1
        apply List.filter_congr
        intro x _
        simp [withinB]
        intro _; omega
      · rename_i hk
        rw [List.map_eq_nil_iff, List.filter_eq_nil_iff]
        intro x _
        simp [withinB]
        omega

/-! ### one list to the next -/
def nextL : List Int → Option (List Int)
  | [] => none
  | x :: xs => match nextL xs with
    | some ys => some (x :: ys)
    | none => if x < 5 then some ((x + 1) :: List.replicate xs.length 0) else none
def Run : List Int → List (List Int) → Prop
  | c, [] => nextL c = none
  | c, d :: ds => nextL c = some d ∧ Run d ds
theorem nextL_len : ∀ (c d : List Int), nextL c = some d → d.length = c.length := by
  intro c
  induction c with
  | nil => intro d h; simp [nextL] at h
  | cons x xs ih =>
    intro d h
    unfold nextL at h
    split at h
    · rename_i ys hy
      injection h with h
      subst h
      simp [ih _ hy]
    · split at h
      · injection h with h
        subst h
        simp
      · cases h
theorem run_last : ∀ (ds : List (List Int)) (c : List Int), Run c ds → Run (5 :: c) (ds.map fun x => 5 :: x) := by
  intro ds
  induction ds with
  | nil => intro c h; simp only [Run] at h; simp [Run, nextL, h]
  | cons d ds ih =>
    intro c h
    obtain ⟨h1, h2⟩ := h
    exact ⟨by simp [nextL, h1], ih d h2⟩
theorem run_next (k : Int) (hk : k < 5) (rest : List (List Int)) (n : Nat) : ∀ (ds : List (List Int)) (c : List Int), c.length = n → Run c ds → Run ((k + 1) :: List.replicate n 0) rest → Run (k :: c) ((ds.map fun x => k :: x) ++ ((k + 1) :: List.replicate n 0) :: rest) := by
  intro ds
  induction ds with
  | nil =>
    intro c hn h hr
    simp only [Run] at h
    exact ⟨by simp [nextL, h, hk, hn], hr⟩
  | cons d ds ih =>
    intro c hn h hr
    obtain ⟨h1, h2⟩ := h
    exact ⟨by simp [nextL, h1], ih d (by rw [nextL_len _ _ h1, hn]) h2 hr⟩
theorem run_lex (n : Nat) : ∃ T, lexB (List.replicate n 5) = List.replicate n 0 :: T ∧ Run (List.replicate n 0) T := by
  induction n with
  | zero => exact ⟨[], rfl, rfl⟩
  | succ n ih =>
    obtain ⟨T, hT, hR⟩ := ih
    have e : List.range 6 = [0, 1, 2, 3, 4, 5] := rfl
    have hz : (List.replicate n (0 : Int)).length = n := by simp
    have r5 := run_last T _ hR
    have r4 := run_next 4 (by omega) _ n T _ hz hR r5
    have r3 := run_next 3 (by omega) _ n T _ hz hR r4
    have r2 := run_next 2 (by omega) _ n T _ hz hR r3
    have r1 := run_next 1 (by omega) _ n T _ hz hR r2
    have r0 := run_next 0 (by omega) _ n T _ hz hR r1
    refine ⟨_, ?_, r0⟩
    simp [List.replicate_succ, lexB, hT, e]

/-! ### solutions, least ones -/
def cf (a b : List Int) : Nat → Int := fun i => if i < a.length then gt a i else - gt b (i - a.length)
def bal (a b x : List Int) : Int := val (cf a b) (gt x) (a.length + b.length)
def zeroB (x : List Int) : Bool := x.all fun k => k == 0
def below (x y : List Int) : Bool := (List.range x.length).all fun i => decide (gt x i ≤ gt y i)
theorem below_iff {x y : List Int} : below x y = true ↔ ∀ i, i < x.length → gt x i ≤ gt y i := by
  unfold below
  rw [List.all_eq_true]
  constructor
  · intro h i hi
    simpa using h i (List.mem_range.2 hi)
  · intro h i hi
    simpa using h i (List.mem_range.1 hi)
def leastB (L : List (List Int)) (x : List Int) : Bool := L.all fun y => (y == x) || !below y x
theorem leastB_iff {L : List (List Int)} {x : List Int} : leastB L x = true ↔ ∀ y ∈ L, below y x = true → y = x := by
  unfold leastB
  rw [List.all_eq_true]
  constructor
  · intro h y hy hb
    have := h y hy
    simpa [hb] using this
  · intro h y hy
    cases hb : below y x with
    | false => simp
    | true => simp [h y hy hb]
def least (L : List (List Int)) : List (List Int) := L.filter (leastB L)
def mostN : List Int → Nat
  | [] => 0
  | x :: xs => max x.toNat (mostN xs)
theorem mostN_ge {l : List Int} {i : Nat} (h : i < l.length) : gt l i ≤ mostN l := by
  induction l generalizing i with
  | nil => simp at h
  | cons x xs ih =>
    cases i with
    | zero => simp only [gt_cons_zero, mostN]; omega
    | succ i =>
      have := ih (i := i) (by simpa using h)
      simp only [gt_cons_succ, mostN]; omega
def solve (a b : List Int) (x : List Int) : Bool := (bal a b x == 0) && !zeroB x
def bnds (a b : List Int) : List Nat := List.replicate a.length (mostN b) ++ List.replicate b.length (mostN a)
def allP (a b : List Int) : List (List Int) := (lexB (List.replicate (a.length + b.length) 5)).filter (solve a b)
def allR (a b : List Int) : List (List Int) := (lexB (bnds a b)).filter (solve a b)
/-- The factors are from 1 to 5. -/
def Fac (l : List Int) : Prop := ∀ i, i < l.length → 1 ≤ gt l i ∧ gt l i ≤ 5
theorem mostN_le {l : List Int} (h : Fac l) : mostN l ≤ 5 := by
  induction l with
  | nil => simp [mostN]
  | cons x xs ih =>
    have h0 := h 0 (by simp)
    have := ih (fun i hi => by have := h (i + 1) (by simpa using hi); rwa [gt_cons_succ] at this)
    rw [gt_cons_zero] at h0
    simp only [mostN]
    omega
theorem mostN_pos {l : List Int} (h : Fac l) (hl : 0 < l.length) : 0 < mostN l := by
  have h0 := h 0 hl
  have := mostN_ge hl
  omega
theorem under_rep : ∀ (n m : Nat), n ≤ m → ∀ k, under (List.replicate k n) (List.replicate k m) := by
  intro n m h k
  induction k with
  | zero => trivial
  | succ k ih => exact ⟨h, ih⟩
theorem under_append : ∀ (a b c d : List Nat), under a b → under c d → under (a ++ c) (b ++ d) := by
  intro a
  induction a with
  | nil =>
    intro b c d h1 h2
    cases b with
    | nil => exact h2
    | cons => exact h1.elim
  | cons x xs ih =>
    intro b c d h1 h2
    cases b with
    | nil => exact h1.elim
    | cons y ys => exact ⟨h1.1, ih ys c d h1.2 h2⟩
theorem under_bnds {a b : List Int} (ha : Fac a) (hb : Fac b) : under (bnds a b) (List.replicate (a.length + b.length) 5) := by
  rw [← List.replicate_append_replicate]
  exact under_append _ _ _ _ (under_rep _ _ (mostN_le hb) _) (under_rep _ _ (mostN_le ha) _)
theorem bnds_get {a b : List Int} (i : Nat) (hi : i < a.length + b.length) : (bnds a b).getD i 0 = if i < a.length then mostN b else mostN a := by
  unfold bnds
  rw [List.getD_eq_getElem?_getD]
  split
  · rename_i h
    rw [List.getElem?_append_left (by simpa using h)]
    simp [h]
  · rename_i h
    rw [List.getElem?_append_right (by simpa using h)]
    simp
    have : i - a.length < b.length := by omega
    simp [this]
theorem cf_ne {a b : List Int} (ha : Fac a) (hb : Fac b) : ∀ i, i < a.length + b.length → cf a b i ≠ 0 := by
  intro i hi
  unfold cf
  split
  · rename_i h; have := ha i h; omega
  · have := hb (i - a.length) (by omega); omega
theorem cf_lo {a b : List Int} (ha : Fac a) (hb : Fac b) : ∀ i, i < a.length + b.length → - cf a b i ≤ (mostN b : Nat) := by
  intro i hi
  unfold cf
  split
  · rename_i h; have := ha i h; omega
  · have := mostN_ge (l := b) (i := i - a.length) (by omega); omega
theorem cf_hi {a b : List Int} (ha : Fac a) (hb : Fac b) : ∀ i, i < a.length + b.length → cf a b i ≤ (mostN a : Nat) := by
  intro i hi
  unfold cf
  split
  · rename_i h; exact mostN_ge h
  · have := hb (i - a.length) (by omega); omega
theorem zeroB_iff {x : List Int} : zeroB x = true ↔ ∀ i, i < x.length → gt x i = 0 := by
  unfold zeroB
  rw [List.all_eq_true]
  constructor
  · intro h i hi
    rw [gt_lt hi]
    simpa using h _ (List.getElem_mem hi)
  · intro h y hy
    obtain ⟨i, hi, rfl⟩ := List.mem_iff_getElem.1 hy
    have := h i hi
    rw [gt_lt hi] at this
    simpa using this
theorem nonzero_iff {x : List Int} (h : ∀ i, i < x.length → 0 ≤ gt x i) : zeroB x = false ↔ ∃ i, i < x.length ∧ 0 < gt x i := by
  constructor
  · intro hz
    apply Classical.byContradiction
    intro hno
    have : zeroB x = true := zeroB_iff.2 (fun i hi => by
      have := h i hi
      have : ¬ 0 < gt x i := fun e => hno ⟨i, hi, e⟩
      omega)
    rw [this] at hz
    cases hz
  · rintro ⟨i, hi, hp⟩
    cases hz : zeroB x with
    | false => rfl
    | true => have := zeroB_iff.1 hz i hi; omega
/-- What lies in the list of candidates. -/
theorem mem_allP {a b x : List Int} : x ∈ allP a b ↔ (x.length = a.length + b.length ∧ ∀ i, i < x.length → 0 ≤ gt x i ∧ gt x i ≤ 5) ∧ bal a b x = 0 ∧ ∃ i, i < x.length ∧ 0 < gt x i := by
  unfold allP solve
  rw [List.mem_filter, mem_lexB, withinB_iff]
  simp only [List.length_replicate, Bool.and_eq_true, beq_iff_eq, Bool.not_eq_true']
  have hrep : ∀ i, i < a.length + b.length → ((List.replicate (a.length + b.length) 5).getD i 0 : Nat) = 5 := fun i hi => by simp [List.getD_eq_getElem?_getD, hi]
  constructor
  · rintro ⟨⟨h1, h2⟩, h3, h4⟩
    refine ⟨⟨h1, fun i hi => ?_⟩, h3, (nonzero_iff (fun i hi => (h2 i hi).1)).1 h4⟩
    have := h2 i hi
    rw [hrep i (by omega)] at this
    omega
  · rintro ⟨⟨h1, h2⟩, h3, h4⟩
    refine ⟨⟨h1, fun i hi => ?_⟩, h3, (nonzero_iff (fun i hi => (h2 i hi).1)).2 h4⟩
    have := h2 i hi
    rw [hrep i (by omega)]
    omega
theorem allR_eq {a b : List Int} (ha : Fac a) (hb : Fac b) : allR a b = (allP a b).filter (withinB (bnds a b)) := by
  unfold allR allP
  rw [← lexB_filter _ _ (under_bnds ha hb), List.filter_filter, List.filter_filter]
  apply List.filter_congr
  intro x _
  rw [Bool.and_comm]
theorem nodup_allP (a b : List Int) : (allP a b).Nodup := (nodup_lexB _).filter _
theorem nodup_allR (a b : List Int) : (allR a b).Nodup := (nodup_lexB _).filter _
/-- Least among the candidates: least of all. -/
theorem mini_of {a b x : List Int} (hx : x ∈ allP a b) (hl : leastB (allP a b) x = true) : Mini (a.length + b.length) (cf a b) (gt x) := by
  obtain ⟨⟨h1, h2⟩, h3, h4⟩ := mem_allP.1 hx
  intro y y0 yx ⟨j, hj, hp⟩ hv
  have hm : tab (a.length + b.length) y ∈ allP a b := by
    refine mem_allP.2 ⟨⟨by simp, fun i hi => ?_⟩, ?_, j, by simpa using hj, by rw [gt_tab hj]; exact hp⟩
    · rw [tab_length] at hi
      rw [gt_tab hi]
      have q0 : 0 ≤ y i := y0 i hi
      have := yx i hi
      have := h2 i (by omega)
      omega
    · unfold bal
      rw [← hv]
      unfold val
      exact sm_congr (fun i hi => by rw [gt_tab hi])
  have he := leastB_iff.1 hl _ hm (below_iff.2 (fun i hi => by
    rw [tab_length] at hi
    rw [gt_tab hi]
    exact yx i hi))
  intro i hi
  rw [← he, gt_tab hi]
theorem least_within {a b x : List Int} (ha : Fac a) (hb : Fac b) (la : 0 < a.length) (lb : 0 < b.length) (hx : x ∈ allP a b) (hl : leastB (allP a b) x = true) : withinB (bnds a b) x = true := by
  obtain ⟨⟨h1, h2⟩, h3, h4⟩ := mem_allP.1 hx
  have hmi := mini_of hx hl
  have h0 : le (a.length + b.length) (fun _ => 0) (gt x) := fun i hi => (h2 i (by omega)).1
  refine (withinB_iff _ _).2 ⟨by simp [bnds, h1], fun i hi => ⟨(h2 i hi).1, ?_⟩⟩
  rw [bnds_get i (by omega)]
  by_cases e : i < a.length
  · rw [if_pos e]
    exact small _ _ _ _ (mostN_pos hb lb) (cf_ne ha hb) (cf_lo ha hb) h3 h0 hmi (by omega) (by unfold cf; rw [if_pos e]; have := ha i e; omega)
  · rw [if_neg e]
    exact small' _ _ _ _ (mostN_pos ha la) (cf_ne ha hb) (cf_hi ha hb) h3 h0 hmi (by omega) (by unfold cf; rw [if_neg e]; have := hb (i - a.length) (by omega); omega)
theorem basis_eq {a b : List Int} (ha : Fac a) (hb : Fac b) (la : 0 < a.length) (lb : 0 < b.length) : least (allR a b) = least (allP a b) := by
  unfold least
  have e := allR_eq ha hb
  rw [show (allR a b).filter (leastB (allR a b)) = ((allP a b).filter (withinB (bnds a b))).filter (leastB (allR a b)) by rw [← e], List.filter_filter]
  apply List.filter_congr
  intro x hx
  obtain ⟨⟨h1, h2⟩, h3, h4⟩ := mem_allP.1 hx
  rw [Bool.eq_iff_iff, Bool.and_eq_true]
  constructor
  · rintro ⟨hl, hw⟩
    refine leastB_iff.2 (fun y hy hb' => ?_)
    have hyw : withinB (bnds a b) y = true := by
      obtain ⟨⟨g1, g2⟩, _⟩ := mem_allP.1 hy
      obtain ⟨w1, w2⟩ := (withinB_iff _ _).1 hw
      refine (withinB_iff _ _).2 ⟨by omega, fun i hi => ⟨(g2 i hi).1, ?_⟩⟩
      exact Int.le_trans (below_iff.1 hb' i hi) (w2 i (by omega)).2
    exact leastB_iff.1 hl y (by rw [e]; exact List.mem_filter.2 ⟨hy, hyw⟩) hb'
  · intro hl
    refine ⟨leastB_iff.2 (fun y hy hb' => ?_), least_within ha hb la lb hx hl⟩
    rw [e] at hy
    exact leastB_iff.1 hl y (List.mem_filter.1 hy).1 hb'

/-! ### every solution lies over a least one -/
theorem under_some {a b : List Int} (ha : Fac a) (hb : Fac b) (la : 0 < a.length) (lb : 0 < b.length) : ∀ (m : Nat) (z : List Int), z.length = a.length + b.length → (∀ i, i < z.length → 0 ≤ gt z i) → bal a b z = 0 → (∃ i, i < z.length ∧ 0 < gt z i) → sm (gt z) z.length ≤ m → ∃ y ∈ least (allP a b), below y z = true := by
  intro m
  induction m with
  | zero =>
    intro z hz h0 hb0 ⟨i, hi, hp⟩ hm
    have := sm_le_of h0 hi
    omega
  | succ m ih =>
    intro z hz h0 hb0 hne hm
    by_cases hmi : Mini (a.length + b.length) (cf a b) (gt z)
    · have h0' : le (a.length + b.length) (fun _ => 0) (gt z) := fun i hi => h0 i (by omega)
      have hm5 : ∀ i, i < z.length → gt z i ≤ 5 := by
        intro i hi
        have h5a := mostN_le ha
        have h5b := mostN_le hb
        by_cases e : i < a.length
        · have := small _ _ _ _ (mostN_pos hb lb) (cf_ne ha hb) (cf_lo ha hb) hb0 h0' hmi (i := i) (by omega) (by unfold cf; rw [if_pos e]; have := ha i e; omega)
          omega
        · have := small' _ _ _ _ (mostN_pos ha la) (cf_ne ha hb) (cf_hi ha hb) hb0 h0' hmi (i := i) (by omega) (by unfold cf; rw [if_neg e]; have := hb (i - a.length) (by omega); omega)
          omega
      have hin : z ∈ allP a b := mem_allP.2 ⟨⟨hz, fun i hi => ⟨h0 i hi, hm5 i hi⟩⟩, hb0, hne⟩
      refine ⟨z, List.mem_filter.2 ⟨hin, leastB_iff.2 (fun y hy hbel => ?_)⟩, below_iff.2 (fun i _ => Int.le_refl _)⟩
      obtain ⟨⟨g1, g2⟩, g3, j, hj, hp⟩ := mem_allP.1 hy
      exact gt_ext (by omega) (fun i hi => hmi (gt y) (fun i hi => (g2 i (by omega)).1) (fun i hi => below_iff.1 hbel i (by omega)) ⟨j, by omega, hp⟩ g3 i (by omega))
    · obtain ⟨y, h⟩ := Classical.not_forall.1 hmi
      obtain ⟨y0, h⟩ := Classical.not_forall.1 h
      obtain ⟨yz, h⟩ := Classical.not_forall.1 h
      obtain ⟨yne, h⟩ := Classical.not_forall.1 h
      obtain ⟨yv, h⟩ := Classical.not_forall.1 h
      obtain ⟨k, h⟩ := Classical.not_forall.1 h
      obtain ⟨hk, hkne⟩ := Classical.not_forall.1 h
      obtain ⟨j, hj, hp⟩ := yne
      have hs : sm y (a.length + b.length) < sm (gt z) z.length := by
        rw [hz]
        have h1 := sm_sub (gt z) y (a.length + b.length)
        have h2 := sm_le_of (f := fun i => gt z i - y i) (n := a.length + b.length) (fun i hi => by have := yz i hi; omega) hk
        have := yz k hk
        (try simp only [] at h2)
        omega
      have hgt : sm (gt (tab (a.length + b.length) y)) (a.length + b.length) = sm y (a.length + b.length) := sm_congr (fun i hi => gt_tab hi)
      obtain ⟨t, ht, htb⟩ := ih (tab (a.length + b.length) y) (by simp) (fun i hi => by
          rw [tab_length] at hi
          rw [gt_tab hi]
          exact y0 i hi)
        (by
          unfold bal
          rw [← yv]
          unfold val
          exact sm_congr (fun i hi => by rw [gt_tab hi]))
        ⟨j, by simpa using hj, by rw [gt_tab hj]; exact hp⟩ (by rw [tab_length, hgt]; omega)
      refine ⟨t, ht, below_iff.2 (fun i hi => ?_)⟩
      have h1 := below_iff.1 htb i hi
      obtain ⟨⟨g1, _⟩, _⟩ := mem_allP.1 (List.mem_filter.1 ht).1
      rw [gt_tab (by omega)] at h1
      exact Int.le_trans h1 (yz i (by omega))

/-! ### taking away -/
def sub (r y : List Int) : List Int := tab r.length (fun i => gt r i - gt y i)
def tk : Nat → List Int → List Int → Nat × List Int
  | 0, _, r => (0, r)
  | f + 1, y, r => if below y r = true then ((tk f y (sub r y)).1 + 1, (tk f y (sub r y)).2) else (0, r)
/-- What taking y away as often as it fits leaves. -/
theorem tk_spec (y : List Int) (j : Nat) (hj : j < y.length) (hp : 0 < gt y j) : ∀ (f : Nat) (r : List Int), y.length = r.length → (∀ i, i < r.length → 0 ≤ gt r i) → gt r j < f →
    (tk f y r).2.length = r.length ∧ (∀ i, i < r.length → gt (tk f y r).2 i = gt r i - (tk f y r).1 * gt y i ∧ 0 ≤ gt (tk f y r).2 i) ∧ below y (tk f y r).2 = false ∧ ((tk f y r).1 : Int) ≤ gt r j := by
  intro f
  induction f with
  | zero => intro r hl h0 hf; have := h0 j (by omega); omega
  | succ f ih =>
    intro r hl h0 hf
    unfold tk
    cases hb : below y r with
    | false =>
      simp only [if_neg (show ¬ (false = true) by decide)]
      refine ⟨trivial, fun i hi => ⟨by simp, h0 i hi⟩, hb, ?_⟩
      have := h0 j (by omega)
      simpa using this
    | true =>
      simp only [if_true]
      have hbe := below_iff.1 hb
      have hsg : ∀ i, i < r.length → gt (sub r y) i = gt r i - gt y i := fun i hi => by unfold sub; rw [gt_tab hi]
      have hsl : (sub r y).length = r.length := by simp [sub]
      obtain ⟨g1, g2, g3, g4⟩ := ih (sub r y) (by rw [hsl]; exact hl) (fun i hi => by
          rw [hsl] at hi
          rw [hsg i hi]
          have := hbe i (by omega)
          omega) (by rw [hsg j (by omega)]; have := hbe j hj; omega)
      refine ⟨by rw [g1, hsl], fun i hi => ?_, g3, ?_⟩
      · obtain ⟨q1, q2⟩ := g2 i (by omega)
        refine ⟨?_, q2⟩
        rw [q1, hsg i hi, Int.natCast_add, Int.add_mul]
        simp
        omega
      · rw [hsg j (by omega)] at g4
        omega
theorem tk_mono {f g : Nat} {y r : List Int} (hy : ∃ j, j < y.length ∧ 0 < gt y j ∧ gt r j < f) (hl : y.length = r.length) (h0 : ∀ i, i < r.length → 0 ≤ gt r i) (hfg : f ≤ g) : tk g y r = tk f y r := by
  obtain ⟨j, hj, hp, hf⟩ := hy
  induction f generalizing r g with
  | zero => have := h0 j (by omega); omega
  | succ f ih =>
    obtain ⟨g', rfl⟩ : ∃ g', g = g' + 1 := ⟨g - 1, by omega⟩
    unfold tk
    cases hb : below y r with
    | false => simp
    | true =>
      have hbe := below_iff.1 hb
      have hsg : ∀ i, i < r.length → gt (sub r y) i = gt r i - gt y i := fun i hi => by unfold sub; rw [gt_tab hi]
      have hsl : (sub r y).length = r.length := by simp [sub]
      have := ih (g := g') (r := sub r y) (by rw [hsl]; exact hl) (fun i hi => by
          rw [hsl] at hi
          rw [hsg i hi]
          have := hbe i (by omega)
          omega) (by omega) (by rw [hsg j (by omega)]; have := hbe j hj; omega)
      rw [this]
def gr : List (List Int) → List Int → List Nat × List Int
  | [], r => ([], r)
  | y :: ys, r => ((tk 1001 y r).1 :: (gr ys (tk 1001 y r).2).1, (gr ys (tk 1001 y r).2).2)
/-- How much the pieces come to at place j. -/
def tot : List Nat → List (List Int) → Nat → Int
  | n :: ns, y :: ys, j => n * gt y j + tot ns ys j
  | _, _, _ => 0
theorem gr_spec {n : Nat} : ∀ (B : List (List Int)) (r : List Int), (∀ y ∈ B, y.length = n ∧ (∀ i, i < n → 0 ≤ gt y i) ∧ ∃ j, j < n ∧ 0 < gt y j) → r.length = n → (∀ i, i < n → 0 ≤ gt r i ∧ gt r i ≤ 1000) →
    (gr B r).1.length = B.length ∧ (gr B r).2.length = n ∧ (∀ i, i < n → gt (gr B r).2 i = gt r i - tot (gr B r).1 B i ∧ 0 ≤ gt (gr B r).2 i ∧ gt (gr B r).2 i ≤ gt r i) ∧ (∀ y ∈ B, below y (gr B r).2 = false) ∧ ∀ k ∈ (gr B r).1, k ≤ 1000 := by
  intro B
  induction B with
  | nil =>
    intro r hB hr h0
    exact ⟨rfl, hr, fun i hi => ⟨by simp [gr, tot], (h0 i hi).1, Int.le_refl _⟩, (fun y hy => by cases hy), (fun k hk => by cases hk)⟩
  | cons y ys ih =>
    intro r hB hr h0
    obtain ⟨hyl, hy0, j, hj, hp⟩ := hB y List.mem_cons_self
    obtain ⟨t1, t2, t3, t4⟩ := tk_spec y j (by omega) hp 1001 r (by omega) (fun i hi => (h0 i (by omega)).1) (by have := h0 j hj; omega)
    have hle : ∀ i, i < n → gt (tk 1001 y r).2 i ≤ gt r i := by
      intro i hi
      have h1 := (t2 i (by omega)).1
      have h2 : 0 ≤ ((tk 1001 y r).1 : Int) * gt y i := Int.mul_nonneg (by omega) (hy0 i hi)
      omega
    obtain ⟨g1, g2, g3, g4, g5⟩ := ih (tk 1001 y r).2 (fun z hz => hB z (List.mem_cons_of_mem _ hz)) (by omega) (fun i hi => ⟨(t2 i (by omega)).2, by have := hle i hi; have := h0 i hi; omega⟩)
    refine ⟨by simp [gr, g1], by simp [gr, g2], fun i hi => ?_, fun z hz => ?_, fun k hk => ?_⟩
    · obtain ⟨q1, q2, q3⟩ := g3 i hi
      refine ⟨?_, q2, Int.le_trans q3 (hle i hi)⟩
      simp only [gr, tot]
      rw [q1, (t2 i (by omega)).1]
      omega
    · rcases List.mem_cons.1 hz with rfl | hz
      · cases hb : below z (gr (z :: ys) r).2 with
        | false => rfl
        | true =>
          exfalso
          have : below z (tk 1001 z r).2 = true := below_iff.2 (fun i hi => Int.le_trans (below_iff.1 hb i hi) (g3 i (by omega)).2.2)
          rw [this] at t3
          cases t3
      · exact g4 z hz
    · rcases List.mem_cons.1 hk with rfl | hk
      · have := h0 j hj
        omega
      · exact g5 k hk
theorem tot_bal {a b : List Int} : ∀ (ns : List Nat) (B : List (List Int)), (∀ y ∈ B, bal a b y = 0) → val (cf a b) (tot ns B) (a.length + b.length) = 0 := by
  intro ns
  induction ns with
  | nil =>
    intro B _
    unfold val
    rw [sm_congr (g := fun _ => 0) (fun i _ => by simp [tot]), sm_zero_fn]
  | cons n ns ih =>
    intro B hB
    cases B with
    | nil =>
      unfold val
      rw [sm_congr (g := fun _ => 0) (fun i _ => by simp [tot]), sm_zero_fn]
    | cons y ys =>
      have h1 := hB y List.mem_cons_self
      have h2 := ih ys (fun z hz => hB z (List.mem_cons_of_mem _ hz))
      unfold bal at h1
      have h3 : ∀ m, val (cf a b) (tot (n :: ns) (y :: ys)) m = n * val (cf a b) (gt y) m + val (cf a b) (tot ns ys) m := by
        intro m
        unfold val
        induction m with
        | zero => simp [sm]
        | succ m ihm =>
          simp only [sm]
          rw [ihm]
          simp only [tot]
          rw [Int.mul_add, Int.mul_add, ← Int.mul_assoc, ← Int.mul_assoc, Int.mul_comm (cf a b m) n]
          omega
      rw [h3, h1, h2]
      simp
/-- Taking the least ones away leaves nothing. -/
theorem gr_all {a b x : List Int} (ha : Fac a) (hb : Fac b) (la : 0 < a.length) (lb : 0 < b.length) (hx : x.length = a.length + b.length) (h0 : ∀ i, i < x.length → 0 ≤ gt x i ∧ gt x i ≤ 1000) (hbal : bal a b x = 0) :
    (gr (least (allP a b)) x).1.length = (least (allP a b)).length ∧ (∀ i, i < x.length → tot (gr (least (allP a b)) x).1 (least (allP a b)) i = gt x i) ∧ ∀ k ∈ (gr (least (allP a b)) x).1, k ≤ 1000 := by
  have hB : ∀ y ∈ least (allP a b), y.length = a.length + b.length ∧ (∀ i, i < a.length + b.length → 0 ≤ gt y i) ∧ ∃ j, j < a.length + b.length ∧ 0 < gt y j := by
    intro y hy
    obtain ⟨⟨g1, g2⟩, g3, j, hj, hp⟩ := mem_allP.1 (List.mem_filter.1 hy).1
    exact ⟨g1, fun i hi => (g2 i (by omega)).1, j, by omega, hp⟩
  obtain ⟨g1, g2, g3, g4, g5⟩ := gr_spec (n := a.length + b.length) (least (allP a b)) x hB hx (fun i hi => h0 i (by omega))
  refine ⟨g1, fun i hi => ?_, g5⟩
  have hz : bal a b (gr (least (allP a b)) x).2 = 0 := by
    have e1 := val_sub (cf a b) (gt x) (tot (gr (least (allP a b)) x).1 (least (allP a b))) (a.length + b.length)
    have e2 := tot_bal (a := a) (b := b) (gr (least (allP a b)) x).1 (least (allP a b)) (fun y hy => (mem_allP.1 (List.mem_filter.1 hy).1).2.1)
    have e3 : bal a b (gr (least (allP a b)) x).2 = val (cf a b) (fun i => gt x i - tot (gr (least (allP a b)) x).1 (least (allP a b)) i) (a.length + b.length) := by
      unfold bal val
      exact sm_congr (fun i hi => by rw [(g3 i hi).1])
    rw [e3, e1, e2]
    unfold bal at hbal
    omega
  apply Classical.byContradiction
  intro hne
  have hpos : 0 < gt (gr (least (allP a b)) x).2 i := by
    obtain ⟨q1, q2, _⟩ := g3 i (by omega)
    omega
  obtain ⟨y, hy, hyb⟩ := under_some ha hb la lb (sm (gt (gr (least (allP a b)) x).2) (gr (least (allP a b)) x).2.length).toNat (gr (least (allP a b)) x).2 g2 (fun i hi => (g3 i (by omega)).2.1) hz ⟨i, by omega, hpos⟩ (by
    have := sm_nonneg (f := gt (gr (least (allP a b)) x).2) (n := (gr (least (allP a b)) x).2.length) (fun i hi => (g3 i (by omega)).2.1)
    omega)
  rw [g4 y hy] at hyb
  cases hyb

/-! ### how the program lists them -/
theorem lexB_len (n : Nat) : (lexB (List.replicate n 5)).length = 6 ^ n := by
  induction n with
  | zero => rfl
  | succ n ih =>
    have e : List.range 6 = [0, 1, 2, 3, 4, 5] := rfl
    simp [List.replicate_succ, lexB, e, ih, Nat.pow_succ]
    omega
theorem allP_tail {a b : List Int} {T : List (List Int)} (h : lexB (List.replicate (a.length + b.length) 5) = List.replicate (a.length + b.length) 0 :: T) : allP a b = T.filter (fun x => bal a b x == 0) := by
  have hnd := nodup_lexB (List.replicate (a.length + b.length) 5)
  have hz : zeroB (List.replicate (a.length + b.length) 0) = true := zeroB_iff.2 (fun i hi => by
    rw [gt_lt hi]; simp)
  unfold allP
  rw [h] at hnd ⊢
  rw [List.filter_cons_of_neg (by simp [solve, hz])]
  apply List.filter_congr
  intro x hx
  have hm : x ∈ lexB (List.replicate (a.length + b.length) 5) := by rw [h]; exact List.mem_cons_of_mem _ hx
  have hl := ((withinB_iff _ _).1 ((mem_lexB _ _).1 hm)).1
  rw [List.length_replicate] at hl
  have hne : zeroB x = false := by
    cases hzx : zeroB x with
    | false => rfl
    | true =>
      exfalso
      have e : x = List.replicate (a.length + b.length) 0 := gt_ext (by simp [hl]) (fun i hi => by
        rw [zeroB_iff.1 hzx i hi, zeroB_iff.1 hz i (by simpa using (by omega : i < a.length + b.length))])
      rw [e] at hx
      exact (List.nodup_cons.1 hnd).1 hx
  simp [solve, hne]
/-- No other one of the first k lies under L[j]. -/
def lsT (L : List (List Int)) (j k : Nat) : Bool := (List.range k).all fun i => decide (i = j) || !below (L.getD i []) (L.getD j [])
theorem lsT_succ (L : List (List Int)) (j k : Nat) : lsT L j (k + 1) = (lsT L j k && (decide (k = j) || !below (L.getD k []) (L.getD j []))) := by
  unfold lsT
  rw [List.range_succ, List.all_append]
  simp
theorem lsT_full {L : List (List Int)} (hn : L.Nodup) {j : Nat} (hj : j < L.length) : lsT L j L.length = leastB L (L.getD j []) := by
  rw [Bool.eq_iff_iff, leastB_iff]
  unfold lsT
  rw [List.all_eq_true]
  have e : L.getD j [] = L[j] := by simp [hj]
  rw [e]
  constructor
  · intro h y hy hb
    obtain ⟨i, hi, rfl⟩ := List.mem_iff_getElem.1 hy
    have := h i (List.mem_range.2 hi)
    have e' : L.getD i [] = L[i] := by simp [hi]
    rw [e', hb] at this
    simp at this
    subst this
    rfl
  · intro h i hi
    have hi := List.mem_range.1 hi
    have e' : L.getD i [] = L[i] := by simp [hi]
    rw [e']
    cases hb : below L[i] L[j] with
    | false => simp
    | true =>
      have := h L[i] (List.getElem_mem _) hb
      have hij : i = j := by
        have hp := List.pairwise_iff_getElem.1 hn
        rcases Nat.lt_trichotomy i j with h1 | h1 | h1
        · exact absurd this (hp i j hi hj h1)
        · exact h1
        · exact absurd this.symm (hp j i hj hi h1)
      simp [hij]

/-! ### how the reference lists them -/
def ext (a b x : List Int) : List (List Int) := ((lexB ((bnds a b).drop x.length)).map (fun y => x ++ y)).filter (solve a b)
theorem ext_end {a b x : List Int} (h : x.length = a.length + b.length) : ext a b x = if solve a b x = true then [x] else [] := by
  unfold ext
  rw [List.drop_of_length_le (by simp [bnds]; omega)]
  simp [lexB]
  cases hs : solve a b x <;> simp [hs]
theorem ext_step {a b x : List Int} (h : x.length < a.length + b.length) : ext a b x = (List.range ((bnds a b).getD x.length 0 + 1)).flatMap (fun (k : Nat) => ext a b (x ++ [(k : Int)])) := by
  have hl : x.length < (bnds a b).length := by simp [bnds]; omega
  unfold ext
  rw [List.drop_eq_getElem_cons hl]
  have e : (bnds a b).getD x.length 0 = (bnds a b)[x.length] := by simp [hl]
  rw [e]
  simp only [lexB, List.map_flatMap, List.filter_flatMap, List.map_map]
  congr 1
  funext k
  rw [List.length_append, List.length_singleton]
  congr 2
  funext y
  simp
theorem ext_nil (a b : List Int) : ext a b [] = allR a b := by
  unfold ext allR
  simp
theorem ext_len {a b : List Int} (ha : Fac a) (hb : Fac b) : ∀ (d : Nat) (x : List Int), a.length + b.length - x.length = d → (ext a b x).length ≤ 6 ^ d := by
  intro d
  induction d with
  | zero =>
    intro x hd
    unfold ext
    rw [List.drop_of_length_le (by simp [bnds]; omega)]
    exact Nat.le_trans (List.length_filter_le _ _) (by simp [lexB])
  | succ d ih =>
    intro x hd
    rw [ext_step (by omega)]
    have hb5 : (bnds a b).getD x.length 0 ≤ 5 := by
      rw [bnds_get _ (by omega)]
      have := mostN_le ha
      have := mostN_le hb
      split <;> omega
    have : ∀ m, ((List.range m).flatMap (fun (k : Nat) => ext a b (x ++ [(k : Int)]))).length ≤ m * 6 ^ d := by
      intro m
      induction m with
      | zero => simp
      | succ m ihm =>
        rw [List.range_succ, List.flatMap_append, List.length_append]
        have h1 := ih (x ++ [(m : Int)]) (by simp; omega)
        simp only [List.flatMap_cons, List.flatMap_nil, List.append_nil]
        rw [Nat.add_mul]
        omega
    refine Nat.le_trans (this _) ?_
    rw [Nat.pow_succ, Nat.mul_comm (6 ^ d) 6]
    exact Nat.mul_le_mul_right _ (by omega)
end Go.Proofs.Ytfnkobcmhbdcoaa.DioL
end
section
/- Plain laws of the printed helpers of the bases; slices.Clone of integers. -/




namespace Go.Proofs.Ytfnkobcmhbdcoaa.PureDio
open Go.RowKit Go.Proofs.YtfnkobcmhbdcoaaW.PrintWords Go.Proofs.YtfnkobcmhbdcoaaW.PrintLast Go.Proofs.Ytfnkobcmhbdcoaa.Base Go.Proofs.Ytfnkobcmhbdcoaa.XTypes Go.Proofs.Ytfnkobcmhbdcoaa.XInts Go.Proofs.Ytfnkobcmhbdcoaa.XProb Go.Proofs.Ytfnkobcmhbdcoaa.XSum Go.Proofs.Ytfnkobcmhbdcoaa.Problem Go.Proofs.Ytfnkobcmhbdcoaa.PureInts Go.Proofs.Ytfnkobcmhbdcoaa.PureSum Go.Proofs.Ytfnkobcmhbdcoaa.Typed Go.Proofs.Ytfnkobcmhbdcoaa.Dio Go.Proofs.Ytfnkobcmhbdcoaa.DioL
set_option linter.unusedVariables false
set_option linter.unusedSimpArgs false
set_option linter.unnecessarySimpa false

theorem rd_gt (l : List Int) (i : Nat) : rd l (i : Int) = gt l i := by simp [rd, gt]
theorem sum_sm (f : Nat → Int) (n : Nat) : sumTo f n = sm f n := by
  induction n with
  | zero => rfl
  | succ n ih => simp only [sumTo, sm, ih]
theorem sm_split (f : Nat → Int) (n m : Nat) : sm f (n + m) = sm f n + sm (fun i => f (n + i)) m := by
  induction m with
  | zero => simp [sm]
  | succ m ih => rw [← Nat.add_assoc]; simp only [sm, ih]; omega
theorem bal_eq (a b x : List Int) : dot a x - dot b (x.drop a.length) = bal a b x := by
  unfold bal val
  rw [sm_split]
  unfold dot
  rw [sum_sm, sum_sm, sm_congr (f := fun i => cf a b i * gt x i) (g := fun i => rd a (i : Int) * rd x (i : Int)) (fun i hi => by simp only [cf, rd_gt]; rw [if_pos hi]),
    sm_congr (f := fun i => cf a b (a.length + i) * gt x (a.length + i)) (g := fun i => - (rd b (i : Int) * rd (x.drop a.length) (i : Int))) (fun i hi => by
      simp only [cf, rd_gt]
      rw [if_neg (by omega), Nat.add_sub_cancel_left, Int.neg_mul]
      congr 2
      simp [gt]), sm_neg_fn]
  omega
theorem fac_of {l : List Int} (h : facB l = true) : Fac l := fun i hi => by
  have := facB_at h hi
  rwa [rd_gt] at this

/-! ### the next choice -/
theorem nextL_snoc (x : Int) : ∀ p : List Int, nextL (p ++ [x]) = if x < 5 then some (p ++ [x + 1]) else (nextL p).map (fun q => q ++ [0]) := by
  intro p
  induction p with
  | nil => simp [nextL]
  | cons a p ih =>
    simp only [List.cons_append, nextL, ih]
    by_cases hx : x < 5
    · simp [hx]
    · simp only [if_neg hx]
      cases h : nextL p with
      | some q => simp
      | none =>
        simp only [Option.map_none]
        by_cases ha : a < 5
        · simp [ha, List.replicate_succ']
        · simp [ha]
def nextR (p : List Int) (m : Nat) : Bool × List Int := match nextL p with
  | some q => (true, q ++ List.replicate m 0)
  | none => (false, List.replicate (p.length + m) 0)
theorem next_loop : ∀ (n : Nat) (p : List Int) (m : Nat), p.length = n → n + m ≤ 1048576 → (∀ x ∈ p, 0 ≤ x ∧ x ≤ 5) → Ev (fun k => impl_nextChoice.l0 k (p ++ List.replicate m 0) 6 ((n : Int) - 1)) (nextR p m) := by
  intro n
  induction n with
  | zero =>
    intro p m hp hm h5
    obtain rfl : p = [] := List.length_eq_zero_iff.1 hp
    exact Ev.step (fun k => by simp only [impl_nextChoice.l0]; rfl) (Ev.neg (by omega) (Ev.some_eq (by simp [nextR, nextL])))
  | succ n ih =>
    intro p m hp hm h5
    obtain ⟨q, x, rfl⟩ : ∃ q x, p = q ++ [x] := by
      have hne : p ≠ [] := by intro e; rw [e] at hp; simp at hp
      exact ⟨p.dropLast, p.getLast hne, (List.dropLast_concat_getLast hne).symm⟩
    have hq : q.length = n := by simpa using hp
    have hx := h5 x (by simp)
    have e1 : (((n + 1 : Nat) : Int) - 1) = (n : Int) := by omega
    have hrd : rd ((q ++ [x]) ++ List.replicate m 0) (n : Int) = x := by simp [rd, hq]
    have hset : ((q ++ [x]) ++ List.replicate m 0).set n (x + 1) = (q ++ [x + 1]) ++ List.replicate m 0 := by
      rw [List.append_assoc, List.append_assoc, List.set_append_right _ _ (by omega), hq, Nat.sub_self]
      rfl
    have hset2 : ((q ++ [x + 1]) ++ List.replicate m 0).set n 0 = q ++ List.replicate (m + 1) 0 := by
      rw [List.append_assoc, List.set_append_right _ _ (by omega), hq, Nat.sub_self]
      rfl
    have hrd2 : rd ((q ++ [x + 1]) ++ List.replicate m 0) (n : Int) = x + 1 := by simp [rd, hq]
    rw [e1]
    refine Ev.step (fun k => by simp only [impl_nextChoice.l0]; rfl) (Ev.pos (by omega) (Ev.pos (by omega) (Ev.pos (by simp; omega) ?_)))
    simp only [Option.bind_some, Int.toNat_natCast, hrd]
    rw [wrap_id (by omega) (by omega), hset]
    simp only [hrd2]
    by_cases h : x < 5
    · refine Ev.pos (by omega) (Ev.some_eq ?_)
      simp [nextR, nextL_snoc, h]
    · refine Ev.neg (by omega) ?_
      rw [hset2, wrap_id (by omega) (by omega)]
      have := ih q (m + 1) hq (by omega) (fun y hy => h5 y (by simp [hy]))
      have e : nextR q (m + 1) = nextR (q ++ [x]) m := by
        simp only [nextR, nextL_snoc, if_neg h]
        cases hn : nextL q with
        | some d => simp [List.replicate_succ]
        | none => simp; omega
      rw [← e]
      exact this
theorem next_ev (c : List Int) (hl : c.length ≤ 1048576) (h5 : ∀ x ∈ c, 0 ≤ x ∧ x ≤ 5) : Ev (fun k => impl_nextChoice.f k c 6) (nextR c 0) := by
  unfold impl_nextChoice.f
  rw [wrap_id (by omega) (by omega)]
  have := next_loop c.length c 0 rfl (by omega) h5
  simpa using this

/-! ### under -/
theorem below_true {x y : List Int} (h : ∀ i, i < x.length → gt x i ≤ gt y i) : below x y = true := below_iff.2 h
theorem below_false {x y : List Int} {i : Nat} (hi : i < x.length) (h : gt y i < gt x i) : below x y = false := by
  cases hb : below x y with
  | false => rfl
  | true => have := below_iff.1 hb i hi; omega
theorem nowhere_loop (x y : List Int) (hxy : x.length ≤ y.length) (hl : x.length ≤ 1048576) : ∀ (d i : Nat), x.length - i = d → i ≤ x.length → (∀ j, j < i → gt x j ≤ gt y j) → Ev (fun k => impl_nowhereGreater.l0 k y x (x.length : Int) (i : Int)) (below x y) := by
  intro d
  induction d with
  | zero =>
    intro i hd hi h
    exact Ev.step (fun k => by simp only [impl_nowhereGreater.l0]; rfl) (Ev.neg (by omega) (Ev.some_eq (below_true (fun j hj => h j (by omega))).symm))
  | succ d ih =>
    intro i hd hi h
    refine Ev.step (fun k => by simp only [impl_nowhereGreater.l0]; rfl) (Ev.pos (by omega) (Ev.pos (by omega) (Ev.pos (by omega) (Ev.pos (by omega) ?_))))
    rw [rd_gt, rd_gt]
    by_cases hc : gt x i > gt y i
    · exact Ev.pos hc (Ev.some_eq (below_false (by omega) hc).symm)
    · refine Ev.neg hc ?_
      rw [wrap_succ (by omega)]
      refine ih (i + 1) (by omega) (by omega) (fun j hj => ?_)
      by_cases e : j = i
      · subst e; omega
      · exact h j (by omega)
theorem nowhere_ev (x y : List Int) (hxy : x.length ≤ y.length) (hl : x.length ≤ 1048576) : Ev (fun k => impl_nowhereGreater.f k x y) (below x y) := nowhere_loop x y hxy hl x.length 0 (by omega) (by omega) (fun j hj => absurd hj (Nat.not_lt_zero _))
theorem sbelow_loop (x y : List Int) (hxy : x.length ≤ y.length) (hl : x.length ≤ 1048576) : ∀ (d i : Nat), x.length - i = d → i ≤ x.length → (∀ j, j < i → gt x j ≤ gt y j) → Ev (fun k => spec_l34Below.l0 k x y (i : Int)) (below x y) := by
  intro d
  induction d with
  | zero =>
    intro i hd hi h
    exact Ev.step (fun k => by simp only [spec_l34Below.l0]; rfl) (Ev.neg (by omega) (Ev.some_eq (below_true (fun j hj => h j (by omega))).symm))
  | succ d ih =>
    intro i hd hi h
    refine Ev.step (fun k => by simp only [spec_l34Below.l0]; rfl) (Ev.pos (by omega) (Ev.pos (by omega) (Ev.pos (by omega) ?_)))
    rw [rd_gt, rd_gt]
    by_cases hc : gt x i > gt y i
    · exact Ev.pos hc (Ev.some_eq (below_false (by omega) hc).symm)
    · refine Ev.neg hc ?_
      rw [wrap_succ (by omega)]
      refine ih (i + 1) (by omega) (by omega) (fun j hj => ?_)
      by_cases e : j = i
      · subst e; omega
      · exact h j (by omega)
theorem sbelow_ev (x y : List Int) (hxy : x.length ≤ y.length) (hl : x.length ≤ 1048576) : Ev (fun k => spec_l34Below.f k x y) (below x y) := sbelow_loop x y hxy hl x.length 0 (by omega) (by omega) (fun j hj => absurd hj (Nat.not_lt_zero _))
theorem zero_loop (x : List Int) (hl : x.length ≤ 1048576) : ∀ (d i : Nat), x.length - i = d → i ≤ x.length → (∀ j, j < i → gt x j = 0) → Ev (fun k => spec_l34Zero.l0 k x (i : Int)) (zeroB x) := by
  intro d
  induction d with
  | zero =>
    intro i hd hi h
    exact Ev.step (fun k => by simp only [spec_l34Zero.l0]; rfl) (Ev.neg (by omega) (Ev.some_eq (zeroB_iff.2 (fun j hj => h j (by omega))).symm))
  | succ d ih =>
    intro i hd hi h
    refine Ev.step (fun k => by simp only [spec_l34Zero.l0]; rfl) (Ev.pos (by omega) (Ev.pos (by omega) ?_))
    rw [rd_gt]
    by_cases hc : gt x i = 0
    · refine Ev.pos hc ?_
      rw [wrap_succ (by omega)]
      refine ih (i + 1) (by omega) (by omega) (fun j hj => ?_)
      by_cases e : j = i
      · subst e; exact hc
      · exact h j (by omega)
    · refine Ev.neg hc (Ev.some_eq ?_)
      cases hz : zeroB x with
      | false => rfl
      | true => exact absurd (zeroB_iff.1 hz i (by omega)) hc
theorem zero_ev (x : List Int) (hl : x.length ≤ 1048576) : Ev (fun k => spec_l34Zero.f k x) (zeroB x) := zero_loop x hl x.length 0 (by omega) (by omega) (fun j hj => absurd hj (Nat.not_lt_zero _))
theorem mostN_snoc (l : List Int) (x : Int) : mostN (l ++ [x]) = max (mostN l) x.toNat := by
  induction l with
  | nil => simp [mostN]
  | cons a l ih => simp only [List.cons_append, mostN, ih]; omega
theorem l1Max_eq (a b : Int) : spec_l1Max.f a b = some (max a b) := by
  unfold spec_l1Max.f
  by_cases h : a > b
  · rw [if_pos h]; congr 1; omega
  · rw [if_neg h]; congr 1; omega
theorem most_loop (l : List Int) (hl : l.length ≤ 1048576) : ∀ (d i : Nat), l.length - i = d → i ≤ l.length → Ev (fun k => spec_l34Most.l0 k l ((mostN (l.take i) : Nat) : Int) (i : Int)) ((mostN l : Nat) : Int) := by
  intro d
  induction d with
  | zero =>
    intro i hd hi
    refine Ev.step (fun k => by simp only [spec_l34Most.l0]; rfl) (Ev.neg (by omega) (Ev.some_eq ?_))
    rw [List.take_of_length_le (by omega)]
  | succ d ih =>
    intro i hd hi
    have hlt : i < l.length := by omega
    refine Ev.step (fun k => by simp only [spec_l34Most.l0]; rfl) (Ev.pos (by omega) (Ev.pos (by omega) ?_))
    rw [l1Max_eq, rd_nat hlt]
    simp only [Option.bind_some]
    rw [wrap_succ (by omega)]
    have e : max ((mostN (l.take i) : Nat) : Int) l[i] = ((mostN (l.take (i + 1)) : Nat) : Int) := by
      rw [List.take_succ_eq_append_getElem hlt, mostN_snoc]
      omega
    rw [e]
    exact ih (i + 1) (by omega) (by omega)
theorem most_ev (l : List Int) (hl : l.length ≤ 1048576) : Ev (fun k => spec_l34Most.f k l) ((mostN l : Nat) : Int) := most_loop l hl l.length 0 (by omega) (by omega)

/-! ### slices.Clone -/
set_option maxHeartbeats 1000000 in
set_option maxRecDepth 100000 in
theorem clone_any (ad : Addr) (c : Nat) (l : List Int) (w : World) (hr : Kd.C (Kd.int .i64) w (some ad) l.length l) (hc : l.length ≤ c) (hlen : l.length ≤ 1048576) :
    Calls Try.prog 74 #[.slice (some ad) l.length c] w fun e w' => ∃ v, e = .returned v ∧ OwI w.heap.size w' v l ∧ Below w.heap.size w w' := by
  have HR := Lib.hid hr
  have HC := Lib.hid hc
  clear hr hc
  go_enter Try.func74, Try.ntmps74
  have q22 : ∀ (w : World) (a : Option Addr) (n c n' c' : Nat), (binOp .eql 24 (.slice a n c) (.slice none n' c')).run Try.prog w = .ok (.bool a.isNone) w := fun w a n c n' c' => Lib.run_eql_slice_nil w _ _ a n c n' c' Try.underlying24
  have hb : Below w.heap.size w (w.alloc (.cells #[] 3)) := below_alloc (Below.refl _ _) _
  have ho : Kd.R (Kd.int .i64) 3 (w.alloc (.cells #[] 3)) w.heap.size (fun _ => True) (.slice (some ⟨w.heap.size, 0, none⟩) 0 0) [] :=
    ⟨fun _ _ => trivial, [], ⟨rfl, .inr ⟨w.heap.size, 0, #[], rfl, Nat.le_refl _, blk_new _ _, Nat.le_refl _, by decide, rfl, rfl⟩⟩, Reps.none _ _⟩
  have HB := Lib.hid hb
  have HO := Lib.hid ho
  clear hb ho
  go_wp2_with (first | ((with_reducible refine gate_builtin (b := .append) (xs := #[.tmp 5, .tmp 6]) rfl ?_); refine Kd.R_append_row (Value.int .i64) (0 : Int) (w0 := w) w.heap.size rfl (.tmp 5) (.tmp 6) 24 3 (.int .i64 0) 8 rfl Try.underlying24 info_int rfl (by decide) (.slice (some ⟨w.heap.size, 0, none⟩) 0 0) [] l (some ad) l.length c (fun _ => True) rfl rfl (fun _ _ => trivial) HO.out (Kd.C_below HR.out HB.out) HB.out HB.out.size (by simp; omega) ?_; intro v1 w1 ho1 hb1 _ _; have HO1 := Lib.hid ho1; have HB1 := Lib.hid hb1; clear ho1 hb1))
  go_ret
  exact ⟨_, rfl, OwI.of (ok := fun _ => True) HO1.out, HB1.out⟩

/-! ### the helpers, called on what reads -/
theorem nextL_in : ∀ (c d : List Int), (∀ x ∈ c, 0 ≤ x ∧ x ≤ 5) → nextL c = some d → ∀ x ∈ d, 0 ≤ x ∧ x ≤ 5 := by
  intro c
  induction c with
  | nil => intro d _ h; simp [nextL] at h
  | cons a c ih =>
    intro d hc h
    have ha := hc a List.mem_cons_self
    unfold nextL at h
    split at h
    · rename_i ys hy
      injection h with h
      subst h
      intro x hx
      rcases List.mem_cons.1 hx with rfl | hx
      · exact ha
      · exact ih ys (fun x hx => hc x (List.mem_cons_of_mem _ hx)) hy x hx
    · split at h
      · injection h with h
        subst h
        intro x hx
        rcases List.mem_cons.1 hx with rfl | hx
        · omega
        · have := List.eq_of_mem_replicate hx; omega
      · cases h
theorem small_five {a x : List Int} (ha : Fac a) (hl : a.length ≤ 5) (hx : ∀ i, i < a.length → 0 ≤ gt x i ∧ gt x i ≤ 1000) : Small a x := by
  refine ⟨by omega, fun i hi => ?_⟩
  rw [rd_gt, rd_gt]
  have h1 := ha i hi
  have h2 := hx i hi
  have h3 : 0 ≤ gt a i * gt x i := Int.mul_nonneg (by omega) (by omega)
  have h4 : gt a i * gt x i ≤ 5 * 1000 := Int.mul_le_mul h1.2 h2.2 h2.1 (by omega)
  omega
theorem gt_in {c : List Int} {P : Int → Prop} (h : ∀ x ∈ c, P x) {i : Nat} (hi : i < c.length) : P (gt c i) := by
  rw [gt_lt hi]
  exact h _ (List.getElem_mem _)
theorem balance_any (va vb vx : Value) (a b x : List Int) (w : World) (ha : RdI w va a) (hb : RdI w vb b) (hx : RdI w vx x) (fa : Fac a) (fb : Fac b) (h5 : a.length + b.length ≤ 5) (hl : x.length = a.length + b.length) (hx5 : ∀ i, i < x.length → 0 ≤ gt x i ∧ gt x i ≤ 1000) :
    Calls Try.prog 64 #[va, vb, vx] w fun e w' => e = .returned (.int .i64 (bal a b x)) ∧ Below w.heap.size w w' := by
  obtain ⟨A0, c0, rfl, hc0, hr0⟩ := ha
  obtain ⟨A1, c1, rfl, hc1, hr1⟩ := hb
  obtain ⟨A2, c2, rfl, hc2, hr2⟩ := hx
  have hev := balance_ev a b x (by omega) (small_five fa (by omega) (fun i hi => hx5 i (by omega))) (small_five fb (by omega) (fun i hi => by
    have := hx5 (a.length + i) (by omega)
    have e : gt (x.drop a.length) i = gt x (a.length + i) := by simp [gt]
    rw [e]; exact this)) (by omega)
  rw [bal_eq] at hev
  obtain ⟨k, hk⟩ := hev.rounds
  refine (impl_balance.calls k A0 c0 a A1 c1 b A2 c2 x _ w hr0 hc0 hr1 hc1 hr2 hc2 hk).mono ?_
  rintro e w' ⟨rfl, ⟨n, rfl⟩⟩
  exact ⟨rfl, pw_below_drewN (Below.refl _ _) _⟩
theorem nowhere_any (vx vy : Value) (x y : List Int) (w : World) (hx : RdI w vx x) (hy : RdI w vy y) (hxy : x.length ≤ y.length) (hl : x.length ≤ 1048576) :
    Calls Try.prog 75 #[vx, vy] w fun e w' => e = .returned (.bool (below x y)) ∧ Below w.heap.size w w' := by
  obtain ⟨A0, c0, rfl, hc0, hr0⟩ := hx
  obtain ⟨A1, c1, rfl, hc1, hr1⟩ := hy
  obtain ⟨k, hk⟩ := (nowhere_ev x y hxy hl).rounds
  refine (impl_nowhereGreater.calls k A0 c0 x A1 c1 y _ w hr0 hc0 hr1 hc1 hk).mono ?_
  rintro e w' ⟨rfl, ⟨n, rfl⟩⟩
  exact ⟨rfl, pw_below_drewN (Below.refl _ _) _⟩
theorem next_any (v : Value) (c : List Int) (w0 w : World) (hB : Below w0.heap.size w0 w) (ho : OwI w0.heap.size w v c) (hl : c.length ≤ 1048576) (h5 : ∀ x ∈ c, 0 ≤ x ∧ x ≤ 5) (r1 : Bool) (r2 : List Int) (hr : nextR c 0 = (r1, r2)) :
    Calls Try.prog 73 #[v, .int .i64 6] w fun e w' => e = .returned (.bool r1) ∧ OwI w0.heap.size w' v r2 ∧ Below w0.heap.size w0 w' ∧ Kept w w' (Fp v) := by
  obtain ⟨k, hk⟩ := (next_ev c hl h5).rounds
  rw [hr] at hk
  refine (impl_nextChoice.calls k (Fp v) v c 6 r1 r2 w0 w hB ho hk).mono ?_
  rintro e w' ⟨rfl, ho, hb, hk⟩
  exact ⟨rfl, OwI.of ho, hb, hk⟩
theorem clone_rd (v : Value) (l : List Int) (w : World) (hr : RdI w v l) (hlen : l.length ≤ 1048576) (hne : ∃ k, v.ownBlock = some k) :
    Calls Try.prog 74 #[v] w fun e w' => ∃ v', e = .returned v' ∧ OwI w.heap.size w' v' l ∧ Below w.heap.size w w' := by
  obtain ⟨A, c, rfl, hc, hC⟩ := hr
  obtain ⟨k, hk⟩ := hne
  cases A with
  | none => simp [Value.ownBlock] at hk
  | some ad => exact clone_any ad c l w hC hc hlen
theorem most_any (v : Value) (l : List Int) (w : World) (h : RdI w v l) (hl : l.length ≤ 1048576) :
    Calls Try.prog 82 #[v] w fun e w' => e = .returned (.int .i64 (mostN l : Nat)) ∧ Below w.heap.size w w' := by
  obtain ⟨A0, c0, rfl, hc0, hr0⟩ := h
  obtain ⟨k, hk⟩ := (most_ev l hl).rounds
  refine (spec_l34Most.calls k A0 c0 l _ w hr0 hc0 hk).mono ?_
  rintro e w' ⟨rfl, ⟨n, rfl⟩⟩
  exact ⟨rfl, pw_below_drewN (Below.refl _ _) _⟩
theorem sums_of {a b x : List Int} (fa : Fac a) (fb : Fac b) (h5 : a.length + b.length ≤ 5) (hl : x.length = a.length + b.length) (hx : ∀ i, i < x.length → 0 ≤ gt x i ∧ gt x i ≤ 5) :
    (∃ k, spec_l34Sum.f k a (x.take a.length) = some (dot a (x.take a.length))) ∧ (∃ k, spec_l34Sum.f k b (x.drop a.length) = some (dot b (x.drop a.length))) ∧ (solve a b x = (decide (dot a (x.take a.length) = dot b (x.drop a.length)) && !zeroB x)) := by
  refine ⟨(l34Sum_ev a (x.take a.length) (by simp; omega) ?_).rounds, (l34Sum_ev b (x.drop a.length) (by simp; omega) ?_).rounds, ?_⟩
  · refine small_five fa (by omega) (fun i hi => ?_)
    have := hx i (by omega)
    have e : gt (x.take a.length) i = gt x i := by simp [gt, List.getElem?_take, hi]
    rw [e]
    omega
  · refine small_five fb (by omega) (fun i hi => ?_)
    have := hx (a.length + i) (by omega)
    have e : gt (x.drop a.length) i = gt x (a.length + i) := by simp [gt]
    rw [e]
    omega
  · unfold solve
    rw [← bal_eq, dot_take a.length (Nat.le_refl _)]
    congr 1
    by_cases e : dot a x = dot b (x.drop a.length)
    · rw [e]; simp
    · have : ¬ (dot a x - dot b (x.drop a.length) = 0) := by omega
      simp [e, this]
end Go.Proofs.Ytfnkobcmhbdcoaa.PureDio
end
section
/- The reference's list of candidates (l34All). -/


namespace Go.Proofs.Ytfnkobcmhbdcoaa.SolA
open Go.RowKit Go.Proofs.YtfnkobcmhbdcoaaW.PrintWords Go.Proofs.YtfnkobcmhbdcoaaW.PrintLast Go.Proofs.YtfnkobcmhbdcoaaW.PrintMore Go.Proofs.Ytfnkobcmhbdcoaa.Base Go.Proofs.Ytfnkobcmhbdcoaa.XTypes Go.Proofs.Ytfnkobcmhbdcoaa.XInts Go.Proofs.Ytfnkobcmhbdcoaa.XProb Go.Proofs.Ytfnkobcmhbdcoaa.XSum Go.Proofs.Ytfnkobcmhbdcoaa.Problem Go.Proofs.Ytfnkobcmhbdcoaa.PureInts Go.Proofs.Ytfnkobcmhbdcoaa.PureSum Go.Proofs.Ytfnkobcmhbdcoaa.Typed Go.Proofs.Ytfnkobcmhbdcoaa.Trees Go.Proofs.Ytfnkobcmhbdcoaa.MarkT Go.Proofs.Ytfnkobcmhbdcoaa.Rows2 Go.Proofs.Ytfnkobcmhbdcoaa.GathR Go.Proofs.Ytfnkobcmhbdcoaa.Dio Go.Proofs.Ytfnkobcmhbdcoaa.DioL Go.Proofs.Ytfnkobcmhbdcoaa.PureDio
set_option linter.unusedVariables false
set_option linter.unusedSimpArgs false
set_option linter.unnecessarySimpa false

/-- What l34All gives, handed ls. -/
structure Given (w0 : World) (vout : Value) (vs : List Value) (ls : List (List Int)) (w : World) (e : Ending) (w' : World) : Prop where
  out : ∃ v' vs', e = .returned v' ∧ Ga w0.heap.size v' ls vs' w' ∧ (v'.ownBlock = vout.ownBlock ∨ ∃ b, v'.ownBlock = some b ∧ w.heap.size ≤ b) ∧ ∀ k ∈ blks vs', k ∈ blks vs ∨ w.heap.size ≤ k
  b : Below w0.heap.size w0 w'
  k : Kept w w' (fun k => vout.ownBlock = some k)
theorem kept_refl (w : World) (P : Nat → Prop) : Kept w w P := ⟨Nat.le_refl _, fun _ _ _ => rfl⟩
theorem kept_below {w w' : World} {P : Nat → Prop} (h : Below w.heap.size w w') : Kept w w' P := ⟨h.size, fun k hk _ => h.block k hk⟩
theorem kept_trans {w w1 w2 : World} {P : Nat → Prop} (h : Kept w w1 P) (h' : Kept w1 w2 P) : Kept w w2 P := ⟨Nat.le_trans h.1 h'.1, fun k hk hp => (h'.2 k (Nat.lt_of_lt_of_le hk h.1) hp).trans (h.2 k hk hp)⟩
theorem kept_grown {w w' : World} {r : Option Nat} (h : w.grownBy w' r) : Kept w w' (fun k => r = some k) := ⟨h.size, fun k hk hp => h.block k hk (fun e => hp e.symm)⟩

theorem far_of {W V w : World} {B : Nat} {vout : Value} {ls : List (List Int)} {vs : List Value} {o : Obj} (hV : V = W.alloc o) (hG : Ga B vout ls vs w) (hb : Below w.heap.size w W) : ∀ k, Value.ownBlock (.slice (some ⟨W.heap.size, 0, none⟩) 0 0) = some k → k ∉ blks vs ∧ vout.ownBlock ≠ some k := fun k hk => by
  have e : W.heap.size = k := by simpa [Value.ownBlock] using hk
  have := hb.size
  exact ⟨fun hs => by have := hG.lt k hs; omega, fun ho => by have := hG.out_lt ho; omega⟩
theorem far_new {W V w w0 : World} {vout u : Value} {ls : List (List Int)} {vs : List Value} {o : Obj} (hV : V = W.alloc o) (hG : Ga w0.heap.size vout ls vs w) (hb : Below w.heap.size w W) (hB : Below w0.heap.size w0 w)
    (hat : u.ownBlock = Value.ownBlock (.slice (some ⟨W.heap.size, 0, none⟩) 0 0) ∨ ∃ b, u.ownBlock = some b ∧ V.heap.size ≤ b) : ∀ k, Fp u k → w0.heap.size ≤ k ∧ k ∉ blks vs ∧ vout.ownBlock ≠ some k ∧ W.heap.size ≤ k := fun k hk => by
  have hle : W.heap.size ≤ k := by
    unfold Fp at hk
    rcases hat with hat | ⟨b, hb', h⟩
    · rw [hat] at hk
      have : W.heap.size = k := by simpa [Value.ownBlock] using hk
      omega
    · rw [hb'] at hk
      injection hk with hk
      rw [hV] at h
      simp at h
      omega
  have h1 := hb.size
  have h2 := hB.size
  exact ⟨by omega, fun hs => by have := hG.lt k hs; omega, fun ho => by have := hG.out_lt ho; omega, hle⟩

set_option maxHeartbeats 4000000 in
set_option maxRecDepth 100000 in
theorem all_end (a b x : List Int) (fa : Fac a) (fb : Fac b) (h5 : a.length + b.length ≤ 5) (hl : x.length = a.length + b.length) (hx : ∀ i, i < x.length → 0 ≤ gt x i ∧ gt x i ≤ 5) (va vb vx vout : Value) (ls : List (List Int)) (vs : List Value) (w0 w : World)
    (ha : RdI w0 va a) (hb : RdI w0 vb b) (hB : Below w0.heap.size w0 w) (ho : OwI w0.heap.size w vx x) (hG : Ga w0.heap.size vout ls vs w) (hA : ∀ k, Fp vx k → k ∉ blks vs ∧ vout.ownBlock ≠ some k) (hn : ls.length ≤ 100000) :
    Calls Try.prog 71 #[va, vb, vx, vout] w (Given w0 vout vs (ls ++ ext a b x) w) := by
  obtain ⟨A0, c0, rfl, hc0, hr0⟩ := ha.below hB
  obtain ⟨A1, c1, rfl, hc1, hr1⟩ := hb.below hB
  obtain ⟨A2, c2, rfl, hc2, hr2⟩ := ho.rd
  obtain ⟨A3, c3, rfl, _, _⟩ := hG.rd
  obtain ⟨⟨k1, hk1⟩, ⟨k2, hk2⟩, hsol⟩ := sums_of fa fb h5 hl hx
  obtain ⟨k3, hk3⟩ := (zero_ev x (by omega)).rounds
  have hext := ext_end hl
  generalize dot a (x.take a.length) = d1 at *
  generalize dot b (x.drop a.length) = d2 at *
  obtain ⟨i0, hi0, _, hsz, _⟩ := info_parts info_int
  obtain ⟨hcut1, hA1, hC1⟩ := print_take_of (P := Try.prog) (Value.int .i64) 0 24 3 .i64 Try.underlying24 hi0 hsz A2 c2 x (a.length : Int) (by omega) (by omega) hc2
  obtain ⟨A4, hcut2, hA2, hC2⟩ := print_drop_of (P := Try.prog) (Value.int .i64) 0 24 3 .i64 Try.underlying24 hi0 hsz A2 c2 x (a.length : Int) (by omega) (by omega) hc2
  simp only [Int.toNat_natCast] at hcut1 hA1 hC1 hcut2 hA2 hC2
  have HRa := Lib.hid (Kd.C_of_reads (h1 := fun _ => rfl) (hA1 _ (Kd.reads_of_C hr2)))
  have HRb := Lib.hid (Kd.C_of_reads (h1 := fun _ => rfl) (hA2 _ (Kd.reads_of_C hr2)))
  have HCa := Lib.hid hC1
  have HCb := Lib.hid hC2
  have HR0 := Lib.hid hr0
  have HR1 := Lib.hid hr1
  have HR2 := Lib.hid hr2
  have HC0 := Lib.hid hc0
  have HC1 := Lib.hid hc1
  have HC2 := Lib.hid hc2
  have HK1 := Lib.hid hk1
  have HK2 := Lib.hid hk2
  have HK3 := Lib.hid hk3
  have HS := Lib.hid (And.intro hsol hext)
  have HB := Lib.hid hB
  have HO := Lib.hid ho
  have HG := Lib.hid hG
  have HA := Lib.hid hA
  clear hk1 hk2 hk3 hA1 hC1 hA2 hC2 hi0 hsz hr0 hr1 hr2 hc0 hc1 hc2 hsol hext hB ho hG hA ha hb hx fa fb
  generalize hya : x.take a.length = ya at *
  generalize hyb : x.drop a.length = yb at *
  have hl1 : ((x.length : Int) == (a.length : Int) + b.length) = true := by rw [hl]; simp
  have HL := Lib.hid hl
  clear hya hyb hl
  have hzb : ∃ zb, zb = zeroB x := ⟨_, rfl⟩
  obtain ⟨zb, hzb⟩ := hzb
  rw [← hzb] at HS HK3
  have HZ := Lib.hid hzb
  clear hzb
  go_enter Try.func71, Try.ntmps71
  by_cases hd : d1 = d2
  · have hd1 : ((d1 : Int) == d2) = true := by rw [beq_iff_eq]; exact hd
    have HD := Lib.hid hd
    clear hd
    go_wp2_with fail
    go_quiet (first | (go_at_call 81; (with_reducible refine (spec_l34Zero.calls k3 _ _ x _ _ ?s1 ?s2 HK3.out).mono ?_); (case s1 => repeat (first | exact HR2.out | (with_reducible refine Kd.C_drewN ?_ _) | (with_reducible refine Kd.C_drew ?_))); (case s2 => exact HC2.out); rintro e w' ⟨rfl, ⟨nd, rfl⟩⟩; (first | exact ⟨rfl, _, World.drewN_drewN _ _ _⟩ | exact ⟨rfl, _, Eq.trans (World.drewN_drewN _ _ _) (congrArg (World.drewN _) (Nat.add_assoc _ _ _))⟩)) | (go_at_call 63; (with_reducible refine (spec_l34Sum.calls k1 _ _ a _ _ ya _ _ ?s1 ?s2 ?s3 ?s4 HK1.out).mono ?_); (case s1 => repeat (first | exact HR0.out | (with_reducible refine Kd.C_drewN ?_ _) | (with_reducible refine Kd.C_drew ?_))); (case s2 => exact HC0.out); (case s3 => repeat (first | exact HRa.out | (with_reducible refine Kd.C_drewN ?_ _) | (with_reducible refine Kd.C_drew ?_))); (case s4 => exact HCa.out); rintro e w' ⟨rfl, ⟨nd, rfl⟩⟩; (first | exact ⟨rfl, _, World.drewN_drewN _ _ _⟩ | exact ⟨rfl, _, Eq.trans (World.drewN_drewN _ _ _) (congrArg (World.drewN _) (Nat.add_assoc _ _ _))⟩)) | (go_at_call 63; (with_reducible refine (spec_l34Sum.calls k2 _ _ b _ _ yb _ _ ?s1 ?s2 ?s3 ?s4 HK2.out).mono ?_); (case s1 => repeat (first | exact HR1.out | (with_reducible refine Kd.C_drewN ?_ _) | (with_reducible refine Kd.C_drew ?_))); (case s2 => exact HC1.out); (case s3 => repeat (first | exact HRb.out | (with_reducible refine Kd.C_drewN ?_ _) | (with_reducible refine Kd.C_drew ?_))); (case s4 => exact HCb.out); rintro e w' ⟨rfl, ⟨nd, rfl⟩⟩; (first | exact ⟨rfl, _, World.drewN_drewN _ _ _⟩ | exact ⟨rfl, _, Eq.trans (World.drewN_drewN _ _ _) (congrArg (World.drewN _) (Nat.add_assoc _ _ _))⟩)))
    obtain ⟨W, hW⟩ : ∃ W, W = w.drewN nq := ⟨_, rfl⟩
    have bW : Below w.heap.size w W := by rw [hW]; exact pw_below_drewN (Below.refl _ _) _
    rw [← hW]
    clear hW
    cases zb with
    | true =>
      have hfin : ls ++ ext a b x = ls := by rw [HS.out.2, HS.out.1]; simp
      have HF := Lib.hid (And.intro hfin bW)
      clear hfin bW
      go_wp2_with fail
      go_ret
      refine ⟨⟨_, vs, rfl, ?_, .inl rfl, fun k hk => .inl hk⟩, below_to HB.out HF.out.2 HB.out.size, kept_below HF.out.2⟩
      rw [HF.out.1]
      exact HG.out.below HF.out.2
    | false =>
      have hfin : ext a b x = [x] := by rw [HS.out.2, HS.out.1, HD.out]; simp
      have HF := Lib.hid hfin
      have BW := Lib.hid bW
      have bW0 := below_to HB.out bW HB.out.size
      obtain ⟨V, hV⟩ : ∃ V, V = W.alloc (.cells #[] 3) := ⟨_, rfl⟩
      have bV : Below W.heap.size W V := by rw [hV]; exact below_alloc (Below.refl _ _) _
      have hr : Kd.R (Kd.int .i64) 3 V w0.heap.size (fun _ => True) (.slice (some ⟨W.heap.size, 0, none⟩) 0 0) [] :=
        ⟨fun _ _ => trivial, [], ⟨rfl, .inr ⟨W.heap.size, 0, #[], rfl, bW0.size, by rw [hV]; exact blk_new _ _, Nat.le_refl _, by decide, rfl, rfl⟩⟩, Reps.none _ _⟩
      have bwV := bW.trans (bV.mono bW.size)
      have HV := Lib.hid (And.intro hr (And.intro (below_to bW0 bV bW0.size) (Kd.C_below HR2.out bwV)))
      have HBV := Lib.hid (And.intro bwV (HG.out.below bwV))
      clear hfin bW bW0 bV hr bwV
      have hxl : x.length ≤ 5 := by rw [HL.out]; exact h5
      go_wp2_with (first | ((with_reducible refine gate_builtin (b := .append) (xs := #[.tmp 38, .tmp 39]) rfl ?_); rw [← hV]; refine Kd.R_append_row (Value.int .i64) (0 : Int) (w0 := w0) w0.heap.size rfl (.tmp 38) (.tmp 39) 24 3 (.int .i64 0) 8 rfl Try.underlying24 info_int rfl (by decide) (.slice (some ⟨W.heap.size, 0, none⟩) 0 0) [] x A2 x.length c2 (fun _ => True) rfl rfl (fun _ _ => trivial) HV.out.1 HV.out.2.2 HV.out.2.1 HV.out.2.1.size (by simp; omega) ?_; intro u w1 ho1 hb1 hg1 hat1; have hou : OwI w0.heap.size w1 u x := OwI.of ho1; have HO1 := Lib.hid (And.intro hb1 (And.intro hg1 hat1)); clear ho1 hb1 hg1 hat1; obtain ⟨A9, c9, e9, _, _⟩ := hou.rd; subst e9; have HU := Lib.hid hou; have HG1 := Lib.hid (HBV.out.2.grown HO1.out.2.1 (far_of hV HG.out BW.out)); have HFU := Lib.hid (far_new hV HG.out BW.out HB.out HO1.out.2.2); have HGO := Lib.hid (Kd.raw_any HG1.out.out); have HVL := Lib.hid HG1.out.len; clear hou) | ((with_reducible refine gate_builtin (b := .append) (xs := #[.tmp 37, .tmp 41]) rfl ?_); at_builtin; refine Kd.R_append (Kd.raw 1) (w0 := w0) w0.heap.size rfl (.tmp 37) (.tmp 41) 27 24 (.slice none 0 0) 24 rfl Try.underlying27 info24 rfl (by decide) (by omega) (.slice A3 ls.length c3) (vs.map fun v => [v]) [.slice A9 x.length c9] [.slice A9 x.length c9] (fun _ => True) (fun _ => False) rfl rfl ?aP (fun _ hk => hk.elim) (fun _ _ => trivial) ?aO ?aB ?aS ?aL ?_; (case aP => exact ⟨rfl, rfl, fun u hu => by rw [List.mem_singleton.1 hu]; rfl⟩); (case aB => exact HO1.out.1); (case aO => exact HGO.out); (case aS => exact HO1.out.1.size); (case aL => rw [List.length_map]; have := HVL.out; omega); intro v6 w6 ho6 hb6 hg6 hat6; have HB6 := Lib.hid hb6; have HG6 := Lib.hid (Ga.push HG1.out (nx := x) HU.out (fun k hk => ⟨(HFU.out k hk).1, (HFU.out k hk).2.1, (HFU.out k hk).2.2.1⟩) ho6 hg6 hat6); have HX6 := Lib.hid (And.intro hg6 hat6); clear ho6 hb6 hg6 hat6))
      go_ret
      refine ⟨⟨v6, vs ++ [.slice A9 x.length c9], rfl, by rw [HF.out]; exact HG6.out, ?_, fun k hk => ?_⟩, HB6.out, ?_⟩
      · rcases HX6.out.2 with h | ⟨b', hb', hle⟩
        · exact .inl h
        · exact .inr ⟨b', hb', Nat.le_trans HBV.out.1.size (Nat.le_trans HO1.out.2.1.size hle)⟩
      · rw [blks_append, blks_one] at hk
        rcases List.mem_append.1 hk with hk | hk
        · exact .inl hk
        · exact .inr (Nat.le_trans BW.out.size (HFU.out k (own_iff.1 hk)).2.2.2)
      · refine kept_trans (w1 := w1) ⟨Nat.le_trans HBV.out.1.size HO1.out.2.1.size, fun k hk hp => ?_⟩ (kept_grown HX6.out.1)
        have h1 := BW.out.size
        have h2 := HBV.out.1.size
        exact (HO1.out.2.1.block k (by omega) (fun e => by simp [Value.ownBlock] at e; omega)).trans (HBV.out.1.block k hk)
  · have hd1 : ((d1 : Int) == d2) = false := by rw [beq_eq_false_iff_ne]; exact hd
    have hfin : ls ++ ext a b x = ls := by rw [HS.out.2, HS.out.1]; simp [hd]
    have HF := Lib.hid hfin
    clear hd hfin
    go_wp2_with fail
    go_quiet (first | (go_at_call 81; (with_reducible refine (spec_l34Zero.calls k3 _ _ x _ _ ?s1 ?s2 HK3.out).mono ?_); (case s1 => repeat (first | exact HR2.out | (with_reducible refine Kd.C_drewN ?_ _) | (with_reducible refine Kd.C_drew ?_))); (case s2 => exact HC2.out); rintro e w' ⟨rfl, ⟨nd, rfl⟩⟩; (first | exact ⟨rfl, _, World.drewN_drewN _ _ _⟩ | exact ⟨rfl, _, Eq.trans (World.drewN_drewN _ _ _) (congrArg (World.drewN _) (Nat.add_assoc _ _ _))⟩)) | (go_at_call 63; (with_reducible refine (spec_l34Sum.calls k1 _ _ a _ _ ya _ _ ?s1 ?s2 ?s3 ?s4 HK1.out).mono ?_); (case s1 => repeat (first | exact HR0.out | (with_reducible refine Kd.C_drewN ?_ _) | (with_reducible refine Kd.C_drew ?_))); (case s2 => exact HC0.out); (case s3 => repeat (first | exact HRa.out | (with_reducible refine Kd.C_drewN ?_ _) | (with_reducible refine Kd.C_drew ?_))); (case s4 => exact HCa.out); rintro e w' ⟨rfl, ⟨nd, rfl⟩⟩; (first | exact ⟨rfl, _, World.drewN_drewN _ _ _⟩ | exact ⟨rfl, _, Eq.trans (World.drewN_drewN _ _ _) (congrArg (World.drewN _) (Nat.add_assoc _ _ _))⟩)) | (go_at_call 63; (with_reducible refine (spec_l34Sum.calls k2 _ _ b _ _ yb _ _ ?s1 ?s2 ?s3 ?s4 HK2.out).mono ?_); (case s1 => repeat (first | exact HR1.out | (with_reducible refine Kd.C_drewN ?_ _) | (with_reducible refine Kd.C_drew ?_))); (case s2 => exact HC1.out); (case s3 => repeat (first | exact HRb.out | (with_reducible refine Kd.C_drewN ?_ _) | (with_reducible refine Kd.C_drew ?_))); (case s4 => exact HCb.out); rintro e w' ⟨rfl, ⟨nd, rfl⟩⟩; (first | exact ⟨rfl, _, World.drewN_drewN _ _ _⟩ | exact ⟨rfl, _, Eq.trans (World.drewN_drewN _ _ _) (congrArg (World.drewN _) (Nat.add_assoc _ _ _))⟩)))
    go_wp2_with fail
    go_ret
    have bW : Below w.heap.size w (w.drewN nq) := pw_below_drewN (Below.refl _ _) _
    refine ⟨⟨_, vs, rfl, ?_, .inl rfl, fun k hk => .inl hk⟩, below_to HB.out bW HB.out.size, kept_below bW⟩
    rw [HF.out]
    exact HG.out.below bW

theorem fp_new {W V : World} {u : Value} {o : Obj} (hV : V = W.alloc o) (hat : u.ownBlock = Value.ownBlock (.slice (some ⟨W.heap.size, 0, none⟩) 0 0) ∨ ∃ b, u.ownBlock = some b ∧ V.heap.size ≤ b) : ∀ k, u.ownBlock = some k → W.heap.size ≤ k := fun k hk => by
  rcases hat with hat | ⟨b, hb', h⟩
  · rw [hat] at hk
    have : W.heap.size = k := by simpa [Value.ownBlock] using hk
    omega
  · rw [hb'] at hk
    injection hk with hk
    rw [hV] at h
    simp at h
    omega
theorem range_snoc (a b x : List Int) (ls : List (List Int)) (j : Nat) : (ls ++ (List.range j).flatMap (fun (k : Nat) => ext a b (x ++ [(k : Int)]))) ++ ext a b (x ++ [(j : Int)]) = ls ++ (List.range (j + 1)).flatMap (fun (k : Nat) => ext a b (x ++ [(k : Int)])) := by
  rw [List.range_succ, List.flatMap_append]
  simp
theorem range_len {a b : List Int} (fa : Fac a) (fb : Fac b) (x : List Int) (d : Nat) (hd : a.length + b.length - x.length = d + 1) : ∀ m, ((List.range m).flatMap (fun (k : Nat) => ext a b (x ++ [(k : Int)]))).length ≤ m * 6 ^ d := by
  intro m
  induction m with
  | zero => simp
  | succ m ihm =>
    rw [List.range_succ, List.flatMap_append, List.length_append]
    have h1 := ext_len fa fb d (x ++ [(m : Int)]) (by simp; omega)
    simp only [List.flatMap_cons, List.flatMap_nil, List.append_nil]
    rw [Nat.add_mul]
    omega
set_option maxHeartbeats 4000000 in
set_option maxRecDepth 100000 in
theorem spec_all (a b : List Int) (fa : Fac a) (fb : Fac b) (h5 : a.length + b.length ≤ 5) (va vb : Value) (w0 : World) (ha : RdI w0 va a) (hb : RdI w0 vb b) : ∀ (d : Nat) (x : List Int) (vx vout : Value) (ls : List (List Int)) (vs : List Value) (w : World),
    a.length + b.length - x.length = d → x.length ≤ a.length + b.length → (∀ i, i < x.length → 0 ≤ gt x i ∧ gt x i ≤ 5) → Below w0.heap.size w0 w → OwI w0.heap.size w vx x → Ga w0.heap.size vout ls vs w → (∀ k, Fp vx k → k ∉ blks vs ∧ vout.ownBlock ≠ some k) → ls.length + 6 ^ d ≤ 100000 →
    Calls Try.prog 71 #[va, vb, vx, vout] w (Given w0 vout vs (ls ++ ext a b x) w) := by
  intro d
  induction d with
  | zero =>
    intro x vx vout ls vs w hd hl hx hB ho hG hA hn
    exact all_end a b x fa fb h5 (by omega) hx va vb vx vout ls vs w0 w ha hb hB ho hG hA (by omega)
  | succ d ih =>
    intro x vx vout ls vs w hd hl hx hB ho hG hA hn
    have ha' := ha.below hB
    have hb' := hb.below hB
    have hRdA := ha
    have hRdB := hb
    obtain ⟨A0, c0, rfl, hc0, hr0⟩ := ha
    obtain ⟨A1, c1, rfl, hc1, hr1⟩ := hb
    obtain ⟨A2, c2, e2, hc2, _⟩ := ho.rd
    subst e2
    have hstep := ext_step (a := a) (b := b) (x := x) (by omega)
    have hlen := range_len fa fb x d hd
    have hget := bnds_get (a := a) (b := b) x.length (by omega)
    have hma := mostN_le fa
    have hmb := mostN_le fb
    have hl1 : ((x.length : Int) == (a.length : Int) + b.length) = false := by rw [beq_eq_false_iff_ne]; omega
    have HIH := Lib.hid ih
    have HRA := Lib.hid (And.intro hRdA (And.intro hRdB (And.intro ha' hb')))
    have HST := Lib.hid (And.intro hstep hlen)
    have HX := Lib.hid hx
    have HB := Lib.hid hB
    have HO := Lib.hid ho
    have HG := Lib.hid hG
    have HA := Lib.hid hA
    have HC2 := Lib.hid hc2
    have hpow : 6 ^ (d + 1) = 6 * 6 ^ d := by rw [Nat.pow_succ, Nat.mul_comm]
    rw [hpow] at hn
    have HN := Lib.hid hn
    have HD := Lib.hid hd
    clear ih hRdA hRdB ha' hb' hstep hlen hx hB ho hG hA hr0 hr1 hc0 hc1 hc2 fa fb hpow hn hd
    go_enter Try.func71, Try.ntmps71
    go_wp2_with fail
    refine (most_any _ b _ HRA.out.2.2.2 (by omega)).mono ?_
    rintro e w1 ⟨rfl, b1⟩
    have B1 := Lib.hid b1
    clear b1
    obtain ⟨M, hM⟩ : ∃ M, M = (bnds a b).getD x.length 0 := ⟨_, rfl⟩
    rw [← hM] at hget HST
    have HMM := Lib.hid hM
    clear hM
    by_cases hxa : a.length ≤ x.length
    · rw [if_neg (by omega)] at hget
      have HGET := Lib.hid hget
      generalize hmbv : mostN b = mb at *
      clear hget hmbv
      go_wp2_with fail
      refine (most_any _ a _ (HRA.out.2.2.1.below B1.out) (by omega)).mono ?_
      rintro e w2 ⟨rfl, b2⟩
      have BW := Lib.hid (B1.out.trans (b2.mono B1.out.size))
      rw [← HGET.out]
      have hM5 : M ≤ 5 := by rw [HGET.out]; exact hma
      clear b2 hma hmb HGET B1
      go_wp2_with fail
      go_loopw [3, 10] (fun v k wr => ∃ j : Nat, j ≤ M + 1 ∧ k = .int .i64 j ∧ ∃ vsj, Aside0 (Ga w0.heap.size v (ls ++ (List.range j).flatMap (fun (k : Nat) => ext a b (x ++ [(k : Int)]))) vsj wr) ∧ Aside0 (Below w0.heap.size w0 wr ∧ Kept w wr (fun k => vout.ownBlock = some k)) ∧ Aside0 ((v.ownBlock = vout.ownBlock ∨ ∃ b, v.ownBlock = some b ∧ w.heap.size ≤ b) ∧ ∀ k ∈ blks vsj, k ∈ blks vs ∨ w.heap.size ≤ k)) (fun _ k _ => M + 1 - (intOf k).toNat)
      case atStart => exact ⟨0, Nat.zero_le _, rfl, vs, ⟨by simpa using HG.out.below BW.out⟩, ⟨below_to HB.out BW.out HB.out.size, kept_below BW.out⟩, ⟨.inl rfl, fun k hk => .inl hk⟩⟩
      case round =>
        obtain ⟨j, hj, rfl, vsj, hG, hB, hV⟩ := hrel
        by_cases hlt : j < M + 1
        · have hle : j ≤ M := by omega
          have hox : OwI w0.heap.size wr (.slice A2 x.length c2) x := HO.out.step (fun k hk hlt => hB.out.2.2 k hlt (fun hp => (HA.out k hk).2 hp))
          obtain ⟨V, hVe⟩ : ∃ V, V = wr.alloc (.cells #[] 3) := ⟨_, rfl⟩
          have bV : Below wr.heap.size wr V := by rw [hVe]; exact below_alloc (Below.refl _ _) _
          have hr : Kd.R (Kd.int .i64) 3 V w0.heap.size (fun _ => True) (.slice (some ⟨wr.heap.size, 0, none⟩) 0 0) [] :=
            ⟨fun _ _ => trivial, [], ⟨rfl, .inr ⟨wr.heap.size, 0, #[], rfl, hB.out.1.size, by rw [hVe]; exact blk_new _ _, Nat.le_refl _, by decide, rfl, rfl⟩⟩, Reps.none _ _⟩
          obtain ⟨_, _, ex, _, hCx⟩ := hox.rd
          injection ex with ex1 _ ex3
          subst ex1
          subst ex3
          have HV2 := Lib.hid (And.intro hr (And.intro (below_to hB.out.1 bV hB.out.1.size) (Kd.C_below hCx bV)))
          have HOX := Lib.hid (And.intro hox bV)
          have hx5 : x.length ≤ 5 := by omega
          have HSN := Lib.hid (range_snoc a b x ls j)
          have HLJ := Lib.hid (show (ls ++ (List.range j).flatMap (fun (k : Nat) => ext a b (x ++ [(k : Int)]))).length + 6 ^ d ≤ 100000 by
            rw [List.length_append]
            have h1 := HST.out.2 j
            have h2 := HN.out
            have h3 : (j + 1) * 6 ^ d ≤ 6 * 6 ^ d := Nat.mul_le_mul_right _ (by omega)
            rw [Nat.add_mul] at h3
            omega)
          clear bV hr hox hCx
          go_wp2_with (first | ((with_reducible refine gate_builtin (b := .append) (xs := #[.tmp 60, .tmp 61]) rfl ?_); rw [← hVe]; refine Kd.R_append_row (Value.int .i64) (0 : Int) (w0 := w0) w0.heap.size rfl (.tmp 60) (.tmp 61) 24 3 (.int .i64 0) 8 rfl Try.underlying24 info_int rfl (by decide) (.slice (some ⟨wr.heap.size, 0, none⟩) 0 0) [] x A2 x.length c2 (fun _ => True) rfl rfl (fun _ _ => trivial) HV2.out.1 HV2.out.2.2 HV2.out.2.1 HV2.out.2.1.size (by simp; omega) ?_; intro u w3 ho3 hb3 hg3 hat3; have HO3 := Lib.hid (And.intro ho3 (And.intro hb3 (And.intro hg3 hat3))); clear ho3 hb3 hg3 hat3) | ((with_reducible refine gate_builtin (b := .append) (xs := #[.tmp 62, .tmp 64]) rfl ?_); refine Kd.R_append (Kd.int .i64) (w0 := w0) w0.heap.size rfl (.tmp 62) (.tmp 64) 24 3 (.int .i64 0) 8 rfl Try.underlying24 info3 rfl (by decide) (by omega) u x (j : Int) [.int .i64 (j : Int)] (fun _ => True) (fun _ => False) rfl rfl ?aP (fun _ hk => hk.elim) (fun _ _ => trivial) ?aO ?aB ?aS ?aL ?_; (case aP => exact rfl); (case aB => exact HO3.out.2.1); (case aO => exact HO3.out.1); (case aS => exact HO3.out.2.1.size); (case aL => omega); intro u2 w4 ho4 hb4 hg4 hat4; have HO4 := Lib.hid (And.intro (OwI.of ho4) (And.intro hb4 (And.intro hg4 hat4))); clear ho4 hb4 hg4 hat4))
          have hfu : ∀ k, u.ownBlock = some k → wr.heap.size ≤ k := fp_new hVe HO3.out.2.2.2
          have h43 : wr.heap.size ≤ w3.heap.size := Nat.le_trans HOX.out.2.size HO3.out.2.2.1.size
          have hfu2 : ∀ k, u2.ownBlock = some k → wr.heap.size ≤ k := fun k hk => by
            rcases HO4.out.2.2.2 with h | ⟨b', hb', hle'⟩
            · exact hfu k (h ▸ hk)
            · rw [hb'] at hk; injection hk with hk; omega
          have hfar : ∀ (r : Option Nat), (∀ k, r = some k → wr.heap.size ≤ k) → ∀ k, r = some k → k ∉ blks vsj ∧ u3.ownBlock ≠ some k := fun r hr k hk => by
            have h1 := hr k hk
            exact ⟨fun hs => by have := hG.out.lt k hs; omega, fun ho => by have := hG.out.out_lt ho; omega⟩
          have hG3 := (hG.out.below HOX.out.2).grown HO3.out.2.2.1 (fun k hk => hfar _ (fun k hk => Nat.le_of_eq (by simpa [Value.ownBlock] using hk)) k hk)
          have hG4 := hG3.grown HO4.out.2.2.1 (fun k hk => hfar _ hfu k hk)
          have hk34 : ∀ k, k < wr.heap.size → w4.heap[k]? = wr.heap[k]? := fun k hk => by
            have h1 : k < V.heap.size := Nat.lt_of_lt_of_le hk HOX.out.2.size
            have h2 : k < w3.heap.size := Nat.lt_of_lt_of_le h1 HO3.out.2.2.1.size
            exact (HO4.out.2.2.1.block k h2 (fun e => by have := hfu k e.symm; omega)).trans ((HO3.out.2.2.1.block k h1 (fun e => by simp [Value.ownBlock] at e; omega)).trans (HOX.out.2.block k hk))
          have h44 : wr.heap.size ≤ w4.heap.size := Nat.le_trans h43 HO4.out.2.2.1.size
          have HG4 := Lib.hid (And.intro hG4 (And.intro hk34 h44))
          have HFU2 := Lib.hid hfu2
          have hxs : (x ++ [(j : Int)]).length = x.length + 1 := by simp
          have hx5' : ∀ i, i < (x ++ [(j : Int)]).length → 0 ≤ gt (x ++ [(j : Int)]) i ∧ gt (x ++ [(j : Int)]) i ≤ 5 := fun i hi => by
            by_cases e : i < x.length
            · have := HX.out i e
              have e2 : gt (x ++ [(j : Int)]) i = gt x i := by simp [gt, List.getElem?_append_left e]
              rw [e2]
              exact this
            · obtain rfl : i = x.length := by omega
              have e2 : gt (x ++ [(j : Int)]) x.length = j := by simp [gt]
              rw [e2]
              omega
          have HX5 := Lib.hid hx5'
          clear hfu h43 hfu2 hfar hG3 hG4 hk34 h44 hx5' hVe
          refine (HIH.out (x ++ [(j : Int)]) u2 u3 _ vsj w4 (by have := HD.out; omega) (by have := HD.out; omega) HX5.out HO4.out.2.1 HO4.out.1 HG4.out.1 (fun k hk => ⟨fun hs => by have := hG.out.lt k hs; have := HFU2.out k hk; omega, fun ho => by have := hG.out.out_lt ho; have := HFU2.out k hk; omega⟩) HLJ.out).mono ?_
          rintro e w5 ⟨⟨v5, vs5, rfl, hg5, hat5, hm5⟩, hb5, hk5⟩
          have hn1 := hg5
          rw [HSN.out] at hn1
          have HN1 := Lib.hid hn1
          have HB5 := Lib.hid (And.intro hb5 (And.intro hk5 (And.intro hat5 hm5)))
          clear hg5 hat5 hm5 hb5 hk5 hn1 hxs
          go_wp2_with fail
          go_roundw
          case rel =>
            have hw := hB.out.2.1
            have h44 := HG4.out.2.2
            refine ⟨j + 1, by omega, by go_num, vs5, ⟨HN1.out⟩, ⟨HB5.out.1, ⟨by have := HB5.out.2.1.1; omega, fun k hk hp => ?_⟩⟩, ⟨?_, fun k hk => ?_⟩⟩
            · have h1 : u3.ownBlock ≠ some k := fun e => by
                rcases hV.out.1 with h | ⟨b', hb', hle'⟩
                · exact hp (h ▸ e)
                · rw [hb'] at e; injection e with e; omega
              exact (HB5.out.2.1.2 k (by omega) h1).trans ((HG4.out.2.1 k (by omega)).trans (hB.out.2.2 k hk hp))
            · rcases HB5.out.2.2.1 with h | ⟨b', hb', hle'⟩
              · rw [h]; exact hV.out.1
              · exact .inr ⟨b', hb', by omega⟩
            · rcases HB5.out.2.2.2 k hk with h | h
              · exact hV.out.2 k h
              · exact .inr (by omega)
          case measure => simp [intOf]; omega
        · obtain rfl : j = M + 1 := by omega
          go_wp2_with fail
          go_ret
          refine ⟨⟨_, vsj, rfl, ?_, hV.out.1, hV.out.2⟩, hB.out.1, hB.out.2⟩
          rw [HST.out.1]
          exact hG.out
    · rw [if_pos (by omega)] at hget
      have HGET := Lib.hid hget
      generalize hmbv : mostN b = mb at *
      clear hget hmbv
      have BW := B1
      have hM5 : M ≤ 5 := by rw [HGET.out]; exact hmb
      rw [← HGET.out]
      clear hma hmb HGET B1
      go_wp2_with fail
      go_loopw [3, 10] (fun v k wr => ∃ j : Nat, j ≤ M + 1 ∧ k = .int .i64 j ∧ ∃ vsj, Aside0 (Ga w0.heap.size v (ls ++ (List.range j).flatMap (fun (k : Nat) => ext a b (x ++ [(k : Int)]))) vsj wr) ∧ Aside0 (Below w0.heap.size w0 wr ∧ Kept w wr (fun k => vout.ownBlock = some k)) ∧ Aside0 ((v.ownBlock = vout.ownBlock ∨ ∃ b, v.ownBlock = some b ∧ w.heap.size ≤ b) ∧ ∀ k ∈ blks vsj, k ∈ blks vs ∨ w.heap.size ≤ k)) (fun _ k _ => M + 1 - (intOf k).toNat)
      case atStart => exact ⟨0, Nat.zero_le _, rfl, vs, ⟨by simpa using HG.out.below BW.out⟩, ⟨below_to HB.out BW.out HB.out.size, kept_below BW.out⟩, ⟨.inl rfl, fun k hk => .inl hk⟩⟩
      case round =>
        obtain ⟨j, hj, rfl, vsj, hG, hB, hV⟩ := hrel
        by_cases hlt : j < M + 1
        · have hle : j ≤ M := by omega
          have hox : OwI w0.heap.size wr (.slice A2 x.length c2) x := HO.out.step (fun k hk hlt => hB.out.2.2 k hlt (fun hp => (HA.out k hk).2 hp))
          obtain ⟨V, hVe⟩ : ∃ V, V = wr.alloc (.cells #[] 3) := ⟨_, rfl⟩
          have bV : Below wr.heap.size wr V := by rw [hVe]; exact below_alloc (Below.refl _ _) _
          have hr : Kd.R (Kd.int .i64) 3 V w0.heap.size (fun _ => True) (.slice (some ⟨wr.heap.size, 0, none⟩) 0 0) [] :=
            ⟨fun _ _ => trivial, [], ⟨rfl, .inr ⟨wr.heap.size, 0, #[], rfl, hB.out.1.size, by rw [hVe]; exact blk_new _ _, Nat.le_refl _, by decide, rfl, rfl⟩⟩, Reps.none _ _⟩
          obtain ⟨_, _, ex, _, hCx⟩ := hox.rd
          injection ex with ex1 _ ex3
          subst ex1
          subst ex3
          have HV2 := Lib.hid (And.intro hr (And.intro (below_to hB.out.1 bV hB.out.1.size) (Kd.C_below hCx bV)))
          have HOX := Lib.hid (And.intro hox bV)
          have hx5 : x.length ≤ 5 := by omega
          have HSN := Lib.hid (range_snoc a b x ls j)
          have HLJ := Lib.hid (show (ls ++ (List.range j).flatMap (fun (k : Nat) => ext a b (x ++ [(k : Int)]))).length + 6 ^ d ≤ 100000 by
            rw [List.length_append]
            have h1 := HST.out.2 j
            have h2 := HN.out
            have h3 : (j + 1) * 6 ^ d ≤ 6 * 6 ^ d := Nat.mul_le_mul_right _ (by omega)
            rw [Nat.add_mul] at h3
            omega)
          clear bV hr hox hCx
          go_wp2_with (first | ((with_reducible refine gate_builtin (b := .append) (xs := #[.tmp 60, .tmp 61]) rfl ?_); rw [← hVe]; refine Kd.R_append_row (Value.int .i64) (0 : Int) (w0 := w0) w0.heap.size rfl (.tmp 60) (.tmp 61) 24 3 (.int .i64 0) 8 rfl Try.underlying24 info_int rfl (by decide) (.slice (some ⟨wr.heap.size, 0, none⟩) 0 0) [] x A2 x.length c2 (fun _ => True) rfl rfl (fun _ _ => trivial) HV2.out.1 HV2.out.2.2 HV2.out.2.1 HV2.out.2.1.size (by simp; omega) ?_; intro u w3 ho3 hb3 hg3 hat3; have HO3 := Lib.hid (And.intro ho3 (And.intro hb3 (And.intro hg3 hat3))); clear ho3 hb3 hg3 hat3) | ((with_reducible refine gate_builtin (b := .append) (xs := #[.tmp 62, .tmp 64]) rfl ?_); refine Kd.R_append (Kd.int .i64) (w0 := w0) w0.heap.size rfl (.tmp 62) (.tmp 64) 24 3 (.int .i64 0) 8 rfl Try.underlying24 info3 rfl (by decide) (by omega) u x (j : Int) [.int .i64 (j : Int)] (fun _ => True) (fun _ => False) rfl rfl ?aP (fun _ hk => hk.elim) (fun _ _ => trivial) ?aO ?aB ?aS ?aL ?_; (case aP => exact rfl); (case aB => exact HO3.out.2.1); (case aO => exact HO3.out.1); (case aS => exact HO3.out.2.1.size); (case aL => omega); intro u2 w4 ho4 hb4 hg4 hat4; have HO4 := Lib.hid (And.intro (OwI.of ho4) (And.intro hb4 (And.intro hg4 hat4))); clear ho4 hb4 hg4 hat4))
          have hfu : ∀ k, u.ownBlock = some k → wr.heap.size ≤ k := fp_new hVe HO3.out.2.2.2
          have h43 : wr.heap.size ≤ w3.heap.size := Nat.le_trans HOX.out.2.size HO3.out.2.2.1.size
          have hfu2 : ∀ k, u2.ownBlock = some k → wr.heap.size ≤ k := fun k hk => by
            rcases HO4.out.2.2.2 with h | ⟨b', hb', hle'⟩
            · exact hfu k (h ▸ hk)
            · rw [hb'] at hk; injection hk with hk; omega
          have hfar : ∀ (r : Option Nat), (∀ k, r = some k → wr.heap.size ≤ k) → ∀ k, r = some k → k ∉ blks vsj ∧ u3.ownBlock ≠ some k := fun r hr k hk => by
            have h1 := hr k hk
            exact ⟨fun hs => by have := hG.out.lt k hs; omega, fun ho => by have := hG.out.out_lt ho; omega⟩
          have hG3 := (hG.out.below HOX.out.2).grown HO3.out.2.2.1 (fun k hk => hfar _ (fun k hk => Nat.le_of_eq (by simpa [Value.ownBlock] using hk)) k hk)
          have hG4 := hG3.grown HO4.out.2.2.1 (fun k hk => hfar _ hfu k hk)
          have hk34 : ∀ k, k < wr.heap.size → w4.heap[k]? = wr.heap[k]? := fun k hk => by
            have h1 : k < V.heap.size := Nat.lt_of_lt_of_le hk HOX.out.2.size
            have h2 : k < w3.heap.size := Nat.lt_of_lt_of_le h1 HO3.out.2.2.1.size
            exact (HO4.out.2.2.1.block k h2 (fun e => by have := hfu k e.symm; omega)).trans ((HO3.out.2.2.1.block k h1 (fun e => by simp [Value.ownBlock] at e; omega)).trans (HOX.out.2.block k hk))
          have h44 : wr.heap.size ≤ w4.heap.size := Nat.le_trans h43 HO4.out.2.2.1.size
          have HG4 := Lib.hid (And.intro hG4 (And.intro hk34 h44))
          have HFU2 := Lib.hid hfu2
          have hxs : (x ++ [(j : Int)]).length = x.length + 1 := by simp
          have hx5' : ∀ i, i < (x ++ [(j : Int)]).length → 0 ≤ gt (x ++ [(j : Int)]) i ∧ gt (x ++ [(j : Int)]) i ≤ 5 := fun i hi => by
            by_cases e : i < x.length
            · have := HX.out i e
              have e2 : gt (x ++ [(j : Int)]) i = gt x i := by simp [gt, List.getElem?_append_left e]
              rw [e2]
              exact this
            · obtain rfl : i = x.length := by omega
              have e2 : gt (x ++ [(j : Int)]) x.length = j := by simp [gt]
              rw [e2]
              omega
          have HX5 := Lib.hid hx5'
          clear hfu h43 hfu2 hfar hG3 hG4 hk34 h44 hx5' hVe
          refine (HIH.out (x ++ [(j : Int)]) u2 u3 _ vsj w4 (by have := HD.out; omega) (by have := HD.out; omega) HX5.out HO4.out.2.1 HO4.out.1 HG4.out.1 (fun k hk => ⟨fun hs => by have := hG.out.lt k hs; have := HFU2.out k hk; omega, fun ho => by have := hG.out.out_lt ho; have := HFU2.out k hk; omega⟩) HLJ.out).mono ?_
          rintro e w5 ⟨⟨v5, vs5, rfl, hg5, hat5, hm5⟩, hb5, hk5⟩
          have hn1 := hg5
          rw [HSN.out] at hn1
          have HN1 := Lib.hid hn1
          have HB5 := Lib.hid (And.intro hb5 (And.intro hk5 (And.intro hat5 hm5)))
          clear hg5 hat5 hm5 hb5 hk5 hn1 hxs
          go_wp2_with fail
          go_roundw
          case rel =>
            have hw := hB.out.2.1
            have h44 := HG4.out.2.2
            refine ⟨j + 1, by omega, by go_num, vs5, ⟨HN1.out⟩, ⟨HB5.out.1, ⟨by have := HB5.out.2.1.1; omega, fun k hk hp => ?_⟩⟩, ⟨?_, fun k hk => ?_⟩⟩
            · have h1 : u3.ownBlock ≠ some k := fun e => by
                rcases hV.out.1 with h | ⟨b', hb', hle'⟩
                · exact hp (h ▸ e)
                · rw [hb'] at e; injection e with e; omega
              exact (HB5.out.2.1.2 k (by omega) h1).trans ((HG4.out.2.1 k (by omega)).trans (hB.out.2.2 k hk hp))
            · rcases HB5.out.2.2.1 with h | ⟨b', hb', hle'⟩
              · rw [h]; exact hV.out.1
              · exact .inr ⟨b', hb', by omega⟩
            · rcases HB5.out.2.2.2 k hk with h | h
              · exact hV.out.2 k h
              · exact .inr (by omega)
          case measure => simp [intOf]; omega
        · obtain rfl : j = M + 1 := by omega
          go_wp2_with fail
          go_ret
          refine ⟨⟨_, vsj, rfl, ?_, hV.out.1, hV.out.2⟩, hB.out.1, hB.out.2⟩
          rw [HST.out.1]
          exact hG.out
end Go.Proofs.Ytfnkobcmhbdcoaa.SolA
end
section
/- SolutionBasis: the program's, whose rows are its own. -/


namespace Go.Proofs.Ytfnkobcmhbdcoaa.SolB
open Go.RowKit Go.Proofs.YtfnkobcmhbdcoaaW.PrintWords Go.Proofs.YtfnkobcmhbdcoaaW.PrintLast Go.Proofs.YtfnkobcmhbdcoaaW.PrintMore Go.Proofs.Ytfnkobcmhbdcoaa.Base Go.Proofs.Ytfnkobcmhbdcoaa.XTypes Go.Proofs.Ytfnkobcmhbdcoaa.XInts Go.Proofs.Ytfnkobcmhbdcoaa.XProb Go.Proofs.Ytfnkobcmhbdcoaa.XSum Go.Proofs.Ytfnkobcmhbdcoaa.Problem Go.Proofs.Ytfnkobcmhbdcoaa.PureInts Go.Proofs.Ytfnkobcmhbdcoaa.PureSum Go.Proofs.Ytfnkobcmhbdcoaa.Typed Go.Proofs.Ytfnkobcmhbdcoaa.Trees Go.Proofs.Ytfnkobcmhbdcoaa.MarkT Go.Proofs.Ytfnkobcmhbdcoaa.Rows2 Go.Proofs.Ytfnkobcmhbdcoaa.GathR Go.Proofs.Ytfnkobcmhbdcoaa.Dio Go.Proofs.Ytfnkobcmhbdcoaa.DioL Go.Proofs.Ytfnkobcmhbdcoaa.PureDio
set_option linter.unusedVariables false
set_option linter.unusedSimpArgs false
set_option linter.unnecessarySimpa false

/-- What SolutionBasis answers. -/
def basisB (a b : List Int) : Bool := probB a b && decide ((least (allP a b)).length ≤ 40)
def basisL (a b : List Int) : List (List Int) := if basisB a b = true then least (allP a b) else []
set_option maxHeartbeats 2000000 in
set_option maxRecDepth 100000 in
theorem impl_basis (a b : List Int) (A0 : Option Addr) (c0 : Nat) (A1 : Option Addr) (c1 : Nat) (w : World) (hr0 : Kd.C (Kd.int .i64) w A0 a.length a) (hc0 : a.length ≤ c0) (hr1 : Kd.C (Kd.int .i64) w A1 b.length b) (hc1 : b.length ≤ c1) (hla : a.length ≤ 1048576) (hlb : b.length ≤ 1048576) :
    Calls Try.prog 48 #[.slice A0 a.length c0, .slice A1 b.length c1] w fun e w' => ∃ v S, e = .returned (.tuple #[v, .bool (basisB a b)]) ∧ OwSS w' v (basisL a b) S ∧ (∀ k ∈ S, w.heap.size ≤ k) ∧ Below w.heap.size w w' := by
  have HR0 := Lib.hid hr0
  have HR1 := Lib.hid hr1
  have HC0 := Lib.hid hc0
  have HC1 := Lib.hid hc1
  clear hr0 hr1 hc0 hc1
  go_enter Try.func48, Try.ntmps48
  go_wp2_with fail
  refine (Problem.problem_any _ _ a _ _ b _ HR0.out HC0.out HR1.out HC1.out (by omega)).mono ?_
  rintro e w1 ⟨rfl, b1⟩
  have B1 := Lib.hid b1
  clear b1
  cases hp : probB a b with
  | false =>
    have hb0 : basisB a b = false := by simp [basisB, hp]
    have HB0 := Lib.hid hb0
    clear hp hb0
    go_wp2_with fail
    go_ret2
    refine ⟨.slice none 0 0, [], by rw [HB0.out]; rfl, ?_, (fun k hk => by cases hk), B1.out⟩
    simp only [basisL, HB0.out]
    exact .inl ⟨rfl, rfl, rfl⟩
  | true =>
    obtain ⟨hfa, hfb, h0, h1, h5⟩ := probB_len hp
    have HP := Lib.hid (And.intro hp (And.intro hfa hfb))
    clear hp hfa hfb
    obtain ⟨V, hV⟩ : ∃ V, V = w1.alloc (.cells #[] 24) := ⟨_, rfl⟩
    have bV : Below w.heap.size w V := by rw [hV]; exact below_alloc B1.out _
    have gV := Ga.new (B := w.heap.size) (n := w1.heap.size) (W := V) B1.out.size (by rw [hV]; exact blk_new _ _)
    have hVs : V.heap.size = w1.heap.size + 1 := by rw [hV]; simp
    have BV := Lib.hid bV
    have GV := Lib.hid gV
    clear bV gV
    go_wp2_with (first | ((with_reducible refine gate_dst (N := 26) rfl ?_); rw [← hV]; refine Kd.R_make (Kd.int .i64) (w0 := w) w.heap.size 3 rfl (N := 26) rfl 24 _ _ rfl ((a.length : Int) + b.length) rfl rfl Try.underlying24 (.int .i64 0) 8 info_int rfl (by decide) (by omega) 0 (ok := fun _ => True) (okp := fun _ => True) rfl (fun _ hk => hk) trivial (by omega) (by omega) BV.out BV.out.size ?_; intro v8 w2 ho hb hg hat; have HO := Lib.hid ho; have HB := Lib.hid hb; have HG := Lib.hid hg; have HAT := Lib.hid hat; clear ho hb hg hat))
    obtain ⟨T, hT, hRun⟩ := run_lex (a.length + b.length)
    have hTl : T.length ≤ 7775 := by
      have h6 := lexB_len (a.length + b.length)
      rw [hT, List.length_cons] at h6
      have : 6 ^ (a.length + b.length) ≤ 6 ^ 5 := Nat.pow_le_pow_right (by omega) h5
      omega
    have hall := allP_tail hT
    have HT := Lib.hid (And.intro hRun hall)
    clear hT hRun hall
    have en : ((a.length : Int) + b.length).toNat = a.length + b.length := by omega
    have ho8 := HO.out
    rw [en] at ho8
    have HO8 := Lib.hid (OwI.of ho8)
    obtain ⟨A8, c8, e8, _, _⟩ := HO8.out.rd
    rw [List.length_replicate] at e8
    subst e8
    have ha7 := HAT.out
    have hf8 : ∀ k, Fp (.slice A8 (a.length + b.length) c8) k → V.heap.size ≤ k := fun k hk => by
      obtain ⟨b', hb', hle⟩ := ha7
      unfold Fp at hk
      rw [hb'] at hk
      injection hk with hk
      omega
    have hne8 : ∃ k, Value.ownBlock (.slice A8 (a.length + b.length) c8) = some k := ⟨_, ha7.choose_spec.1⟩
    have HF8 := Lib.hid (And.intro hf8 hne8)
    have hG2 := GV.out.grown HG.out (fun k hk => by cases hk)
    have HG2 := Lib.hid hG2
    have FA := Lib.hid (And.intro (fac_of HP.out.2.1) (fac_of HP.out.2.2))
    clear en ho8 ha7 hf8 hne8 hG2 HO HAT HG GV
    generalize hn : a.length + b.length = n at *
    have HN := Lib.hid hn
    clear hn
    go_loopg [7] (T.length) (fun q v wr => ∃ dn td c vs, Aside0 (T = dn ++ td ∧ Run c td ∧ q = td.length ∧ (∀ x ∈ c, 0 ≤ x ∧ x ≤ 5) ∧ c.length = n) ∧ Aside0 (OwI w.heap.size wr (.slice A8 n c8) c) ∧ Aside0 (Ga w.heap.size v (dn.filter (fun x => bal a b x == 0)) vs wr) ∧ Aside0 (Below w.heap.size w wr) ∧ Aside0 (∀ k, Fp (.slice A8 n c8) k → k ∉ blks vs ∧ v.ownBlock ≠ some k))
    case atStart =>
      refine ⟨[], T, List.replicate n 0, [], ⟨rfl, HT.out.1, rfl, fun x hx => ?_, by simp⟩, ⟨HO8.out⟩, ⟨HG2.out⟩, ⟨HB.out⟩, ⟨fun k hk => ⟨by simp [blks], fun e => ?_⟩⟩⟩
      · have := List.eq_of_mem_replicate hx; omega
      · have h1 := HF8.out.1 k hk
        have : w1.heap.size = k := by simpa [Value.ownBlock] using e
        omega
    case round =>
      obtain ⟨dn, td, c, vs, hS, hC, hG, hB, hA⟩ := hrel
      cases td with
      | cons d rest =>
        have hnx : nextR c 0 = (true, d) := by
          have h := hS.out.2.1.1
          simp [nextR, h]
        have hd5 := nextL_in c d hS.out.2.2.2.1 hS.out.2.1.1
        have hdl : d.length = n := by rw [nextL_len c d hS.out.2.1.1]; exact hS.out.2.2.2.2
        have HD := Lib.hid (And.intro hd5 hdl)
        have HNX := Lib.hid hnx
        clear hnx hd5 hdl
        go_wp2_with fail
        refine (next_any _ c w _ hB.out hC.out (by have := hS.out.2.2.2.2; omega) hS.out.2.2.2.1 _ _ HNX.out).mono ?_
        rintro e w3 ⟨rfl, ho3, hb3, hk3⟩
        have HO3 := Lib.hid ho3
        have HB3 := Lib.hid hb3
        have HG3 := Lib.hid (hG.out.kept hk3 hA.out)
        have HZ3 := Lib.hid hk3.1
        clear ho3 hb3 hk3
        go_wp2_with fail
        refine (balance_any _ _ _ a b d _ ⟨A0, c0, rfl, HC0.out, Kd.C_below HR0.out HB3.out⟩ ⟨A1, c1, rfl, HC1.out, Kd.C_below HR1.out HB3.out⟩ HO3.out.rd FA.out.1 FA.out.2 (by rw [HN.out]; exact h5) (by rw [HN.out]; exact HD.out.2) (fun i hi => by have := gt_in HD.out.1 hi; omega)).mono ?_
        rintro e w4 ⟨rfl, b4⟩
        have HO4 := Lib.hid (HO3.out.below b4)
        have HZ4 := Lib.hid (Nat.le_trans HZ3.out b4.size)
        have HB4 := Lib.hid (below_to HB3.out b4 HB3.out.size)
        have HG4 := Lib.hid (HG3.out.below b4)
        clear b4 HO3 HB3 HG3
        have hlen := (List.length_filter_le (fun x => bal a b x == 0) dn)
        have hdn : dn.length ≤ 7775 := by
          have h := congrArg List.length hS.out.1
          rw [List.length_append] at h
          omega
        have HLEN := Lib.hid (show (dn.filter (fun x => bal a b x == 0)).length ≤ 7775 by omega)
        clear hlen hdn
        cases hbal : (bal a b d == 0) with
        | true =>
          have hst : (dn ++ [d]).filter (fun x => bal a b x == 0) = dn.filter (fun x => bal a b x == 0) ++ [d] := by simp [hbal]
          have HST := Lib.hid hst
          have hb0 : bal a b d = 0 := by simpa using hbal
          clear hst hbal
          go_wp2_with fail
          refine (clone_rd _ d _ HO4.out.rd (by have := HD.out.2; omega) HF8.out.2).mono ?_
          rintro e w5 ⟨u, rfl, ou, b5⟩
          obtain ⟨A9, c9, rfl, _, _⟩ := ou.rd
          have HU := Lib.hid ou
          have HO5 := Lib.hid (HO4.out.below b5)
          have HB5 := Lib.hid (below_to HB4.out b5 HB4.out.size)
          have HG5 := Lib.hid (HG4.out.below b5)
          have hfu : ∀ k, Fp (.slice A9 d.length c9) k → w.heap.size ≤ k ∧ k ∉ blks vs ∧ u7.ownBlock ≠ some k := fun k hk => by
            have h1 := ou.lt hk
            exact ⟨by have := HB4.out.size; omega, fun hs => by have := HG4.out.lt k hs; omega, fun ho => by have := HG4.out.out_lt ho; omega⟩
          have hgo : Kd.R (Kd.raw 1) 24 w5 w.heap.size (fun _ => True) u7 (vs.map fun v => [v]) := Kd.raw_any HG5.out.out
          have HFU := Lib.hid hfu
          have HGO := Lib.hid hgo
          have HVL := Lib.hid HG5.out.len
          have HZ5 := Lib.hid (Nat.le_trans HZ4.out b5.size)
          clear ou b5 hfu hgo HO4 HB4 HG4
          go_wp2_with (first | ((with_reducible refine gate_builtin (b := .append) (xs := #[.tmp 34, .tmp 37]) rfl ?_); at_builtin; refine Kd.R_append (Kd.raw 1) (w0 := w) w.heap.size rfl (.tmp 34) (.tmp 37) 27 24 (.slice none 0 0) 24 rfl Try.underlying27 info24 rfl (by decide) (by omega) u7 (vs.map fun v => [v]) [.slice A9 d.length c9] [.slice A9 d.length c9] (fun _ => True) (fun _ => False) rfl rfl ?aP (fun _ hk => hk.elim) (fun _ _ => trivial) ?aO ?aB ?aS ?aL ?_; (case aP => exact ⟨rfl, rfl, fun u hu => by rw [List.mem_singleton.1 hu]; rfl⟩); (case aB => exact HB5.out); (case aO => exact HGO.out); (case aS => exact HB5.out.size); (case aL => rw [List.length_map]; have := HVL.out; have := HLEN.out; omega); intro v6 w6 ho6 hb6 hg6 hat6; have HB6 := Lib.hid hb6; have HG6 := Lib.hid (Ga.push HG5.out (nx := d) HU.out HFU.out ho6 hg6 hat6); have HX6 := Lib.hid (And.intro hg6 hat6); clear ho6 hb6 hg6 hat6))
          go_roundg rest.length
          case measure => rw [hS.out.2.2.1]; simp
          case rel =>
            refine ⟨dn ++ [d], rest, d, vs ++ [.slice A9 d.length c9], ⟨by rw [hS.out.1]; simp, hS.out.2.1.2, rfl, HD.out.1, HD.out.2⟩, ⟨HO5.out.step (fun k hk hlt => HX6.out.1.block k hlt (fun e => (hA.out k hk).2 e.symm))⟩, ⟨by rw [HST.out]; exact HG6.out⟩, ⟨HB6.out⟩, ⟨fun k hk => ⟨?_, ?_⟩⟩⟩
            · rw [blks_append, blks_one]
              intro hs
              rcases List.mem_append.1 hs with hs | hs
              · exact (hA.out k hk).1 hs
              · have h1 := HU.out.lt (own_iff.1 hs)
                have h2 := hC.out.lt hk
                have := HZ4.out
                omega
            · intro e
              have h2 := hC.out.lt hk
              rcases HX6.out.2 with hat | ⟨b', hb', hle⟩
              · rw [hat] at e
                exact (hA.out k hk).2 e
              · rw [hb'] at e
                injection e with e
                have := HZ5.out
                omega
        | false =>
          have hst : (dn ++ [d]).filter (fun x => bal a b x == 0) = dn.filter (fun x => bal a b x == 0) := by simp [hbal]
          have HST := Lib.hid hst
          have hb0 : ¬ bal a b d = 0 := by simpa using hbal
          clear hst
          go_wp2_with fail
          go_roundg rest.length
          case measure => rw [hS.out.2.2.1]; simp
          case rel => exact ⟨dn ++ [d], rest, d, vs, ⟨by rw [hS.out.1]; simp, hS.out.2.1.2, rfl, HD.out.1, HD.out.2⟩, ⟨HO4.out⟩, ⟨by rw [HST.out]; exact HG4.out⟩, ⟨HB4.out⟩, hA⟩
      | nil =>
        have hdn : dn = T := by have h := hS.out.1; rw [List.append_nil] at h; exact h.symm
        have hnx : nextR c 0 = (false, List.replicate c.length 0) := by
          have h : nextL c = none := hS.out.2.1
          simp [nextR, h]
        have HNX := Lib.hid hnx
        clear hnx
        go_wp2_with fail
        refine (next_any _ c w _ hB.out hC.out (by have := hS.out.2.2.2.2; omega) hS.out.2.2.2.1 _ _ HNX.out).mono ?_
        rintro e w3 ⟨rfl, ho3, hb3, hk3⟩
        have HB3 := Lib.hid hb3
        have hg3 := hG.out.kept hk3 hA.out
        rw [hdn, ← HT.out.2] at hg3
        have hLn := nodup_allP a b
        have hLl : (allP a b).length ≤ 7775 := by rw [HT.out.2]; exact Nat.le_trans (List.length_filter_le _ _) hTl
        have hLm : ∀ x ∈ allP a b, x.length = n := fun x hx => by
          have := (mem_allP.1 hx).1.1
          have := HN.out
          omega
        have hLeast : least (allP a b) = (allP a b).filter (leastB (allP a b)) := rfl
        have hbB : basisB a b = decide ((least (allP a b)).length ≤ 40) := by simp [basisB, HP.out.1]
        have hbL : basisL a b = if decide ((least (allP a b)).length ≤ 40) = true then least (allP a b) else [] := by unfold basisL; rw [hbB]
        have HBB := Lib.hid (And.intro hbB hbL)
        clear hbB hbL
        generalize hL : allP a b = L at *
        have HL := Lib.hid hL
        have HLE := Lib.hid (And.intro hLn (And.intro hLm hLeast))
        clear hL hLn hLm hLeast hdn ho3 hb3 hk3 hS hC hG hB hA
        obtain ⟨A7, c7, e7, _, _⟩ := hg3.rd
        subst e7
        generalize hm : L.length = m at *
        have HM := Lib.hid hm
        have HG3 := Lib.hid hg3
        obtain ⟨W, hW⟩ : ∃ W, W = w3.alloc (.cells #[] 24) := ⟨_, rfl⟩
        have bW : Below w3.heap.size w3 W := by rw [hW]; exact below_alloc (Below.refl _ _) _
        have gW := Ga.new (B := w.heap.size) (n := w3.heap.size) (W := W) HB3.out.size (by rw [hW]; exact blk_new _ _)
        have HW := Lib.hid (And.intro (HG3.out.below bW) (below_to HB3.out bW HB3.out.size))
        have HN3 := Lib.hid (show ∀ k, Value.ownBlock (.slice (some ⟨w3.heap.size, 0, none⟩) 0 0) = some k → k ∉ blks vs ∧ Value.ownBlock (.slice A7 m c7) ≠ some k from fun k hk => by
          have e : w3.heap.size = k := by simpa [Value.ownBlock] using hk
          exact ⟨fun hs => by have := HG3.out.lt k hs; omega, fun ho => by have := HG3.out.out_lt ho; omega⟩)
        have HGW := Lib.hid gW
        clear bW gW hm hg3
        go_wp2_with fail
        rw [← hW]
        clear hW
        go_loopw [9, 42] (fun vo i wr => ∃ j : Nat, j ≤ m ∧ i = .int .i64 j ∧ ∃ vso, Aside0 (Ga w.heap.size vo ((L.take j).filter (leastB L)) vso wr) ∧ Aside0 (∀ k ∈ blks vso, k ∈ blks (vs.take j)) ∧ Aside0 (∀ k, vo.ownBlock = some k → k ∉ blks vs ∧ Value.ownBlock (.slice A7 m c7) ≠ some k) ∧ Aside0 (Ga w.heap.size (.slice A7 m c7) L vs wr ∧ Below w.heap.size w wr)) (fun _ i _ => m - (intOf i).toNat)
        case atStart => exact ⟨0, Nat.zero_le _, rfl, [], ⟨by simpa using HGW.out⟩, ⟨fun k hk => by simp [blks] at hk⟩, ⟨HN3.out⟩, ⟨HW.out⟩⟩
        case round =>
          obtain ⟨j, hj, rfl, vso, hO, hI, hA, hG⟩ := hrel
          by_cases hlt : j < m
          · have hjl : j < L.length := by rw [HM.out]; exact hlt
            have hxl : (L.getD j []).length = n := HLE.out.2.1 _ (by simp [hjl])
            obtain ⟨g, cap, u, hv, hcap, hu, hcell, hx⟩ := hG.out.1.cell hjl
            rw [HM.out] at hv hcap
            injection hv with eA _ ec
            subst eA
            subst ec
            obtain ⟨A9, c9, e9, _, _⟩ := hx.rd
            rw [hxl] at e9
            subst e9
            have HX := Lib.hid (And.intro hx (And.intro hu (And.intro hjl hxl)))
            clear hx hu hxl hjl
            have hcellB : ∀ wr2, Below wr.heap.size wr wr2 → True := fun _ _ => trivial
            clear hcellB
            go_wp2_with fail
            clear hcell
            obtain ⟨wo, hwo⟩ : ∃ wo : World, wo = wr := ⟨_, rfl⟩
            rw [← hwo] at hO hG HX ⊢
            clear hwo
            go_loopw [12, 49] (fun l q wr2 => ∃ k : Nat, k ≤ m ∧ q = .int .i64 k ∧ l = .bool (lsT L j k) ∧ Aside0 (Below wo.heap.size wo wr2)) (fun _ q _ => m - (intOf q).toNat)
            case atStart => exact ⟨0, Nat.zero_le _, rfl, rfl, ⟨Below.refl _ _⟩⟩
            case round =>
              obtain ⟨k, hk, rfl, rfl, hB2⟩ := hrel
              by_cases hlt2 : k < m
              · have hkl : k < L.length := by rw [HM.out]; exact hlt2
                have hyl : (L.getD k []).length = n := HLE.out.2.1 _ (by simp [hkl])
                obtain ⟨g', cap', u', hv', _, _, hcell, hy⟩ := (hG.out.1.below hB2.out).cell hkl
                rw [HM.out] at hv'
                injection hv' with eA' _ ec'
                injection eA' with eA'
                injection eA' with eg _ _
                subst eg
                subst ec'
                obtain ⟨A9', c9', e9', _, _⟩ := hy.rd
                rw [hyl] at e9'
                subst e9'
                have HY := Lib.hid (And.intro hy (And.intro hkl hyl))
                have hst := lsT_succ L j k
                clear hy hyl hkl
                cases hls : lsT L j k with
                | false =>
                  rw [hls, Bool.false_and] at hst
                  have HST := Lib.hid hst
                  clear hst hls
                  go_wp2_with fail
                  go_roundw
                  case rel => exact ⟨k + 1, by omega, by go_num, by rw [HST.out], hB2⟩
                  case measure => simp [intOf]; omega
                | true =>
                  rw [hls, Bool.true_and] at hst
                  by_cases hkj : k = j
                  · have hjk : ((j : Int) == (k : Int)) = true := by simp [hkj]
                    have e : lsT L j (k + 1) = true := by rw [hst]; simp [hkj]
                    have HST := Lib.hid e
                    clear hst hls e hkj
                    go_wp2_with fail
                    go_roundw
                    case rel => exact ⟨k + 1, by omega, by go_num, by rw [HST.out], hB2⟩
                    case measure => simp [intOf]; omega
                  · have hjk : ((j : Int) == (k : Int)) = false := by rw [beq_eq_false_iff_ne]; omega
                    have e : lsT L j (k + 1) = !below (L.getD k []) (L.getD j []) := by rw [hst]; simp [hkj]
                    clear hst hls
                    go_wp2_with fail
                    refine (nowhere_any _ _ _ _ _ (by have h := HY.out.1.rd; exact h) ((HX.out.1.below hB2.out).rd) (by rw [HY.out.2.2, HX.out.2.2.2]; exact Nat.le_refl _) (by rw [HY.out.2.2]; omega)).mono ?_
                    rintro e' w4 ⟨rfl, b4⟩
                    have HB4 := Lib.hid (below_to hB2.out b4 hB2.out.size)
                    clear b4 hcell hjk
                    cases hbe : below (L.getD k []) (L.getD j []) with
                    | true =>
                      have HST := Lib.hid (show lsT L j (k + 1) = false by rw [e, hbe]; rfl)
                      clear e hbe
                      go_wp2_with fail
                      go_roundw
                      case rel => exact ⟨k + 1, by omega, by go_num, by rw [HST.out], ⟨HB4.out⟩⟩
                      case measure => simp [intOf]; omega
                    | false =>
                      have HST := Lib.hid (show lsT L j (k + 1) = true by rw [e, hbe]; rfl)
                      clear e hbe
                      go_wp2_with fail
                      go_roundw
                      case rel => exact ⟨k + 1, by omega, by go_num, by rw [HST.out], ⟨HB4.out⟩⟩
                      case measure => simp [intOf]; omega
              · obtain rfl : k = m := by omega
                have hfull := lsT_full HLE.out.1 HX.out.2.2.1
                rw [HM.out] at hfull
                have htk : L.take (j + 1) = L.take j ++ [L.getD j []] := by
                  have hjl := HX.out.2.2.1
                  rw [List.take_succ_eq_append_getElem hjl]
                  simp [hjl]
                have hst : (L.take (j + 1)).filter (leastB L) = (L.take j).filter (leastB L) ++ (if lsT L j k = true then [L.getD j []] else []) := by
                  rw [htk, List.filter_append, hfull]
                  congr 1
                  generalize L.getD j [] = y
                  cases hq : leastB L y <;> simp [hq]
                have hvt : ∀ q, q ∈ blks (vs.take j) → q ∈ blks (vs.take (j + 1)) := fun q hq => by
                  have hjv : j < vs.length := (List.getElem?_eq_some_iff.1 HX.out.2.1).1
                  rw [List.take_succ_eq_append_getElem hjv, blks_append]
                  exact List.mem_append_left _ hq
                have HVT := Lib.hid hvt
                clear hfull htk hvt
                cases hls : lsT L j k with
                | true =>
                  rw [hls, if_pos rfl] at hst
                  have HST := Lib.hid hst
                  have hO2 := hO.out.below hB2.out
                  have hG2 := hG.out.1.below hB2.out
                  have hb2 := below_to hG.out.2 hB2.out hG.out.2.size
                  have hx2 := HX.out.1.below hB2.out
                  have hmem := hG.out.1.mem HX.out.2.1
                  have hfu : ∀ q, Fp (.slice A9 n c9) q → w.heap.size ≤ q ∧ q ∉ blks vso ∧ u9.ownBlock ≠ some q := fun q hq => by
                    have h1 := hmem q (own_iff.2 hq)
                    exact ⟨hG.out.1.far q h1.1, fun hs => h1.2 (hI.out q hs), fun ho => (hA.out q ho).1 h1.1⟩
                  have hgo := Kd.raw_any hO2.out
                  have HO2 := Lib.hid hO2
                  have HG2' := Lib.hid (And.intro hG2 hb2)
                  have HX2 := Lib.hid hx2
                  have HFU := Lib.hid hfu
                  have HGO := Lib.hid hgo
                  have HVL := Lib.hid hO2.len
                  have HFL := Lib.hid (show ((L.take j).filter (leastB L)).length ≤ 7775 from Nat.le_trans (List.length_filter_le _ _) (by rw [List.length_take, HM.out]; omega))
                  clear hst hls hO2 hG2 hb2 hx2 hmem hfu hgo
                  go_wp2_with (first | ((with_reducible refine gate_builtin (b := .append) (xs := #[.tmp 68, .tmp 70]) rfl ?_); at_builtin; refine Kd.R_append (Kd.raw 1) (w0 := w) w.heap.size rfl (.tmp 68) (.tmp 70) 27 24 (.slice none 0 0) 24 rfl Try.underlying27 info24 rfl (by decide) (by omega) u9 (vso.map fun v => [v]) [.slice A9 n c9] [.slice A9 n c9] (fun _ => True) (fun _ => False) rfl rfl ?aP (fun _ hk => hk.elim) (fun _ _ => trivial) ?aO ?aB ?aS ?aL ?_; (case aP => exact ⟨rfl, rfl, fun u hu => by rw [List.mem_singleton.1 hu]; rfl⟩); (case aB => exact HG2'.out.2); (case aO => exact HGO.out); (case aS => exact HG2'.out.2.size); (case aL => rw [List.length_map]; have := HVL.out; have := HFL.out; omega); intro v6 w6 ho6 hb6 hg6 hat6; have HB6 := Lib.hid hb6; have HG6 := Lib.hid (Ga.push HO2.out (nx := L.getD j []) HX2.out HFU.out ho6 hg6 hat6); have HX6 := Lib.hid (And.intro hg6 hat6); clear ho6 hb6 hg6 hat6))
                  go_roundw
                  case rel =>
                    refine ⟨j + 1, by omega, by go_num, vso ++ [.slice A9 n c9], ⟨by rw [HST.out]; exact HG6.out⟩, ⟨fun q hq => ?_⟩, ⟨fun q hq => ?_⟩, ⟨HG2'.out.1.grown HX6.out.1 (fun q hq => hA.out q hq), HB6.out⟩⟩
                    · rw [blks_append, blks_one] at hq
                      rcases List.mem_append.1 hq with hq | hq
                      · exact HVT.out q (hI.out q hq)
                      · have hjv := HX.out.2.1
                        have hjl : j < vs.length := (List.getElem?_eq_some_iff.1 hjv).1
                        rw [List.take_succ_eq_append_getElem hjl, blks_append, (List.getElem?_eq_some_iff.1 hjv).2, blks_one]
                        exact List.mem_append_right _ hq
                    · rcases HX6.out.2 with hat | ⟨b', hb', hle⟩
                      · rw [hat] at hq
                        exact hA.out q hq
                      · rw [hb'] at hq
                        injection hq with hq
                        exact ⟨fun hs => by have := HG2'.out.1.lt q hs; omega, fun ho => by have := HG2'.out.1.out_lt ho; omega⟩
                  case measure => simp [intOf]; omega
                | false =>
                  rw [hls, if_neg (by decide), List.append_nil] at hst
                  have HST := Lib.hid hst
                  have HO2 := Lib.hid (hO.out.below hB2.out)
                  have HG2' := Lib.hid (And.intro (hG.out.1.below hB2.out) (below_to hG.out.2 hB2.out hG.out.2.size))
                  clear hst hls
                  go_wp2_with fail
                  go_roundw
                  case rel => exact ⟨j + 1, by omega, by go_num, vso, ⟨by rw [HST.out]; exact HO2.out⟩, ⟨fun q hq => HVT.out q (hI.out q hq)⟩, hA, ⟨HG2'.out⟩⟩
                  case measure => simp [intOf]; omega
          · obtain rfl : j = m := by omega
            have hlo : (L.take j).filter (leastB L) = least L := by rw [List.take_of_length_le (by rw [HM.out]; exact Nat.le_refl _)]; rfl
            have ho := hO.out
            rw [hlo] at ho
            obtain ⟨A10, c10, e10, _, _⟩ := ho.rd
            have HO := Lib.hid (And.intro ho hG.out.2)
            have HBB' := Lib.hid HBB.out
            clear hO hI hA hG hlo ho
            generalize hq : least L = Q at *
            generalize hql : Q.length = q at *
            subst e10
            have HQ := Lib.hid (And.intro hq hql)
            clear hq
            by_cases h40 : 40 < q
            · have hfin : basisB a b = false ∧ basisL a b = [] := by
                have := HBB.out
                have hd : decide (q ≤ 40) = false := by simp; omega
                rw [hd] at this
                exact ⟨this.1, by rw [this.2]; rfl⟩
              have HF := Lib.hid hfin
              clear hfin hql
              go_wp2_with fail
              go_ret2
              exact ⟨.slice none 0 0, [], by rw [HF.out.1]; rfl, by rw [HF.out.2]; exact .inl ⟨rfl, rfl, rfl⟩, (fun k hk => by cases hk), HO.out.2⟩
            · have hfin : basisB a b = true ∧ basisL a b = Q := by
                have := HBB.out
                have hd : decide (q ≤ 40) = true := by simp; omega
                rw [hd] at this
                exact ⟨this.1, by rw [this.2]; rfl⟩
              have HF := Lib.hid hfin
              clear hfin hql
              go_wp2_with fail
              go_ret2
              obtain ⟨S', hs1, hs2⟩ := HO.out.1.owss
              exact ⟨_, S', by rw [HF.out.1]; rfl, by rw [HF.out.2]; exact hs1, hs2, HO.out.2⟩
end Go.Proofs.Ytfnkobcmhbdcoaa.SolB
end
section
/- SolutionBasis: the reference's. -/


namespace Go.Proofs.Ytfnkobcmhbdcoaa.SolC
open Go.RowKit Go.Proofs.YtfnkobcmhbdcoaaW.PrintWords Go.Proofs.YtfnkobcmhbdcoaaW.PrintLast Go.Proofs.YtfnkobcmhbdcoaaW.PrintMore Go.Proofs.Ytfnkobcmhbdcoaa.Base Go.Proofs.Ytfnkobcmhbdcoaa.XTypes Go.Proofs.Ytfnkobcmhbdcoaa.XInts Go.Proofs.Ytfnkobcmhbdcoaa.XProb Go.Proofs.Ytfnkobcmhbdcoaa.XSum Go.Proofs.Ytfnkobcmhbdcoaa.Problem Go.Proofs.Ytfnkobcmhbdcoaa.PureInts Go.Proofs.Ytfnkobcmhbdcoaa.PureSum Go.Proofs.Ytfnkobcmhbdcoaa.Typed Go.Proofs.Ytfnkobcmhbdcoaa.Trees Go.Proofs.Ytfnkobcmhbdcoaa.MarkT Go.Proofs.Ytfnkobcmhbdcoaa.Rows2 Go.Proofs.Ytfnkobcmhbdcoaa.GathR Go.Proofs.Ytfnkobcmhbdcoaa.Dio Go.Proofs.Ytfnkobcmhbdcoaa.DioL Go.Proofs.Ytfnkobcmhbdcoaa.PureDio Go.Proofs.Ytfnkobcmhbdcoaa.SolA Go.Proofs.Ytfnkobcmhbdcoaa.SolB
set_option linter.unusedVariables false
set_option linter.unusedSimpArgs false
set_option linter.unnecessarySimpa false

theorem specProblem_any (va vb : Value) (a b : List Int) (w : World) (ha : RdI w va a) (hb : RdI w vb b) (hla : a.length ≤ 1048576) (hlb : b.length ≤ 1048576) :
    Calls Try.prog 17 #[va, vb] w fun e w' => e = .returned (.bool (probB a b)) ∧ Below w.heap.size w w' := by
  obtain ⟨A0, c0, rfl, hc0, hr0⟩ := ha
  obtain ⟨A1, c1, rfl, hc1, hr1⟩ := hb
  obtain ⟨k, hk⟩ := (specProblem_ev a b (by omega) (by omega)).rounds
  refine (spec_IsProblem.calls k A0 c0 a A1 c1 b _ w hr0 hc0 hr1 hc1 hk).mono ?_
  rintro e w' ⟨rfl, ⟨n, rfl⟩⟩
  exact ⟨rfl, pw_below_drewN (Below.refl _ _) _⟩
theorem below_n (n : Nat) (A : Option Addr) (c : Nat) (y : List Int) (A' : Option Addr) (c' : Nat) (x : List Int) (w : World) (hy : y.length = n) (hx : x.length = n) (hn : n ≤ 1048576) (hr : Kd.C (Kd.int .i64) w A y.length y) (hc : n ≤ c) (hr' : Kd.C (Kd.int .i64) w A' x.length x) (hc' : n ≤ c') :
    Calls Try.prog 72 #[.slice A n c, .slice A' n c'] w fun e w' => e = .returned (.bool (below y x)) ∧ Drawn0 w w' := by
  obtain ⟨k, hk⟩ := (sbelow_ev y x (by omega) (by omega)).rounds
  have h := spec_l34Below.calls k A c y A' c' x _ w hr (by omega) hr' (by omega) hk
  rw [hy, hx] at h
  exact h
set_option maxHeartbeats 4000000 in
set_option maxRecDepth 100000 in
theorem spec_basis_own (a b : List Int) (va vb : Value) (w : World) (ha : RdI w va a) (hb : RdI w vb b) (hla : a.length ≤ 1048576) (hlb : b.length ≤ 1048576) :
    Calls Try.prog 47 #[va, vb] w fun e w' => ∃ v S, e = .returned (.tuple #[v, .bool (basisB a b)]) ∧ OwSS w' v (basisL a b) S ∧ (∀ k ∈ S, w.heap.size ≤ k) ∧ Below w.heap.size w w' := by
  have HRA := Lib.hid ha
  have HRB := Lib.hid hb
  clear ha hb
  go_enter Try.func47, Try.ntmps47
  go_wp2_with fail
  refine (specProblem_any _ _ a b _ HRA.out HRB.out hla hlb).mono ?_
  rintro e w1 ⟨rfl, b1⟩
  have B1 := Lib.hid b1
  clear b1
  cases hp : probB a b with
  | false =>
    have hb0 : basisB a b = false := by simp [basisB, hp]
    have HB0 := Lib.hid hb0
    clear hp hb0
    go_wp2_with fail
    go_ret2
    refine ⟨.slice none 0 0, [], by rw [HB0.out]; rfl, ?_, (fun k hk => by cases hk), B1.out⟩
    simp only [basisL, HB0.out]
    exact .inl ⟨rfl, rfl, rfl⟩
  | true =>
    obtain ⟨hfa, hfb, h0, h1, h5⟩ := probB_len hp
    have fa := fac_of hfa
    have fb := fac_of hfb
    have HP := Lib.hid (And.intro hp (And.intro fa fb))
    have hL := basis_eq fa fb h0 h1
    have hLl : (allR a b).length ≤ 7776 := by
      rw [← ext_nil]
      refine Nat.le_trans (ext_len fa fb (a.length + b.length) [] (by simp)) ?_
      exact (show 6 ^ (a.length + b.length) ≤ 6 ^ 5 from Nat.pow_le_pow_right (by omega) h5)
    have hLn := nodup_allR a b
    have hLm : ∀ x ∈ allR a b, x.length = a.length + b.length := fun x hx => by
      rw [allR_eq fa fb] at hx
      exact (mem_allP.1 (List.mem_filter.1 hx).1).1.1
    have hbB : basisB a b = decide ((least (allR a b)).length ≤ 40) := by simp [basisB, hp, hL]
    have hbL : basisL a b = if decide ((least (allR a b)).length ≤ 40) = true then least (allR a b) else [] := by unfold basisL; rw [hbB, hL]
    have hext := ext_nil a b
    clear hp hfa hfb fa fb hL
    have HBB := Lib.hid (And.intro hbB hbL)
    clear hbB hbL
    generalize hL : allR a b = L at *
    have HL := Lib.hid (And.intro hL hext)
    have HLE := Lib.hid (And.intro hLn hLm)
    clear hL hLn hLm hext
    go_wp2_with fail
    refine (spec_all a b HP.out.2.1 HP.out.2.2 h5 va vb w HRA.out HRB.out (a.length + b.length) [] _ _ [] [] w1 (by simp) (by simp) (fun i hi => by simp at hi) B1.out (OwI.of (ok := fun _ => True) (Kd.R_nil _ _ _ _ _)) (Ga.nil _ _) (fun k hk => by cases hk) ?_).mono ?_
    · have : 6 ^ (a.length + b.length) ≤ 6 ^ 5 := Nat.pow_le_pow_right (by omega) h5
      simp
      omega
    rintro e w3 ⟨⟨v7, vs, rfl, hg3, _, _⟩, hb3, _⟩
    rw [List.nil_append, HL.out.2] at hg3
    have HB3 := Lib.hid hb3
    clear hb3
    obtain ⟨A7, c7, e7, _, _⟩ := hg3.rd
    subst e7
    generalize hm : L.length = m at *
    have HM := Lib.hid hm
    have HG3 := Lib.hid hg3
    obtain ⟨W, hW⟩ : ∃ W, W = w3.alloc (.cells #[] 24) := ⟨_, rfl⟩
    have bW : Below w3.heap.size w3 W := by rw [hW]; exact below_alloc (Below.refl _ _) _
    have gW := Ga.new (B := w.heap.size) (n := w3.heap.size) (W := W) HB3.out.size (by rw [hW]; exact blk_new _ _)
    have HW := Lib.hid (And.intro (HG3.out.below bW) (below_to HB3.out bW HB3.out.size))
    have HN3 := Lib.hid (show ∀ k, Value.ownBlock (.slice (some ⟨w3.heap.size, 0, none⟩) 0 0) = some k → k ∉ blks vs ∧ Value.ownBlock (.slice A7 m c7) ≠ some k from fun k hk => by
      have e : w3.heap.size = k := by simpa [Value.ownBlock] using hk
      exact ⟨fun hs => by have := HG3.out.lt k hs; omega, fun ho => by have := HG3.out.out_lt ho; omega⟩)
    have HGW := Lib.hid gW
    clear bW gW hm hg3
    generalize hn : a.length + b.length = n at *
    have HN := Lib.hid hn
    clear hn
    go_wp2_with fail
    rw [← hW]
    clear hW
    go_loopw [7, 8] (fun vo i wr => ∃ j : Nat, j ≤ m ∧ i = .int .i64 j ∧ ∃ vso, Aside0 (Ga w.heap.size vo ((L.take j).filter (leastB L)) vso wr) ∧ Aside0 (∀ k ∈ blks vso, k ∈ blks (vs.take j)) ∧ Aside0 (∀ k, vo.ownBlock = some k → k ∉ blks vs ∧ Value.ownBlock (.slice A7 m c7) ≠ some k) ∧ Aside0 (Ga w.heap.size (.slice A7 m c7) L vs wr ∧ Below w.heap.size w wr)) (fun _ i _ => m - (intOf i).toNat)
    case atStart => exact ⟨0, Nat.zero_le _, rfl, [], ⟨by simpa using HGW.out⟩, ⟨fun k hk => by simp [blks] at hk⟩, ⟨HN3.out⟩, ⟨HW.out⟩⟩
    case round =>
      obtain ⟨j, hj, rfl, vso, hO, hI, hA, hG⟩ := hrel
      by_cases hlt : j < m
      · have hjl : j < L.length := by rw [HM.out]; exact hlt
        have hxl : (L.getD j []).length = n := HLE.out.2 _ (by simp [hjl])
        obtain ⟨g, cap, u, hv, hcap, hu, hcellj, hx⟩ := hG.out.1.cell hjl
        rw [HM.out] at hv hcap
        injection hv with eA _ ec
        subst eA
        subst ec
        obtain ⟨A9, c9, e9, hc9, hC9⟩ := hx.rd
        rw [hxl] at e9 hc9
        subst e9
        have HX := Lib.hid (And.intro hx (And.intro hu (And.intro hjl hxl)))
        have HCJ := Lib.hid hcellj
        have HC9 := Lib.hid (And.intro hc9 hC9)
        clear hx hu hxl hjl hcellj hc9 hC9
        go_wp2_with fail
        obtain ⟨wo, hwo⟩ : ∃ wo : World, wo = wr := ⟨_, rfl⟩
        rw [← hwo] at hO hG HX HCJ HC9 ⊢
        clear hwo
        go_loopw [9, 10] (fun l q wr2 => ∃ k : Nat, k ≤ m ∧ q = .int .i64 k ∧ l = .bool (lsT L j k) ∧ Aside0 (Below wo.heap.size wo wr2)) (fun _ q _ => m - (intOf q).toNat)
        case atStart => exact ⟨0, Nat.zero_le _, rfl, rfl, ⟨Below.refl _ _⟩⟩
        case round =>
          obtain ⟨k, hk, rfl, rfl, hB2⟩ := hrel
          by_cases hlt2 : k < m
          · have hkl : k < L.length := by rw [HM.out]; exact hlt2
            have hyl : (L.getD k []).length = n := HLE.out.2 _ (by simp [hkl])
            obtain ⟨g', cap', u', hv', _, _, hcellk, hy⟩ := (hG.out.1.below hB2.out).cell hkl
            rw [HM.out] at hv'
            injection hv' with eA' _ ec'
            injection eA' with eA'
            injection eA' with eg _ _
            subst eg
            subst ec'
            obtain ⟨A9', c9', e9', hc9', hC9'⟩ := hy.rd
            rw [hyl] at e9' hc9'
            subst e9'
            have HY := Lib.hid (And.intro hy (And.intro hkl hyl))
            have HC9' := Lib.hid (And.intro hc9' hC9')
            have hcellj := cell_below HCJ.out hB2.out
            have hst := lsT_succ L j k
            clear hy hyl hkl hc9' hC9'
            cases hls : lsT L j k with
            | false =>
              rw [hls, Bool.false_and] at hst
              have HST := Lib.hid hst
              clear hst hls
              go_wp2_with fail
              go_quiet (fail)
              go_wp2_with fail
              go_roundw
              case rel => exact ⟨k + 1, by omega, by go_num, by rw [HST.out], ⟨hB2.out.trans ((pw_below_drewN (Below.refl _ _) _).mono hB2.out.size)⟩⟩
              case measure => simp [intOf]; omega
            | true =>
              rw [hls, Bool.true_and] at hst
              by_cases hkj : k = j
              · have hjk : ((k : Int) == (j : Int)) = true := by simp [hkj]
                have e : lsT L j (k + 1) = true := by rw [hst]; simp [hkj]
                have HST := Lib.hid e
                clear hst hls e hkj
                go_wp2_with fail
                go_quiet (fail)
                go_wp2_with fail
                go_roundw
                case rel => exact ⟨k + 1, by omega, by go_num, by rw [HST.out], ⟨hB2.out.trans ((pw_below_drewN (Below.refl _ _) _).mono hB2.out.size)⟩⟩
                case measure => simp [intOf]; omega
              · have hjk : ((k : Int) == (j : Int)) = false := by rw [beq_eq_false_iff_ne]; omega
                have e : lsT L j (k + 1) = !below (L.getD k []) (L.getD j []) := by rw [hst]; simp [hkj]
                have HE := Lib.hid e
                have hcl := HC9'.out.1
                have HRx := Lib.hid (Kd.C_below HC9.out.2 hB2.out)
                clear hst hls e hcl hkj
                have hn6 : n ≤ 1048576 := by omega
                obtain ⟨be, hbe⟩ : ∃ be, be = below (L.getD k []) (L.getD j []) := ⟨_, rfl⟩
                rw [← hbe] at HE
                have HBE := Lib.hid hbe
                clear hbe
                cases be with
                | true =>
                  go_wp2_with fail
                  go_quiet ((go_at_call 72; (with_reducible refine (below_n n _ _ (L.getD k []) _ _ (L.getD j []) _ HY.out.2.2 HX.out.2.2.2 hn6 ?s1 HC9'.out.1 ?s2 HC9.out.1).mono ?_); (case s1 => repeat (first | exact HC9'.out.2 | (with_reducible refine Kd.C_drewN ?_ _) | (with_reducible refine Kd.C_drew ?_))); (case s2 => repeat (first | exact HRx.out | (with_reducible refine Kd.C_drewN ?_ _) | (with_reducible refine Kd.C_drew ?_))); rw [← HBE.out]; rintro e w' ⟨rfl, ⟨nd, rfl⟩⟩; (first | exact ⟨rfl, _, World.drewN_drewN _ _ _⟩ | exact ⟨rfl, _, Eq.trans (World.drewN_drewN _ _ _) (congrArg (World.drewN _) (Nat.add_assoc _ _ _))⟩)))
                  go_wp2_with fail
                  go_roundw
                  case rel => exact ⟨k + 1, by omega, by go_num, by rw [HE.out]; rfl, ⟨hB2.out.trans ((pw_below_drewN (Below.refl _ _) _).mono hB2.out.size)⟩⟩
                  case measure => simp [intOf]; omega
                | false =>
                  go_wp2_with fail
                  go_quiet ((go_at_call 72; (with_reducible refine (below_n n _ _ (L.getD k []) _ _ (L.getD j []) _ HY.out.2.2 HX.out.2.2.2 hn6 ?s1 HC9'.out.1 ?s2 HC9.out.1).mono ?_); (case s1 => repeat (first | exact HC9'.out.2 | (with_reducible refine Kd.C_drewN ?_ _) | (with_reducible refine Kd.C_drew ?_))); (case s2 => repeat (first | exact HRx.out | (with_reducible refine Kd.C_drewN ?_ _) | (with_reducible refine Kd.C_drew ?_))); rw [← HBE.out]; rintro e w' ⟨rfl, ⟨nd, rfl⟩⟩; (first | exact ⟨rfl, _, World.drewN_drewN _ _ _⟩ | exact ⟨rfl, _, Eq.trans (World.drewN_drewN _ _ _) (congrArg (World.drewN _) (Nat.add_assoc _ _ _))⟩)))
                  go_wp2_with fail
                  go_roundw
                  case rel => exact ⟨k + 1, by omega, by go_num, by rw [HE.out]; rfl, ⟨hB2.out.trans ((pw_below_drewN (Below.refl _ _) _).mono hB2.out.size)⟩⟩
                  case measure => simp [intOf]; omega
          · obtain rfl : k = m := by omega
            have hfull := lsT_full HLE.out.1 HX.out.2.2.1
            rw [HM.out] at hfull
            have htk : L.take (j + 1) = L.take j ++ [L.getD j []] := by
              have hjl := HX.out.2.2.1
              rw [List.take_succ_eq_append_getElem hjl]
              simp [hjl]
            have hst : (L.take (j + 1)).filter (leastB L) = (L.take j).filter (leastB L) ++ (if lsT L j k = true then [L.getD j []] else []) := by
              rw [htk, List.filter_append, hfull]
              congr 1
              generalize L.getD j [] = y
              cases hq : leastB L y <;> simp [hq]
            have hvt : ∀ q, q ∈ blks (vs.take j) → q ∈ blks (vs.take (j + 1)) := fun q hq => by
              have hjv : j < vs.length := (List.getElem?_eq_some_iff.1 HX.out.2.1).1
              rw [List.take_succ_eq_append_getElem hjv, blks_append]
              exact List.mem_append_left _ hq
            have HVT := Lib.hid hvt
            clear hfull htk hvt
            cases hls : lsT L j k with
            | true =>
              rw [hls, if_pos rfl] at hst
              have HST := Lib.hid hst
              have hcellj := cell_below HCJ.out hB2.out
              have hO2 := hO.out.below hB2.out
              have hG2 := hG.out.1.below hB2.out
              have hb2 := below_to hG.out.2 hB2.out hG.out.2.size
              have hx2 := HX.out.1.below hB2.out
              have hmem := hG.out.1.mem HX.out.2.1
              have hfu : ∀ q, Fp (.slice A9 n c9) q → w.heap.size ≤ q ∧ q ∉ blks vso ∧ u7.ownBlock ≠ some q := fun q hq => by
                have h1 := hmem q (own_iff.2 hq)
                exact ⟨hG.out.1.far q h1.1, fun hs => h1.2 (hI.out q hs), fun ho => (hA.out q ho).1 h1.1⟩
              have hgo := Kd.raw_any hO2.out
              have HO2 := Lib.hid hO2
              have HG2' := Lib.hid (And.intro hG2 hb2)
              have HX2 := Lib.hid hx2
              have HFU := Lib.hid hfu
              have HGO := Lib.hid hgo
              have HVL := Lib.hid hO2.len
              have HFL := Lib.hid (show ((L.take j).filter (leastB L)).length ≤ 7776 from Nat.le_trans (List.length_filter_le _ _) (by rw [List.length_take, HM.out]; omega))
              clear hst hls hO2 hG2 hb2 hx2 hmem hfu hgo
              go_wp2_with (first | ((with_reducible refine gate_builtin (b := .append) (xs := #[.tmp 50, .tmp 55]) rfl ?_); at_builtin; refine Kd.R_append (Kd.raw 1) (w0 := w) w.heap.size rfl (.tmp 50) (.tmp 55) 27 24 (.slice none 0 0) 24 rfl Try.underlying27 info24 rfl (by decide) (by omega) u7 (vso.map fun v => [v]) [.slice A9 n c9] [.slice A9 n c9] (fun _ => True) (fun _ => False) rfl rfl ?aP (fun _ hk => hk.elim) (fun _ _ => trivial) ?aO ?aB ?aS ?aL ?_; (case aP => exact ⟨rfl, rfl, fun u hu => by rw [List.mem_singleton.1 hu]; rfl⟩); (case aB => exact HG2'.out.2); (case aO => exact HGO.out); (case aS => exact HG2'.out.2.size); (case aL => rw [List.length_map]; have := HVL.out; have := HFL.out; omega); intro v6 w6 ho6 hb6 hg6 hat6; have HB6 := Lib.hid hb6; have HG6 := Lib.hid (Ga.push HO2.out (nx := L.getD j []) HX2.out HFU.out ho6 hg6 hat6); have HX6 := Lib.hid (And.intro hg6 hat6); clear ho6 hb6 hg6 hat6))
              go_roundw
              case rel =>
                refine ⟨j + 1, by omega, by go_num, vso ++ [.slice A9 n c9], ⟨by rw [HST.out]; exact HG6.out⟩, ⟨fun q hq => ?_⟩, ⟨fun q hq => ?_⟩, ⟨HG2'.out.1.grown HX6.out.1 (fun q hq => hA.out q hq), HB6.out⟩⟩
                · rw [blks_append, blks_one] at hq
                  rcases List.mem_append.1 hq with hq | hq
                  · exact HVT.out q (hI.out q hq)
                  · have hjv := HX.out.2.1
                    have hjl : j < vs.length := (List.getElem?_eq_some_iff.1 hjv).1
                    rw [List.take_succ_eq_append_getElem hjl, blks_append, (List.getElem?_eq_some_iff.1 hjv).2, blks_one]
                    exact List.mem_append_right _ hq
                · rcases HX6.out.2 with hat | ⟨b', hb', hle⟩
                  · rw [hat] at hq
                    exact hA.out q hq
                  · rw [hb'] at hq
                    injection hq with hq
                    exact ⟨fun hs => by have := HG2'.out.1.lt q hs; omega, fun ho => by have := HG2'.out.1.out_lt ho; omega⟩
              case measure => simp [intOf]; omega
            | false =>
              rw [hls, if_neg (by decide), List.append_nil] at hst
              have HST := Lib.hid hst
              have HO2 := Lib.hid (hO.out.below hB2.out)
              have HG2' := Lib.hid (And.intro (hG.out.1.below hB2.out) (below_to hG.out.2 hB2.out hG.out.2.size))
              clear hst hls
              go_wp2_with fail
              go_roundw
              case rel => exact ⟨j + 1, by omega, by go_num, vso, ⟨by rw [HST.out]; exact HO2.out⟩, ⟨fun q hq => HVT.out q (hI.out q hq)⟩, hA, ⟨HG2'.out⟩⟩
              case measure => simp [intOf]; omega
      · obtain rfl : j = m := by omega
        have hlo : (L.take j).filter (leastB L) = least L := by rw [List.take_of_length_le (by rw [HM.out]; exact Nat.le_refl _)]; rfl
        have ho := hO.out
        rw [hlo] at ho
        obtain ⟨A10, c10, e10, _, _⟩ := ho.rd
        have HO := Lib.hid (And.intro ho hG.out.2)
        have HBB' := Lib.hid HBB.out
        clear hO hI hA hG hlo ho
        generalize hq : least L = Q at *
        generalize hql : Q.length = q at *
        subst e10
        have HQ := Lib.hid (And.intro hq hql)
        clear hq
        by_cases h40 : 40 < q
        · have hfin : basisB a b = false ∧ basisL a b = [] := by
            have := HBB.out
            have hd : decide (q ≤ 40) = false := by simp; omega
            rw [hd] at this
            exact ⟨this.1, by rw [this.2]; rfl⟩
          have HF := Lib.hid hfin
          clear hfin hql
          go_wp2_with fail
          go_ret2
          exact ⟨.slice none 0 0, [], by rw [HF.out.1]; rfl, by rw [HF.out.2]; exact .inl ⟨rfl, rfl, rfl⟩, (fun k hk => by cases hk), HO.out.2⟩
        · have hfin : basisB a b = true ∧ basisL a b = Q := by
            have := HBB.out
            have hd : decide (q ≤ 40) = true := by simp; omega
            rw [hd] at this
            exact ⟨this.1, by rw [this.2]; rfl⟩
          have HF := Lib.hid hfin
          clear hfin hql
          go_wp2_with fail
          go_ret2
          obtain ⟨S', hs1, hs2⟩ := HO.out.1.owss
          exact ⟨_, S', by rw [HF.out.1]; rfl, by rw [HF.out.2]; exact hs1, hs2, HO.out.2⟩
theorem spec_basis (a b : List Int) (va vb : Value) (w : World) (ha : RdI w va a) (hb : RdI w vb b) (hla : a.length ≤ 1048576) (hlb : b.length ≤ 1048576) :
    Calls Try.prog 47 #[va, vb] w fun e w' => ∃ v, e = .returned (.tuple #[v, .bool (basisB a b)]) ∧ RdSS w' v (basisL a b) ∧ Below w.heap.size w w' := by
  refine (spec_basis_own a b va vb w ha hb hla hlb).mono ?_
  rintro e w' ⟨v, S, he, ho, _, hb⟩
  exact ⟨v, he, ho.rd, hb⟩
end Go.Proofs.Ytfnkobcmhbdcoaa.SolC
end
section
/- slices.Clone and the two SolutionBasis, as the printed texts call them. -/

namespace Go.Proofs.Ytfnkobcmhbdcoaa.SolF
open Go.RowKit Go.Proofs.YtfnkobcmhbdcoaaW.PrintWords Go.Proofs.YtfnkobcmhbdcoaaW.PrintLast Go.Proofs.YtfnkobcmhbdcoaaW.PrintMore Go.Proofs.Ytfnkobcmhbdcoaa.Base Go.Proofs.Ytfnkobcmhbdcoaa.XTypes Go.Proofs.Ytfnkobcmhbdcoaa.XInts Go.Proofs.Ytfnkobcmhbdcoaa.Problem Go.Proofs.Ytfnkobcmhbdcoaa.PureInts Go.Proofs.Ytfnkobcmhbdcoaa.Typed Go.Proofs.Ytfnkobcmhbdcoaa.Trees Go.Proofs.Ytfnkobcmhbdcoaa.Rows2 Go.Proofs.Ytfnkobcmhbdcoaa.GathR Go.Proofs.Ytfnkobcmhbdcoaa.PureDio Go.Proofs.Ytfnkobcmhbdcoaa.SolB Go.Proofs.Ytfnkobcmhbdcoaa.SolC
set_option linter.unusedVariables false
set_option linter.unusedSimpArgs false
set_option linter.unnecessarySimpa false

theorem OwI.raise {B : Nat} {w : World} {u : Value} {l : List Int} (h : OwI 0 w u l) (hB : ∀ k ∈ own u, B ≤ k) : OwI B w u l := by
  obtain ⟨h0, inner, ho, hr⟩ := h
  refine ⟨h0, inner, ⟨ho.1, ?_⟩, hr⟩
  rcases ho.2 with ⟨rfl, hn⟩ | ⟨g, cap, cur, rfl, hb, hh, hc, hm, hs, ht⟩
  · exact .inl ⟨rfl, hn⟩
  · exact .inr ⟨g, cap, cur, rfl, hB g (by simp [own]), hh, hc, hm, hs, ht⟩
theorem OwRC.apart {w : World} {ls : List (List Int)} {cs : List Value} {S : List Nat} (h : OwRC w ls cs S) : ∀ (i j : Nat) (u v : Value), i < j → cs[i]? = some u → cs[j]? = some v → ∀ k ∈ own u, k ∉ own v := by
  induction ls generalizing cs S with
  | nil => intro i j u v _ hu; rw [h.1] at hu; simp at hu
  | cons l ls ih =>
    obtain ⟨v0, cs', S', rfl, rfl, h1, h2, hd⟩ := h
    intro i j u v hij hu hv k hk hk'
    obtain ⟨j, rfl⟩ : ∃ j', j = j' + 1 := ⟨j - 1, by omega⟩
    have hv' : cs'[j]? = some v := by simpa using hv
    cases i with
    | zero =>
      obtain rfl : v0 = u := by simpa using hu
      exact hd k hk (by rw [OwRC.blks h2]; exact List.mem_flatMap.2 ⟨v, List.mem_of_getElem? hv', hk'⟩)
    | succ i => exact ih h2 i j u v (by omega) (by simpa using hu) hv' k hk hk'
/-- Which row a block is of. -/
def rowOf (cs : List Value) (k : Nat) : Nat := cs.findIdx (fun v => decide (k ∈ own v))
theorem rowOf_eq {w : World} {ls : List (List Int)} {cs : List Value} {S : List Nat} (h : OwRC w ls cs S) {j : Nat} {u : Value} (hu : cs[j]? = some u) {k : Nat} (hk : k ∈ own u) : rowOf cs k = j := by
  obtain ⟨hj, e⟩ := List.getElem?_eq_some_iff.1 hu
  unfold rowOf
  rw [List.findIdx_eq hj]
  refine ⟨by rw [e]; simpa using hk, fun i hi => ?_⟩
  have hi' : i < cs.length := by omega
  have := OwRC.apart h i j cs[i] u hi (by rw [List.getElem?_eq_getElem]) hu
  by_cases hm : k ∈ own cs[i]
  · exact absurd hk (this k hm)
  · simpa using hm
theorem OwSS.s {w : World} {v : Value} {ls : List (List Int)} {S : List Nat} {B : Nat} (h : OwSS w v ls S) (hB : ∀ k ∈ S, B ≤ k) : Kd.S kII 24 w B (fun _ => True) v ls := by
  rcases h with ⟨rfl, hn, _⟩ | ⟨g, cap, cur, S', rfl, hn, hc, hh, hs, hr, rfl, hg⟩
  · obtain rfl : ls = [] := List.length_eq_zero_iff.1 hn
    exact Kd.S_nil _ _ _ _ _
  · have hlen := hr.len
    refine ⟨rowOf (cur.toList.take (ls.length * 1)), fun _ _ => trivial, cur.toList.take (ls.length * 1), ?_, ?_⟩
    · rw [List.length_zipIdx]
      exact ⟨by rw [hlen]; exact (Nat.mul_one _).symm, .inr ⟨g, cap, cur, rfl, hB g List.mem_cons_self, hh, hn, hc, hs, rfl⟩⟩
    · refine ⟨by rw [List.length_zipIdx, hlen]; exact (Nat.mul_one _).symm, fun j p hj => ?_⟩
      obtain ⟨x, i⟩ := p
      rw [List.getElem?_zipIdx] at hj
      obtain ⟨x', hx, e⟩ := Option.map_eq_some_iff.1 hj
      injection e with e1 e2
      subst e1
      have e2 : i = j := by omega
      subst e2
      obtain ⟨u, hu, hI⟩ := hr.rd i x' hx
      have hdt : ((cur.toList.take (ls.length * 1)).drop (i * 1)).take 1 = [u] := by
        generalize cur.toList.take (ls.length * 1) = C at hu
        rw [Nat.mul_one]
        obtain ⟨hjl, hju⟩ := List.getElem?_eq_some_iff.1 hu
        rw [List.drop_eq_getElem_cons hjl, hju]
        rfl
      have hmem : ∀ k ∈ own u, k ∈ S' := fun k hk => by
        rw [OwRC.blks hr]
        exact List.mem_flatMap.2 ⟨u, List.mem_of_getElem? hu, hk⟩
      refine ⟨u, hdt, Kd.R_mono (OwI.raise hI (fun k hk => hB k (List.mem_cons_of_mem _ (hmem k hk)))) (fun k hk => ⟨⟨trivial, fun e => ?_⟩, rowOf_eq hr hu (own_iff.2 hk)⟩)⟩
      have e' : k = g := by simpa [Value.ownBlock] using e
      exact hg (e' ▸ hmem k (own_iff.2 hk))

set_option maxHeartbeats 1000000 in
set_option maxRecDepth 100000 in
theorem clone_none (c : Nat) (w : World) :
    Calls Try.prog 74 #[.slice none 0 c] w fun e w' => e = .returned (.slice none 0 0) ∧ Below w.heap.size w w' := by
  go_enter Try.func74, Try.ntmps74
  have q22 : ∀ (w : World) (a : Option Addr) (n c n' c' : Nat), (binOp .eql 24 (.slice a n c) (.slice none n' c')).run Try.prog w = .ok (.bool a.isNone) w := fun w a n c n' c' => Lib.run_eql_slice_nil w _ _ a n c n' c' Try.underlying24
  go_wp2_with fail
  go_ret
  exact ⟨rfl, Below.refl _ _⟩
def slices_Clone.f (l0 : List Int) : Option (List Int) := if l0.length ≤ 1048576 then some l0 else none
theorem slices_Clone.calls (A0 : Option Addr) (c0 : Nat) (l0 : List Int) (r : List Int) (w : World) (hr0 : Kd.C (Kd.int .i64) w A0 l0.length l0) (hc0 : l0.length ≤ c0) (h : slices_Clone.f l0 = some r) :
    Calls Try.prog 74 #[.slice A0 l0.length c0] w fun e w' => ∃ v0_ : Value, e = .returned (v0_) ∧ Kd.R (Kd.int .i64) 3 w' w.heap.size (fun _ => True) v0_ r ∧ Below w.heap.size w w' := by
  unfold slices_Clone.f at h
  split at h
  · obtain rfl := Option.some.inj h
    cases A0 with
    | some ad =>
      refine (clone_any ad c0 l0 w hr0 hc0 (by assumption)).mono ?_
      rintro e w' ⟨v, he, ho, hb⟩
      exact ⟨v, he, Kd.R_mono ho (fun _ _ => trivial), hb⟩
    | none =>
      have hz : l0 = [] := by
        cases l0 with
        | nil => rfl
        | cons x xs =>
          obtain ⟨ad, e, _⟩ := hr0.2.2 (by simp)
          cases e
      subst hz
      refine (clone_none c0 w).mono ?_
      rintro e w' ⟨he, hb⟩
      exact ⟨_, he, Kd.R_nil _ _ _ _ _, hb⟩
  · cases h
def impl_SolutionBasis.f (l0 l1 : List Int) : Option (List (List Int) × Bool) := if l0.length ≤ 1048576 ∧ l1.length ≤ 1048576 then some (basisL l0 l1, basisB l0 l1) else none
theorem impl_SolutionBasis.calls (A0 : Option Addr) (c0 : Nat) (l0 : List Int) (A1 : Option Addr) (c1 : Nat) (l1 : List Int) (r1 : List (List Int)) (r2 : Bool) (w : World) (hr0 : Kd.C (Kd.int .i64) w A0 l0.length l0) (hc0 : l0.length ≤ c0) (hr1 : Kd.C (Kd.int .i64) w A1 l1.length l1) (hc1 : l1.length ≤ c1) (h : impl_SolutionBasis.f l0 l1 = some (r1, r2)) :
    Calls Try.prog 48 #[.slice A0 l0.length c0, .slice A1 l1.length c1] w fun e w' => ∃ v0_ : Value, e = .returned (.tuple #[v0_, .bool r2]) ∧ Kd.S (Kd.slice 3 (Kd.int .i64)) 24 w' w.heap.size (fun _ => True) v0_ r1 ∧ Below w.heap.size w w' := by
  unfold impl_SolutionBasis.f at h
  split at h
  · rename_i hh
    have h := Option.some.inj h
    injection h with h1 h2
    subst h1
    subst h2
    refine (impl_basis l0 l1 A0 c0 A1 c1 w hr0 hc0 hr1 hc1 hh.1 hh.2).mono ?_
    rintro e w' ⟨v, S, he, ho, hs, hb⟩
    exact ⟨v, he, OwSS.s ho hs, hb⟩
  · cases h
def spec_SolutionBasis.f (l0 l1 : List Int) : Option (List (List Int) × Bool) := if l0.length ≤ 1048576 ∧ l1.length ≤ 1048576 then some (basisL l0 l1, basisB l0 l1) else none
theorem spec_SolutionBasis.calls (A0 : Option Addr) (c0 : Nat) (l0 : List Int) (A1 : Option Addr) (c1 : Nat) (l1 : List Int) (r1 : List (List Int)) (r2 : Bool) (w : World) (hr0 : Kd.C (Kd.int .i64) w A0 l0.length l0) (hc0 : l0.length ≤ c0) (hr1 : Kd.C (Kd.int .i64) w A1 l1.length l1) (hc1 : l1.length ≤ c1) (h : spec_SolutionBasis.f l0 l1 = some (r1, r2)) :
    Calls Try.prog 47 #[.slice A0 l0.length c0, .slice A1 l1.length c1] w fun e w' => ∃ v0_ : Value, e = .returned (.tuple #[v0_, .bool r2]) ∧ Kd.S (Kd.slice 3 (Kd.int .i64)) 24 w' w.heap.size (fun _ => True) v0_ r1 ∧ Below w.heap.size w w' := by
  unfold spec_SolutionBasis.f at h
  split at h
  · rename_i hh
    have h := Option.some.inj h
    injection h with h1 h2
    subst h1
    subst h2
    refine (spec_basis_own l0 l1 _ _ w ⟨A0, c0, rfl, hc0, hr0⟩ ⟨A1, c1, rfl, hc1, hr1⟩ hh.1 hh.2).mono ?_
    rintro e w' ⟨v, S, he, ho, hs, hb⟩
    exact ⟨v, he, OwSS.s ho hs, hb⟩
  · cases h
end Go.Proofs.Ytfnkobcmhbdcoaa.SolF
end
section
/- Decompose, plainly: what is taken away, and what both answer. -/


namespace Go.Proofs.Ytfnkobcmhbdcoaa.DecP
open Go.RowKit Go.Proofs.YtfnkobcmhbdcoaaW.PrintWords Go.Proofs.YtfnkobcmhbdcoaaW.PrintLast Go.Proofs.Ytfnkobcmhbdcoaa.Base Go.Proofs.Ytfnkobcmhbdcoaa.XTypes Go.Proofs.Ytfnkobcmhbdcoaa.XInts Go.Proofs.Ytfnkobcmhbdcoaa.XProb Go.Proofs.Ytfnkobcmhbdcoaa.XSum Go.Proofs.Ytfnkobcmhbdcoaa.XSol Go.Proofs.Ytfnkobcmhbdcoaa.Problem Go.Proofs.Ytfnkobcmhbdcoaa.PureInts Go.Proofs.Ytfnkobcmhbdcoaa.PureSum Go.Proofs.Ytfnkobcmhbdcoaa.Solution Go.Proofs.Ytfnkobcmhbdcoaa.ImplSol Go.Proofs.Ytfnkobcmhbdcoaa.Typed Go.Proofs.Ytfnkobcmhbdcoaa.Dio Go.Proofs.Ytfnkobcmhbdcoaa.DioL Go.Proofs.Ytfnkobcmhbdcoaa.PureDio Go.Proofs.Ytfnkobcmhbdcoaa.SolB
set_option linter.unusedVariables false
set_option linter.unusedSimpArgs false
set_option linter.unnecessarySimpa false

/-- The first i parts taken away. -/
def subTo (r y : List Int) (i : Nat) : List Int := tab r.length (fun j => if j < i then gt r j - gt y j else gt r j)
theorem subTo_zero (r y : List Int) : subTo r y 0 = r := gt_ext (by simp [subTo]) (fun i hi => by
  rw [subTo, tab_length] at hi
  unfold subTo
  rw [gt_tab hi, if_neg (by omega)])
theorem subTo_all (r y : List Int) (i : Nat) (h : r.length ≤ i) : subTo r y i = sub r y := gt_ext (by simp [subTo, sub]) (fun j hj => by
  rw [subTo, tab_length] at hj
  unfold subTo sub
  rw [gt_tab hj, gt_tab hj, if_pos (by omega)])
theorem subTo_set {r y : List Int} {i : Nat} (hi : i < r.length) : (subTo r y i).set i (gt r i - gt y i) = subTo r y (i + 1) := by
  apply gt_ext
  · simp [subTo]
  · intro j hj
    have hl : j < r.length := by simpa [subTo] using hj
    have e1 : gt (subTo r y (i + 1)) j = if j < i + 1 then gt r j - gt y j else gt r j := by unfold subTo; rw [gt_tab hl]
    rw [e1]
    by_cases e : j = i
    · subst e
      rw [if_pos (by omega), gt_lt hj]
      simp
    · have hl2 : j < (subTo r y i).length := by simpa [subTo] using hl
      rw [gt_lt hj, List.getElem_set_ne (by omega), ← gt_lt hl2]
      unfold subTo
      rw [gt_tab hl]
      by_cases h : j < i
      · rw [if_pos h, if_pos (by omega)]
      · rw [if_neg h, if_neg (by omega)]
theorem subTo_at {r y : List Int} {i : Nat} (hi : i < r.length) : gt (subTo r y i) i = gt r i := by
  unfold subTo
  rw [gt_tab hi, if_neg (by omega)]
/-- The parts are from 0 to 1000. -/
def Mid (r : List Int) : Prop := ∀ i, i < r.length → 0 ≤ gt r i ∧ gt r i ≤ 1000
theorem rdL_of {ls : List (List Int)} {i : Nat} (h : i < ls.length) : rd_L10 ls (i : Int) = ls[i] := by simp [rd_L10, h]
theorem sub_mid {r y : List Int} (hr : Mid r) (hl : y.length = r.length) (hy : ∀ i, i < y.length → 0 ≤ gt y i) (hb : below y r = true) : Mid (sub r y) ∧ (sub r y).length = r.length := by
  have hbe := below_iff.1 hb
  refine ⟨fun i hi => ?_, by simp [sub]⟩
  have hi' : i < r.length := by simpa [sub] using hi
  unfold sub
  rw [gt_tab hi']
  have := hr i hi'
  have := hy i (by omega)
  have := hbe i (by omega)
  omega

/-- What is asked of the pieces. -/
structure Pcs (n : Nat) (B : List (List Int)) : Prop where
  len : B.length ≤ 40
  all : ∀ y ∈ B, y.length = n ∧ (∀ i, i < n → 0 ≤ gt y i ∧ gt y i ≤ 5) ∧ ∃ q, q < n ∧ 0 < gt y q
  n5 : n ≤ 5
def ints (l : List Nat) : List Int := l.map fun (k : Nat) => (k : Int)
theorem tk_ok {n : Nat} {y r : List Int} (hy : y.length = n ∧ (∀ i, i < n → 0 ≤ gt y i ∧ gt y i ≤ 5) ∧ ∃ q, q < n ∧ 0 < gt y q) (hr : Mid r) (hl : r.length = n) : Mid (tk 1001 y r).2 ∧ (tk 1001 y r).2.length = n ∧ (tk 1001 y r).1 ≤ 1000 := by
  obtain ⟨h1, h2, q, hq, hp⟩ := hy
  obtain ⟨t1, t2, _, t4⟩ := tk_spec y q (by omega) hp 1001 r (by omega) (fun i hi => (hr i hi).1) (by have := hr q (by omega); omega)
  refine ⟨fun i hi => ?_, by omega, by have := hr q (by omega); omega⟩
  obtain ⟨e, h0⟩ := t2 i (by omega)
  have h3 : 0 ≤ ((tk 1001 y r).1 : Int) * gt y i := Int.mul_nonneg (by omega) (h2 i (by omega)).1
  have := hr i (by omega)
  omega
def decB (a b x : List Int) : Bool := basisB a b && solB a b x
def decL (a b x : List Int) : List Int := if decB a b x = true then ints (gr (basisL a b) x).1 else []
theorem good_basis {a b : List Int} (h : basisB a b = true) : basisL a b = least (allP a b) ∧ Pcs (a.length + b.length) (basisL a b) := by
  have h' := h
  unfold basisB at h'
  rw [Bool.and_eq_true, decide_eq_true_eq] at h'
  obtain ⟨_, _, _, _, h5⟩ := probB_len h'.1
  have e : basisL a b = least (allP a b) := by unfold basisL; rw [if_pos h]
  refine ⟨e, by rw [e]; exact h'.2, fun y hy => ?_, h5⟩
  rw [e] at hy
  obtain ⟨⟨g1, g2⟩, _, q, hq, hp⟩ := mem_allP.1 (List.mem_filter.1 hy).1
  exact ⟨g1, fun i hi => g2 i (by omega), q, by omega, hp⟩
theorem sol_mid {a b x : List Int} (h : solB a b x = true) : Mid x ∧ x.length = a.length + b.length ∧ bal a b x = 0 := by
  unfold solB at h
  simp only [Bool.and_eq_true, decide_eq_true_eq] at h
  obtain ⟨_, h1, h2, h3⟩ := h
  refine ⟨fun i hi => ?_, h1, ?_⟩
  · have := boundB_at h2 hi
    rwa [rd_gt] at this
  · rw [← bal_eq]
    rw [dot_take a.length (Nat.le_refl _)] at h3
    omega
end Go.Proofs.Ytfnkobcmhbdcoaa.DecP
end
section
/- Decompose: the program's. -/

namespace Go.Proofs.Ytfnkobcmhbdcoaa.DecI
open Go.RowKit Go.Proofs.YtfnkobcmhbdcoaaW.PrintWords Go.Proofs.YtfnkobcmhbdcoaaW.PrintLast Go.Proofs.YtfnkobcmhbdcoaaW.PrintMore Go.Proofs.Ytfnkobcmhbdcoaa.Base Go.Proofs.Ytfnkobcmhbdcoaa.XTypes Go.Proofs.Ytfnkobcmhbdcoaa.XInts Go.Proofs.Ytfnkobcmhbdcoaa.XSol Go.Proofs.Ytfnkobcmhbdcoaa.Problem Go.Proofs.Ytfnkobcmhbdcoaa.PureInts Go.Proofs.Ytfnkobcmhbdcoaa.PureSum Go.Proofs.Ytfnkobcmhbdcoaa.Solution Go.Proofs.Ytfnkobcmhbdcoaa.ImplSol Go.Proofs.Ytfnkobcmhbdcoaa.Typed Go.Proofs.Ytfnkobcmhbdcoaa.Trees Go.Proofs.Ytfnkobcmhbdcoaa.MarkT Go.Proofs.Ytfnkobcmhbdcoaa.Rows2 Go.Proofs.Ytfnkobcmhbdcoaa.Dio Go.Proofs.Ytfnkobcmhbdcoaa.DioL Go.Proofs.Ytfnkobcmhbdcoaa.PureDio Go.Proofs.Ytfnkobcmhbdcoaa.SolA Go.Proofs.Ytfnkobcmhbdcoaa.SolB Go.Proofs.Ytfnkobcmhbdcoaa.SolF Go.Proofs.Ytfnkobcmhbdcoaa.DecP
set_option linter.unusedVariables false
set_option linter.unusedSimpArgs false
set_option linter.unnecessarySimpa false

theorem OwSS.cell {w : World} {v : Value} {ls : List (List Int)} {S : List Nat} (h : OwSS w v ls S) {j : Nat} (hj : j < ls.length) :
    ∃ g cap u, v = .slice (some ⟨g, 0, none⟩) ls.length cap ∧ ls.length ≤ cap ∧ w.cell? ⟨g, j, none⟩ = some u ∧ OwI 0 w u (ls.getD j []) ∧ ∀ k ∈ own u, k ∈ S := by
  have e : ls.take j ++ ls[j] :: ls.drop (j + 1) = ls := by rw [List.getElem_cons_drop, List.take_append_drop]
  have h' : OwSS w v (ls.take j ++ ls[j] :: ls.drop (j + 1)) S := by rw [e]; exact h
  obtain ⟨g, cap, u, hv, hc, hcell, hI, hs, _⟩ := OwSS.at h'
  have l1 : (ls.take j).length = j := by rw [List.length_take]; omega
  have l2 : (ls.take j).length + ((ls.drop (j + 1)).length + 1) = ls.length := by rw [List.length_take, List.length_drop]; omega
  rw [l2] at hv hc
  rw [l1] at hcell
  exact ⟨g, cap, u, hv, hc, hcell, by simpa [hj] using hI, hs⟩
theorem rdOf_gt (l : List Int) (k : Nat) : rdOf 0 l (k : Int) = gt l k := by simp [rdOf, gt]
theorem kept_set {w : World} (b o : Nat) (u : Value) : Kept w (w.setCell ⟨b, o, none⟩ u) (fun k => k = b) := ⟨by simp, fun k _ hp => Below.heap_setCell w _ u k hp⟩
theorem OwI.nil0 (w : World) (B : Nat) : OwI B w (.slice none 0 0) [] := OwI.of (ok := fun _ => True) (Kd.R_nil _ _ _ _ _)
theorem tk_no {f : Nat} {y r : List Int} (h : below y r = false) : tk (f + 1) y r = (0, r) := by simp [tk, h]
theorem tk_yes {f : Nat} {y r : List Int} (h : below y r = true) : tk (f + 1) y r = ((tk f y (sub r y)).1 + 1, (tk f y (sub r y)).2) := by simp [tk, h]
set_option maxHeartbeats 4000000 in
set_option maxRecDepth 100000 in
theorem impl_dec (a b x : List Int) (A0 : Option Addr) (c0 : Nat) (A1 : Option Addr) (c1 : Nat) (A2 : Option Addr) (c2 : Nat) (w : World) (hr0 : Kd.C (Kd.int .i64) w A0 a.length a) (hc0 : a.length ≤ c0) (hr1 : Kd.C (Kd.int .i64) w A1 b.length b) (hc1 : b.length ≤ c1) (hr2 : Kd.C (Kd.int .i64) w A2 x.length x) (hc2 : x.length ≤ c2) (hla : a.length ≤ 1048576) (hlb : b.length ≤ 1048576) (hlx : x.length ≤ 1048576) :
    Calls Try.prog 50 #[.slice A0 a.length c0, .slice A1 b.length c1, .slice A2 x.length c2] w fun e w' => ∃ v, e = .returned (.tuple #[v, .bool (decB a b x)]) ∧ OwI w.heap.size w' v (decL a b x) ∧ Below w.heap.size w w' := by
  have HR0 := Lib.hid hr0
  have HR1 := Lib.hid hr1
  have HR2 := Lib.hid hr2
  have HC0 := Lib.hid hc0
  have HC1 := Lib.hid hc1
  have HC2 := Lib.hid hc2
  clear hr0 hr1 hr2 hc0 hc1 hc2
  go_enter Try.func50, Try.ntmps50
  go_wp2_with fail
  refine (impl_basis a b _ _ _ _ _ HR0.out HC0.out HR1.out HC1.out hla hlb).mono ?_
  rintro e w1 ⟨v8, S, rfl, ho, hs, hb⟩
  obtain ⟨A8, c8, e8, _, _⟩ := ho.rd
  subst e8
  have HO := Lib.hid ho
  have HS := Lib.hid hs
  have HB := Lib.hid hb
  clear ho hs hb
  cases hB : basisB a b with
  | false =>
    have hd : decB a b x = false ∧ decL a b x = [] := by simp [decL, decB, hB]
    have HD := Lib.hid hd
    clear hd hB
    go_wp2_with fail
    go_ret2
    exact ⟨.slice none 0 0, by rw [HD.out.1]; rfl, by rw [HD.out.2]; exact OwI.nil0 _ _, HB.out⟩
  | true =>
    obtain ⟨k, hk⟩ := (implSol_ev a b x hla hlb hlx).rounds
    have HK := Lib.hid hk
    have HBB := Lib.hid hB
    clear hk hB
    go_wp2_with fail
    refine (impl_IsSolution.calls k _ _ a _ _ b _ _ x _ _ (Kd.C_below HR0.out HB.out) HC0.out (Kd.C_below HR1.out HB.out) HC1.out (Kd.C_below HR2.out HB.out) HC2.out HK.out).mono ?_
    rintro e w2 ⟨rfl, b2⟩
    have HO2 := Lib.hid (HO.out.below b2)
    have HB2 := Lib.hid (below_to HB.out b2 HB.out.size)
    clear b2 HO HB
    cases hS : solB a b x with
    | false =>
      have hd : decB a b x = false ∧ decL a b x = [] := by simp [decL, decB, hS]
      have HD := Lib.hid hd
      clear hd hS
      go_wp2_with fail
      go_ret2
      exact ⟨.slice none 0 0, by rw [HD.out.1]; rfl, by rw [HD.out.2]; exact OwI.nil0 _ _, HB2.out⟩
    | true =>
      obtain ⟨hm, hl, _⟩ := sol_mid hS
      obtain ⟨hbl, hg⟩ := good_basis HBB.out
      have hd : decB a b x = true ∧ decL a b x = ints (gr (basisL a b) x).1 := by simp [decL, decB, HBB.out, hS]
      have hn5 := hg.n5
      have hb40 := hg.len
      have hlo : 0 < x.length := by
        unfold basisB at HBB
        have h := HBB.out
        rw [Bool.and_eq_true] at h
        obtain ⟨_, _, h0, _, _⟩ := probB_len h.1
        omega
      rw [← hl] at hg hn5
      have HD := Lib.hid hd
      have HM := Lib.hid hm
      have HG := Lib.hid hg
      generalize hBs : basisL a b = Bs at *
      clear hS hd hm hl hbl hg hBs
      go_wp2_with fail
      refine (slices_Clone.calls _ _ x x _ (Kd.C_below HR2.out HB2.out) HC2.out (by unfold slices_Clone.f; rw [if_pos hlx])).mono ?_
      rintro e w3 ⟨v10, rfl, ho10, b3⟩
      have hsz3 := b3.size
      obtain ⟨g10, c10, e10, gb10, gl10, _⟩ := Kd.R_form ho10 hlo
      subst e10
      have O10 := Lib.hid ((OwI.of ho10).lower HB2.out.size)
      have HO3 := Lib.hid (HO2.out.below b3)
      have HB3 := Lib.hid (below_to HB2.out b3 HB2.out.size)
      have H10 := Lib.hid (show g10 ∉ S from fun hs => by have := HO2.out.lt g10 hs; omega)
      have H10b := Lib.hid (show w.heap.size ≤ g10 by have := HB2.out.size; omega)
      obtain ⟨V, hV⟩ : ∃ V, V = w3.alloc (.cells #[] 3) := ⟨_, rfl⟩
      have bV : Below w3.heap.size w3 V := by rw [hV]; exact below_alloc (Below.refl _ _) _
      have O11 := Lib.hid (show OwI w.heap.size V (.slice (some ⟨w3.heap.size, 0, none⟩) 0 0) [] from OwI.of (ok := fun _ => True) ⟨fun _ _ => trivial, [], ⟨rfl, .inr ⟨w3.heap.size, 0, #[], rfl, HB3.out.size, by rw [hV]; exact blk_new _ _, Nat.le_refl _, by decide, rfl, rfl⟩⟩, Reps.none _ _⟩)
      have HV := Lib.hid (And.intro (O10.out.below bV) (And.intro (HO3.out.below bV) (below_to HB3.out bV HB3.out.size)))
      have HF11 := Lib.hid (show ∀ k, Fp (.slice (some ⟨w3.heap.size, 0, none⟩) 0 0) k → k ∉ S ∧ k ≠ g10 from fun k hk => by
        have e : w3.heap.size = k := by simpa [Fp, Value.ownBlock] using hk
        exact ⟨fun hs => by have := HO3.out.lt k hs; omega, by omega⟩)
      clear bV ho10 b3 gb10 gl10 hsz3
      generalize hn : x.length = n at *
      have HN := Lib.hid hn
      generalize hmm : Bs.length = m at *
      have HMM := Lib.hid hmm
      clear hn hmm
      go_wp2_with fail
      rw [← hV]
      clear hV
      go_loopw [11, 37] (fun vo i wr => ∃ j : Nat, j ≤ m ∧ i = .int .i64 j ∧ ∃ r outs, Aside0 (Mid r ∧ r.length = n ∧ outs.length = j ∧ outs ++ ints (gr (Bs.drop j) r).1 = ints (gr Bs x).1) ∧ Aside0 (OwI w.heap.size wr (.slice (some ⟨g10, 0, none⟩) n c10) r) ∧ Aside0 (OwI w.heap.size wr vo outs) ∧ Aside0 (OwSS wr (.slice A8 m c8) Bs S ∧ Below w.heap.size w wr) ∧ Aside0 (∀ k, Fp vo k → k ∉ S ∧ k ≠ g10)) (fun _ i _ => m - (intOf i).toNat)
      case atStart => exact ⟨0, Nat.zero_le _, rfl, x, [], ⟨HM.out, HN.out, rfl, rfl⟩, ⟨HV.out.1⟩, ⟨O11.out⟩, ⟨HV.out.2⟩, ⟨HF11.out⟩⟩
      case round =>
        obtain ⟨j, hj, rfl, r, outs, hR, h10, h11, hO, hF⟩ := hrel
        by_cases hlt : j < m
        · have hjl : j < Bs.length := by rw [HMM.out]; exact hlt
          obtain ⟨hyl, hy5, q, hq, hqp⟩ := HG.out.all (Bs.getD j []) (by simp [hjl])
          obtain ⟨g8, cap, u, hv, hcap, hcell, hyI, huS⟩ := OwSS.cell hO.out.1 hjl
          rw [HMM.out] at hv hcap
          injection hv with eA _ ec
          subst eA
          subst ec
          have hd' : Bs.drop j = Bs.getD j [] :: Bs.drop (j + 1) := by
            have e1 : Bs.getD j [] = Bs[j] := by simp [hjl]
            rw [e1]
            exact (List.getElem_cons_drop hjl).symm
          generalize hye : Bs.getD j [] = y at *
          obtain ⟨g9, c9, e9, _, _, _⟩ := Kd.R_form hyI (by omega)
          rw [hyl] at e9
          subst e9
          have HY := Lib.hid (And.intro hyI (And.intro huS (And.intro hyl (And.intro hy5 (And.intro hq hqp)))))
          have HDR := Lib.hid hd'
          have hg9 : g9 ≠ g10 := fun e => H10.out (e ▸ huS g9 (by simp [own]))
          have HG9 := Lib.hid hg9
          clear hyI huS hyl hy5 hqp hd' hg9 hye
          go_wp2_with fail
          clear hcell
          obtain ⟨wo, hwo⟩ : ∃ wo : World, wo = wr := ⟨_, rfl⟩
          rw [← hwo] at h10 h11 hO HY ⊢
          clear hwo
          go_loopg [14] 1001 (fun f v wr => ∃ (nn : Nat) (r2 : List Int), v = .int .i64 nn ∧ Aside0 (Mid r2 ∧ r2.length = n ∧ nn + (tk f y r2).1 = (tk 1001 y r).1 ∧ (tk f y r2).2 = (tk 1001 y r).2 ∧ gt r2 q < f ∧ nn + f ≤ 1001) ∧ Aside0 (OwI w.heap.size wr (.slice (some ⟨g10, 0, none⟩) n c10) r2) ∧ Aside0 (Kept wo wr (fun k => k = g10) ∧ Below w.heap.size w wr))
          case atStart => exact ⟨0, r, rfl, ⟨hR.out.1, hR.out.2.1, by omega, rfl, by have := hR.out.1 q (by rw [hR.out.2.1]; omega); omega, by omega⟩, ⟨h10.out⟩, ⟨kept_refl _ _, hO.out.2⟩⟩
          case round =>
            obtain ⟨nn, r2, rfl, hR2, h102, hK2⟩ := hrel
            obtain ⟨f, rfl⟩ : ∃ f, gk = f + 1 := ⟨gk - 1, by have := hR2.out.1 q (by rw [hR2.out.2.1]; omega); have := hR2.out.2.2.2.2.1; omega⟩
            have hyw : OwI 0 wr (.slice (some ⟨g9, 0, none⟩) n c9) y := HY.out.1.step (fun k hk hlt => hK2.out.1.2 k hlt (fun e => by
              have e' : g9 = k := by simpa [Fp, Value.ownBlock] using hk
              exact HG9.out (e'.trans e)))
            have HYW := Lib.hid hyw
            have hnb : nn ≤ 1001 := by have := hR2.out.2.2.2.2.2; omega
            clear hyw
            have hyl := HY.out.2.2.1
            have hnw := nowhere_any _ _ y r2 wr HYW.out.rd h102.out.rd (by rw [hyl, hR2.out.2.1]; exact Nat.le_refl _) (by rw [hyl]; omega)
            cases hbel : below y r2 with
            | false =>
              have hfin : nn = (tk 1001 y r).1 ∧ r2 = (tk 1001 y r).2 := by
                have h1 := hR2.out.2.2.1
                have h2 := hR2.out.2.2.2.1
                generalize tk 1001 y r = P at h1 h2 ⊢
                rw [tk_no hbel] at h1 h2
                exact ⟨h1, h2⟩
              rw [hbel] at hnw
              have HNW := Lib.hid hnw
              have HFIN := Lib.hid hfin
              clear hnw hfin hbel
              go_wp2_with fail
              refine HNW.out.mono ?_
              rintro e w4 ⟨rfl, b4⟩
              have HK4 := Lib.hid (And.intro (kept_trans hK2.out.1 (kept_below b4)) (below_to hK2.out.2 b4 hK2.out.2.size))
              have H104 := Lib.hid (h102.out.below b4)
              have H114 := Lib.hid (h11.out.step (fun k hk hlt => HK4.out.1.2 k hlt (fun e => (hF.out k hk).2 e)))
              have HO4 := Lib.hid (hO.out.1.frame (fun k hk => HK4.out.1.2 k (hO.out.1.lt k hk) (fun e => H10.out (e ▸ hk))))
              have HOL := Lib.hid (show outs.length = j from hR.out.2.2.1)
              have ho11 := Kd.R_mono H114.out (fun _ _ => trivial) (ok' := fun _ => True)
              have HO11 := Lib.hid ho11
              clear b4 HNW ho11
              go_wp2_with (first | ((with_reducible refine gate_builtin (b := .append) (xs := #[.tmp 63, .tmp 65]) rfl ?_); refine Kd.R_append (Kd.int .i64) (w0 := w) w.heap.size rfl (.tmp 63) (.tmp 65) 24 3 (.int .i64 0) 8 rfl Try.underlying24 info3 rfl (by decide) (by omega) u11 outs (nn : Int) [.int .i64 (nn : Int)] (fun _ => True) (fun _ => False) rfl rfl ?aP (fun _ hk => hk.elim) (fun _ _ => trivial) ?aO ?aB ?aS ?aL ?_; (case aP => exact rfl); (case aB => exact HK4.out.2); (case aO => exact HO11.out); (case aS => exact HK4.out.2.size); (case aL => have := HOL.out; omega); intro v6 w6 ho6 hb6 hg6 hat6; have HO6 := Lib.hid (And.intro (OwI.of ho6) (And.intro hb6 (And.intro hg6 hat6))); clear ho6 hb6 hg6 hat6))
              go_roundw
              case rel =>
                refine ⟨j + 1, by omega, by go_num, r2, outs ++ [(nn : Int)], ⟨hR2.out.1, hR2.out.2.1, by simp [HOL.out], ?_⟩, ⟨H104.out.step (fun k hk hlt => HO6.out.2.2.1.block k hlt (fun e => ?_))⟩, ⟨HO6.out.1⟩, ⟨HO4.out.frame (fun k hk => HO6.out.2.2.1.block k (HO4.out.lt k hk) (fun e => (hF.out k e.symm).1 hk)), HO6.out.2.1⟩, ⟨fun k hk => ?_⟩⟩
                · have h := hR.out.2.2.2
                  rw [HDR.out] at h
                  rw [← h, HFIN.out.1, HFIN.out.2]
                  simp [gr, ints]
                · have e1 : g10 = k := by simpa [Fp, Value.ownBlock] using hk
                  exact (hF.out k e.symm).2 e1.symm
                · rcases HO6.out.2.2.2 with h | ⟨b', hb', hle'⟩
                  · exact hF.out k (by unfold Fp; rw [← h]; exact hk)
                  · have e1 : b' = k := by unfold Fp at hk; rw [hb'] at hk; injection hk
                    have h1 := H104.out.lt (k := g10) (by simp [Fp, Value.ownBlock])
                    exact ⟨fun hs => by have := HO4.out.lt k hs; omega, by omega⟩
              case measure => simp [intOf]; omega
            | true =>
              have hfin : nn + 1 + (tk f y (sub r2 y)).1 = (tk 1001 y r).1 ∧ (tk f y (sub r2 y)).2 = (tk 1001 y r).2 := by
                have h1 := hR2.out.2.2.1
                have h2 := hR2.out.2.2.2.1
                generalize tk 1001 y r = P at h1 h2 ⊢
                rw [tk_yes hbel] at h1 h2
                simp only [] at h1 h2
                exact ⟨by omega, h2⟩
              have hsm := sub_mid hR2.out.1 (show y.length = r2.length by rw [hyl, hR2.out.2.1]) (fun i hi => (HY.out.2.2.2.1 i (by omega)).1) hbel
              have hsq : gt (sub r2 y) q < f := by
                have h1 := hR2.out.2.2.2.2.1
                have h2 := HY.out.2.2.2.2.2
                have h3 : gt (sub r2 y) q = gt r2 q - gt y q := by unfold sub; rw [gt_tab (by rw [hR2.out.2.1]; omega)]
                omega
              rw [hbel] at hnw
              have HNW := Lib.hid hnw
              have HFIN := Lib.hid (And.intro hfin (And.intro hsm hsq))
              clear hnw hfin hsm hsq hbel
              go_wp2_with fail
              refine HNW.out.mono ?_
              rintro e w4 ⟨rfl, b4⟩
              have HK4 := Lib.hid (And.intro (kept_trans hK2.out.1 (kept_below b4)) (below_to hK2.out.2 b4 hK2.out.2.size))
              have H104 := Lib.hid (h102.out.below b4)
              clear b4 HNW
              go_wp2_with fail
              go_loopw [46] (fun i wr3 => ∃ k : Nat, k ≤ n ∧ i = .int .i64 k ∧ Aside0 (OwI w.heap.size wr3 (.slice (some ⟨g10, 0, none⟩) n c10) (subTo r2 y k)) ∧ Aside0 (Kept wo wr3 (fun k => k = g10) ∧ Below w.heap.size w wr3)) (fun i _ => n - (intOf i).toNat)
              case atStart => exact ⟨0, Nat.zero_le _, rfl, ⟨by rw [subTo_zero]; exact H104.out⟩, ⟨HK4.out⟩⟩
              case round =>
                obtain ⟨k, hk, rfl, h103, hK3⟩ := hrel
                by_cases hkn : k < n
                · have hy3 : OwI 0 wr (.slice (some ⟨g9, 0, none⟩) n c9) y := HY.out.1.step (fun k hk hlt => hK3.out.1.2 k hlt (fun e => by
                    have e' : g9 = k := by simpa [Fp, Value.ownBlock] using hk
                    exact HG9.out (e'.trans e)))
                  have hyc := (Kd.R_celln 0 hy3 (k : Int) (by omega) (by omega)).1
                  obtain ⟨hrc, hrf⟩ := Kd.R_celln 0 h103.out (k : Int) (by omega) (by omega)
                  have hrl := hR2.out.2.1
                  rw [rdOf_gt, Int.toNat_natCast] at hyc
                  rw [rdOf_gt, Int.toNat_natCast, subTo_at (by omega)] at hrc
                  rw [Int.toNat_natCast] at hrf
                  have hyb := HY.out.2.2.2.1 k hkn
                  have hrb := hR2.out.1 k (by omega)
                  have hput := Kd.R_putn h103.out (k : Int) (gt r2 k - gt y k)
                  rw [Int.toNat_natCast, subTo_set (by omega)] at hput
                  have HPUT := Lib.hid hput
                  clear hput hy3
                  generalize gt y k = yv at *
                  generalize gt r2 k = rv at *
                  clear hrl
                  go_wp2_with fail
                  go_roundw
                  case rel => exact ⟨k + 1, by omega, by go_num, ⟨HPUT.out⟩, ⟨kept_trans hK3.out.1 (kept_set _ _ _), hK3.out.2.setCell H10b.out _⟩⟩
                  case measure => simp [intOf]; omega
                · obtain rfl : k = n := by omega
                  have h3 := h103.out
                  rw [subTo_all _ _ _ (by rw [hR2.out.2.1]; exact Nat.le_refl _)] at h3
                  have H3 := Lib.hid h3
                  clear h3
                  go_wp2_with fail
                  go_roundg f
                  case measure => omega
                  case rel => exact ⟨nn + 1, sub r2 y, by go_num, ⟨HFIN.out.2.1.1, by rw [HFIN.out.2.1.2]; exact hR2.out.2.1, HFIN.out.1.1, HFIN.out.1.2, HFIN.out.2.2, by have := hR2.out.2.2.2.2.2; omega⟩, ⟨H3.out⟩, ⟨hK3.out⟩⟩
        · obtain rfl : j = m := by omega
          have hfin := hR.out.2.2.2
          rw [List.drop_of_length_le (by rw [HMM.out]; exact Nat.le_refl _)] at hfin
          have HFIN := Lib.hid hfin
          clear hfin
          go_wp2_with fail
          go_ret2
          refine ⟨_, by rw [HD.out.1]; rfl, ?_, hO.out.2⟩
          rw [HD.out.2, ← HFIN.out]
          simpa [gr, ints] using h11.out
/-- As the printed texts call it. -/
def impl_Decompose.f (l0 l1 l2 : List Int) : Option (List Int × Bool) := if l0.length ≤ 1048576 ∧ l1.length ≤ 1048576 ∧ l2.length ≤ 1048576 then some (decL l0 l1 l2, decB l0 l1 l2) else none
theorem impl_Decompose.calls (A0 : Option Addr) (c0 : Nat) (l0 : List Int) (A1 : Option Addr) (c1 : Nat) (l1 : List Int) (A2 : Option Addr) (c2 : Nat) (l2 : List Int) (r1 : List Int) (r2 : Bool) (w : World) (hr0 : Kd.C (Kd.int .i64) w A0 l0.length l0) (hc0 : l0.length ≤ c0) (hr1 : Kd.C (Kd.int .i64) w A1 l1.length l1) (hc1 : l1.length ≤ c1) (hr2 : Kd.C (Kd.int .i64) w A2 l2.length l2) (hc2 : l2.length ≤ c2) (h : impl_Decompose.f l0 l1 l2 = some (r1, r2)) :
    Calls Try.prog 50 #[.slice A0 l0.length c0, .slice A1 l1.length c1, .slice A2 l2.length c2] w fun e w' => ∃ v0_ : Value, e = .returned (.tuple #[v0_, .bool r2]) ∧ Kd.R (Kd.int .i64) 3 w' w.heap.size (fun _ => True) v0_ r1 ∧ Below w.heap.size w w' := by
  unfold impl_Decompose.f at h
  split at h
  · rename_i hh
    have h := Option.some.inj h
    injection h with h1 h2
    subst h1
    subst h2
    refine (impl_dec l0 l1 l2 A0 c0 A1 c1 A2 c2 w hr0 hc0 hr1 hc1 hr2 hc2 hh.1 hh.2.1 hh.2.2).mono ?_
    rintro e w' ⟨v, he, ho, hb⟩
    exact ⟨v, he, Kd.R_mono ho (fun _ _ => trivial), hb⟩
  · cases h
end Go.Proofs.Ytfnkobcmhbdcoaa.DecI
end
section
-- Written by this session's program xprint.py out of the translation; not trusted: Lean checks it.




namespace Go.Proofs.Ytfnkobcmhbdcoaa.XDec
open Go.RowKit Go.Proofs.YtfnkobcmhbdcoaaW.PrintWords Go.Proofs.YtfnkobcmhbdcoaaW.PrintLast Go.Proofs.YtfnkobcmhbdcoaaW.PrintMore
attribute [local go_sem] max2_int min2_int max_two min_two max_three min_three max_four min_four   -- for this text's walks alone
set_option linter.unusedVariables false
set_option linter.unusedSimpArgs false
open Go.Proofs.Ytfnkobcmhbdcoaa.SolF Go.Proofs.Ytfnkobcmhbdcoaa.Solution Go.Proofs.Ytfnkobcmhbdcoaa.XSum Go.Proofs.Ytfnkobcmhbdcoaa.XTypes

end Go.Proofs.Ytfnkobcmhbdcoaa.XDec
end
