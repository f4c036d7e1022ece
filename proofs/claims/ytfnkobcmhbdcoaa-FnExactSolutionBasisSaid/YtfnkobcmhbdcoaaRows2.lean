/- Rows of rows of integers that the call owns: which blocks, no two of which are one. -/
import Derived.Test.YtfnkobcmhbdcoaaMarkT
namespace Go.Proofs.Ytfnkobcmhbdcoaa.Rows2
open Go.RowKit Go.Proofs.YtfnkobcmhbdcoaaW.PrintWords Go.Proofs.YtfnkobcmhbdcoaaW.PrintLast Go.Proofs.Ytfnkobcmhbdcoaa.Base Go.Proofs.Ytfnkobcmhbdcoaa.XTypes Go.Proofs.Ytfnkobcmhbdcoaa.XInts Go.Proofs.Ytfnkobcmhbdcoaa.PureInts Go.Proofs.Ytfnkobcmhbdcoaa.Typed Go.Proofs.Ytfnkobcmhbdcoaa.Trees Go.Proofs.Ytfnkobcmhbdcoaa.MarkT
set_option linter.unusedVariables false
set_option linter.unusedSimpArgs false
set_option linter.unnecessarySimpa false

/-- The block of a row. -/
def own : Value → List Nat
  | .slice (some a) _ _ => [a.block]
  | _ => []
theorem own_iff {v : Value} {k : Nat} : k ∈ own v ↔ Fp v k := by
  unfold own Fp Value.ownBlock
  split
  · rename_i a _ _
    constructor
    · intro h; rw [List.mem_singleton.1 h]
    · intro h; injection h with h; rw [h]; exact List.mem_cons_self
  · rename_i h
    constructor
    · intro h'; cases h'
    · intro h'
      split at h'
      · rename_i a _ _; exact (h a _ _ rfl).elim
      · cases h'
theorem frameI {w w' : World} {v : Value} {l : List Int} (h : OwI 0 w v l) (hm : ∀ k ∈ own v, w'.heap[k]? = w.heap[k]?) : OwI 0 w' v l := h.step (fun k hk _ => hm k (own_iff.2 hk))
def OwRC (w : World) : List (List Int) → List Value → List Nat → Prop
  | [], cs, S => cs = [] ∧ S = []
  | l :: ls, cs, S => ∃ v cs' S', cs = v :: cs' ∧ S = own v ++ S' ∧ OwI 0 w v l ∧ OwRC w ls cs' S' ∧ ∀ k ∈ own v, k ∉ S'
/-- A row of rows of one's own. -/
def OwSS (w : World) (v : Value) (ls : List (List Int)) (S : List Nat) : Prop := RowOf w 24 1 v ls.length (OwRC w ls) S
theorem OwRC.len {w : World} {ls : List (List Int)} {cs : List Value} {S : List Nat} (h : OwRC w ls cs S) : cs.length = ls.length := by
  induction ls generalizing cs S with
  | nil => rw [h.1]; rfl
  | cons l ls ih =>
    obtain ⟨v, cs', S', rfl, rfl, _, h2, _⟩ := h
    simp [ih h2]
theorem OwRC.frame {w w' : World} {ls : List (List Int)} {cs : List Value} {S : List Nat} (h : OwRC w ls cs S) (hm : ∀ k ∈ S, w'.heap[k]? = w.heap[k]?) : OwRC w' ls cs S := by
  induction ls generalizing cs S with
  | nil => exact h
  | cons l ls ih =>
    obtain ⟨v, cs', S', rfl, rfl, h1, h2, hd⟩ := h
    exact ⟨v, cs', S', rfl, rfl, frameI h1 (fun k hk => hm k (List.mem_append_left _ hk)), ih h2 (fun k hk => hm k (List.mem_append_right _ hk)), hd⟩
theorem OwRC.lt {w : World} {ls : List (List Int)} {cs : List Value} {S : List Nat} (h : OwRC w ls cs S) : ∀ k ∈ S, k < w.heap.size := by
  induction ls generalizing cs S with
  | nil => intro k hk; rw [h.2] at hk; cases hk
  | cons l ls ih =>
    obtain ⟨v, cs', S', rfl, rfl, h1, h2, hd⟩ := h
    intro k hk
    rcases List.mem_append.1 hk with hk | hk
    · exact (h1.lt (own_iff.1 hk)).2
    · exact ih h2 k hk
theorem OwSS.frame {w w' : World} {v : Value} {ls : List (List Int)} {S : List Nat} (h : OwSS w v ls S) (hm : ∀ k ∈ S, w'.heap[k]? = w.heap[k]?) : OwSS w' v ls S := RowOf.imp h hm (fun cs S' h hk => h.frame (fun k hs => hm k (hk k hs)))
theorem OwSS.lt {w : World} {v : Value} {ls : List (List Int)} {S : List Nat} (h : OwSS w v ls S) : ∀ k ∈ S, k < w.heap.size := RowOf.lt h (fun cs S' h => h.lt)
theorem OwSS.below {w w' : World} {v : Value} {ls : List (List Int)} {S : List Nat} (h : OwSS w v ls S) (hb : Below w.heap.size w w') : OwSS w' v ls S := h.frame (fun k hk => hb.block k (h.lt k hk))
theorem OwRC_mid {w : World} {xs ys : List (List Int)} {l : List Int} {cs : List Value} {S : List Nat} : OwRC w (xs ++ l :: ys) cs S ↔ ∃ c1 v c2 S1 S2, cs = c1 ++ (v :: c2) ∧ S = S1 ++ (own v ++ S2) ∧ OwRC w xs c1 S1 ∧ OwI 0 w v l ∧ OwRC w ys c2 S2 ∧ (∀ k ∈ S1, k ∉ own v ++ S2) ∧ ∀ k ∈ own v, k ∉ S2 := by
  induction xs generalizing cs S with
  | nil =>
    constructor
    · rintro ⟨v, c2, S2, rfl, rfl, h1, h2, hd⟩
      exact ⟨[], v, c2, [], S2, rfl, rfl, ⟨rfl, rfl⟩, h1, h2, (fun k hk => by cases hk), hd⟩
    · rintro ⟨c1, v, c2, S1, S2, rfl, rfl, ⟨rfl, rfl⟩, h2, h3, hd1, hd2⟩
      exact ⟨v, c2, S2, rfl, rfl, h2, h3, hd2⟩
  | cons a xs ih =>
    constructor
    · rintro ⟨u, d2, R2, rfl, rfl, h1, h2, hd⟩
      obtain ⟨c1, v, c2, S1, S2, rfl, rfl, g1, g2, g3, hd1, hd2⟩ := ih.1 h2
      refine ⟨u :: c1, v, c2, own u ++ S1, S2, rfl, by simp, ⟨u, c1, S1, rfl, rfl, h1, g1, fun k hk hk' => hd k hk (List.mem_append_left _ hk')⟩, g2, g3, fun k hk => ?_, hd2⟩
      rcases List.mem_append.1 hk with hk | hk
      · exact fun hk' => hd k hk (List.mem_append_right _ hk')
      · exact hd1 k hk
    · rintro ⟨c1, v, c2, S1, S2, rfl, rfl, h1, h2, h3, hd1, hd2⟩
      obtain ⟨u, c1', R2, rfl, rfl, g1, g2, gd⟩ := h1
      refine ⟨u, c1' ++ (v :: c2), R2 ++ (own v ++ S2), rfl, by simp, g1, ih.2 ⟨c1', v, c2, R2, S2, rfl, rfl, g2, h2, h3, fun k hk => hd1 k (List.mem_append_right _ hk), hd2⟩, fun k hk hk' => ?_⟩
      rcases List.mem_append.1 hk' with hk' | hk'
      · exact gd k hk hk'
      · exact hd1 k (List.mem_append_left _ hk) hk'
/-- An element; and how the whole is owned again when its row has been changed. -/
theorem OwSS.at {w : World} {v : Value} {xs ys : List (List Int)} {l : List Int} {S : List Nat} (h : OwSS w v (xs ++ l :: ys) S) :
    ∃ g cap u, v = .slice (some ⟨g, 0, none⟩) (xs.length + (ys.length + 1)) cap ∧ xs.length + (ys.length + 1) ≤ cap ∧ w.cell? ⟨g, xs.length, none⟩ = some u ∧ OwI 0 w u l ∧ (∀ k ∈ own u, k ∈ S) ∧
      ∀ (w' : World) (l' : List Int), OwI 0 w' u l' → (∀ k ∈ S, k ∉ own u → w'.heap[k]? = w.heap[k]?) → OwSS w' v (xs ++ l' :: ys) S := by
  rcases h with ⟨_, hn, _⟩ | ⟨g, cap, cur, S', hv, hn, hc, hh, hs, hr, rfl, hg⟩
  · simp at hn
  · obtain ⟨c1, u, c2, S1, S2, ecs, rfl, h1, h2, h3, hd1, hd2⟩ := OwRC_mid.1 hr
    have l1 := h1.len
    have hlen : (xs ++ l :: ys).length = xs.length + (ys.length + 1) := by simp
    rw [hlen] at hv hn ecs
    have hcell : w.cell? ⟨g, xs.length, none⟩ = some u := by
      have e : (cur.toList.take ((xs.length + (ys.length + 1)) * 1))[xs.length]? = some u := by
        rw [ecs, List.getElem?_append_right (by omega), l1, Nat.sub_self]
        rfl
      rw [List.getElem?_take] at e
      split at e
      · simp only [World.cell?, hh]
        simpa using e
      · cases e
    have hug : ∀ k ∈ own u, k ∈ S1 ++ (own u ++ S2) := fun k hk => List.mem_append_right _ (List.mem_append_left _ hk)
    refine ⟨g, cap, u, hv, hn, hcell, h2, fun k hk => List.mem_cons_of_mem _ (hug k hk), ?_⟩
    intro w' l' hu' hrest
    have hgu : g ∉ own u := fun e => hg (hug g e)
    have hlen' : (xs ++ l' :: ys).length = xs.length + (ys.length + 1) := by simp
    refine .inr ⟨g, cap, cur, S1 ++ (own u ++ S2), by rw [hv, hlen'], by rw [hlen']; exact hn, hc, (hrest g List.mem_cons_self hgu).trans hh, hs, ?_, rfl, hg⟩
    rw [hlen', ecs]
    exact OwRC_mid.2 ⟨c1, u, c2, S1, S2, rfl, rfl, h1.frame (fun k hk => hrest k (List.mem_cons_of_mem _ (List.mem_append_left _ hk)) (fun e => hd1 k hk (List.mem_append_left _ e))), hu', h3.frame (fun k hk => hrest k (List.mem_cons_of_mem _ (List.mem_append_right _ (List.mem_append_right _ hk))) (fun e => hd2 k e hk)), hd1, hd2⟩

/-! ### read -/
abbrev kII : Kd (List Int) := Kd.slice 3 (Kd.int .i64)
def RdSS (w : World) (v : Value) (ls : List (List Int)) : Prop := ∃ A c, v = .slice A ls.length c ∧ ls.length ≤ c ∧ Kd.C kII w A ls.length ls
theorem RdSS.below {w w' : World} {v : Value} {l : List (List Int)} (h : RdSS w v l) (hb : Below w.heap.size w w') : RdSS w' v l := by
  obtain ⟨A, c, e, hc, hr⟩ := h
  exact ⟨A, c, e, hc, Kd.C_below hr hb⟩
theorem OwRC.rd {w : World} {ls : List (List Int)} {cs : List Value} {S : List Nat} (h : OwRC w ls cs S) : ∀ (j : Nat) l, ls[j]? = some l → ∃ u, cs[j]? = some u ∧ OwI 0 w u l := by
  induction ls generalizing cs S with
  | nil => intro j l hj; simp at hj
  | cons l0 ls ih =>
    obtain ⟨v, cs', S', rfl, rfl, h1, h2, hd⟩ := h
    intro j l hj
    cases j with
    | zero =>
      obtain rfl : l0 = l := by simpa using hj
      exact ⟨v, rfl, h1⟩
    | succ j => exact ih h2 j l (by simpa using hj)
theorem OwSS.rd {w : World} {v : Value} {ls : List (List Int)} {S : List Nat} (h : OwSS w v ls S) : RdSS w v ls := by
  rcases h with ⟨rfl, hn, _⟩ | ⟨g, cap, cur, S', rfl, hn, hc, hh, hs, hr, rfl, hg⟩
  · obtain rfl : ls = [] := List.length_eq_zero_iff.1 hn
    exact ⟨none, 0, rfl, Nat.le_refl _, ⟨rfl, by simp, fun h => by simp at h⟩⟩
  · refine ⟨some ⟨g, 0, none⟩, cap, rfl, hn, ⟨rfl, by unfold maxLen at hc; omega, fun _ => ⟨_, rfl, ?_⟩⟩⟩
    intro j l hj
    obtain ⟨u, hu, hI⟩ := hr.rd j l hj
    obtain ⟨A, c, rfl, hcl, hC⟩ := OwI.rd hI
    refine ⟨[.slice A l.length c], rfl, ⟨A, c, rfl, hcl, hC⟩, fun i x hi => ?_⟩
    obtain rfl : i = 0 := by
      have := (List.getElem?_eq_some_iff.1 hi).1
      simp at this
      exact this
    obtain rfl : Value.slice A l.length c = x := by simpa using hi
    rw [List.getElem?_take] at hu
    split at hu
    · have ha : (⟨g, 0, none⟩ : Addr).add (j * (Kd.sz kII) + 0) = ⟨g, j, none⟩ := by
        have e : j * (Kd.sz kII) + 0 = j := by show j * 1 + 0 = j; omega
        rw [e]
        unfold Addr.add
        split
        · rename_i e; rw [e]
        · simp
      show w.cell? ((⟨g, 0, none⟩ : Addr).add (j * (Kd.sz kII) + 0)) = _
      rw [ha]
      simp only [World.cell?, hh]
      simpa using hu
    · cases hu

/-! ### marks -/
def sumL : List (List Int) → Nat
  | [] => 0
  | l :: ls => l.length + sumL ls
def mkSS : List (List Int) → Nat → List (List Int)
  | [], _ => []
  | l :: ls, k => upFrom k l.length :: mkSS ls (k + l.length)
theorem mkSS_len (ls : List (List Int)) (k : Nat) : (mkSS ls k).length = ls.length := by
  induction ls generalizing k with
  | nil => rfl
  | cons l ls ih => simp [mkSS, ih]
theorem sumL_append (xs ys : List (List Int)) : sumL (xs ++ ys) = sumL xs + sumL ys := by
  induction xs with
  | nil => simp [sumL]
  | cons l ls ih => simp only [List.cons_append, sumL, ih]; omega
theorem mkSS_append (xs ys : List (List Int)) (k : Nat) : mkSS (xs ++ ys) k = mkSS xs k ++ mkSS ys (k + sumL xs) := by
  induction xs generalizing k with
  | nil => simp [mkSS, sumL]
  | cons l ls ih => simp only [List.cons_append, mkSS, sumL, ih, Nat.add_assoc]
/-- markIntS over a row of one's own. -/
theorem markI (v : Value) (l : List Int) (k : Nat) (hk : k + l.length ≤ 4611686018427387904) (w : World) (h : OwI 0 w v l) :
    Calls Try.prog 24 #[v, .int .i64 k] w fun e w' => e = .returned (.int .i64 (k + l.length : Nat)) ∧ OwI 0 w' v (upFrom k l.length) ∧ Stirs (own v) w w' := by
  obtain ⟨n, hn⟩ := (markIntS_ev l k (by omega) (by omega)).rounds
  have hB : Below ({ w with heap := #[] } : World).heap.size ({ w with heap := #[] } : World) w := ⟨rfl, rfl, rfl, Nat.zero_le _, fun k hk => absurd hk (Nat.not_lt_zero _)⟩
  refine (laws_markIntS.calls n (Fp v) v l k _ _ { w with heap := #[] } w hB h hn).mono ?_
  rintro e w' ⟨rfl, ho, hb, hk⟩
  refine ⟨by rw [Int.natCast_add], OwI.of ho, ⟨hb.os, hb.tape, hb.output, hk.1, fun j hj hs => hk.2 j hj (fun e => hs (own_iff.2 e))⟩⟩
set_option maxHeartbeats 1000000 in
set_option maxRecDepth 100000 in
theorem markSS (ls : List (List Int)) (v : Value) (S : List Nat) (k : Nat) (w : World) (hw : OwSS w v ls S) (hk : k + sumL ls ≤ 4611686018427387904) :
    Calls Try.prog 25 #[v, .int .i64 k] w fun e w' => e = .returned (.int .i64 (k + sumL ls : Nat)) ∧ OwSS w' v (mkSS ls k) S ∧ Stirs S w w' := by
  have HW := Lib.hid hw
  obtain ⟨A, c, rfl, hc, hC⟩ := hw.rd
  have hl := hC.2.1
  clear hw hC
  go_enter Try.func25, Try.ntmps25
  go_wp2_with fail
  go_loopw [1, 5] (fun q i wr => ∃ j : Nat, j ≤ ls.length ∧ i = .int .i64 j ∧ q = .int .i64 (k + sumL (ls.take j) : Nat) ∧ Aside0 (OwSS wr (.slice A ls.length c) (mkSS (ls.take j) k ++ ls.drop j) S) ∧ Aside0 (Stirs S w wr)) (fun _ i _ => ls.length - (intOf i).toNat)
  case atStart => exact ⟨0, Nat.zero_le _, rfl, by simp [sumL], ⟨by simpa [mkSS] using HW.out⟩, ⟨Stirs.refl _ _⟩⟩
  case round =>
    obtain ⟨j, hj, rfl, rfl, hO, hF⟩ := hrel
    by_cases hlt2 : j < ls.length
    · have ho := hO.out
      have hd : ls.drop j = ls[j] :: ls.drop (j + 1) := (List.getElem_cons_drop hlt2).symm
      rw [hd] at ho
      have hm : (mkSS (ls.take j) k).length = j := by rw [mkSS_len, List.length_take]; omega
      have hdl : j + ((ls.drop (j + 1)).length + 1) = ls.length := by rw [List.length_drop]; omega
      have hstep : mkSS (ls.take (j + 1)) k = mkSS (ls.take j) k ++ [upFrom ((k + sumL (ls.take j) : Nat) : Int) ls[j].length] := by
        rw [List.take_succ_eq_append_getElem hlt2, mkSS_append]
        simp [mkSS]
      have hsum : sumL (ls.take (j + 1)) = sumL (ls.take j) + ls[j].length := by
        rw [List.take_succ_eq_append_getElem hlt2, sumL_append]
        simp [sumL]
      have hle : sumL (ls.take j) + ls[j].length + sumL (ls.drop (j + 1)) = sumL ls := by
        have e : sumL (ls.take j ++ ls[j] :: ls.drop (j + 1)) = sumL ls := by rw [List.getElem_cons_drop, List.take_append_drop]
        rw [sumL_append] at e
        simp only [sumL] at e
        omega
      generalize ls[j] = l at *
      obtain ⟨g, cap, u, hv, hcap, hcell, hu, huS, hback⟩ := OwSS.at ho
      rw [hm] at hv hcap hcell
      rw [hdl] at hv hcap
      injection hv with eA _ ec
      subst eA
      subst ec
      generalize hq : k + sumL (ls.take j) = q at *
      have hb1 : q + l.length ≤ 4611686018427387904 := by omega
      have HBACK := Lib.hid hback
      have HU := Lib.hid hu
      have HSTEP := Lib.hid hstep
      have HSUM := Lib.hid hsum
      clear hback hstep hd ho hu hsum hle
      go_wp2_with fail
      refine (markI u l q hb1 _ HU.out).mono ?_
      rintro e W1 ⟨rfl, hu1, t1⟩
      have HF := Lib.hid (HBACK.out W1 _ hu1 (fun k hk hn => t1.block k (hO.out.lt k hk) hn))
      have HT := Lib.hid (hF.out.trans (t1.sub huS))
      clear hu1 t1 hcell
      go_wp2_with fail
      go_roundw
      case rel =>
        refine ⟨j + 1, by omega, by go_num, ?_, ⟨?_⟩, ⟨HT.out⟩⟩
        · rw [HSUM.out, ← hq]; congr 1; omega
        · rw [HSTEP.out, List.append_assoc]
          exact HF.out
      case measure => simp [intOf]; omega
    · obtain rfl : j = ls.length := by omega
      have ho := hO.out
      rw [List.take_length, List.drop_length, List.append_nil] at ho
      rw [List.take_length]
      have HO := Lib.hid ho
      clear ho
      go_wp2_with fail
      go_ret
      exact ⟨rfl, HO.out, hF.out⟩
end Go.Proofs.Ytfnkobcmhbdcoaa.Rows2
