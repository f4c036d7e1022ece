/- The row of the law FnExactTermOfWord: every input that reads as data is answered true. -/
import Derived.Test.YtfnkobcmhbdcoabDoorR1
import Derived.Test.YtfnkobcmhbdcoabDoorShelf
import Derived.RegionTactic
import Derived.BigRegion
import Derived.Test.YtfnkobcmhbdcoabDoorRows
import Derived.WalkKit
import Derived.ProofKit
import Derived.OpenShut
import Derived.ShutString
import Derived.ChangeOld
import Derived.Below
import Derived.SizedLaws
import Derived.Test.YtfnkobcmhbdcoabDoorTie
import Derived.Test.YtfnkobcmhbdcoabDoorCards
import Derived.LaidMore
import Derived.Lay
import Derived.SevenTiedAt
import Derived.Stop.Joined
section
/- Words of a, b and c: isWord; ListOfWord: the program's, whose tree is its own. -/




namespace Go.Proofs.YtfnkobcmhbdcoabDoor.Word
open Go.RowKit Go.Proofs.YtfnkobcmhbdcoabDoorW.PrintWords Go.Proofs.YtfnkobcmhbdcoabDoorW.PrintLast Go.Proofs.YtfnkobcmhbdcoabDoor.Base Go.Proofs.YtfnkobcmhbdcoabDoor.XTypes Go.Proofs.YtfnkobcmhbdcoabDoor.PureInts Go.Proofs.YtfnkobcmhbdcoabDoor.Typed Go.Proofs.YtfnkobcmhbdcoabDoor.Trees Go.Proofs.YtfnkobcmhbdcoabDoor.XTm Go.Proofs.YtfnkobcmhbdcoabDoor.EqT Go.Proofs.YtfnkobcmhbdcoabDoor.MarkT Go.Proofs.YtfnkobcmhbdcoabDoor.HeldT Go.Proofs.YtfnkobcmhbdcoabDoor.NumT Go.Proofs.YtfnkobcmhbdcoabDoor.LawNum
set_option linter.unusedVariables false
set_option linter.unusedSimpArgs false
set_option linter.unnecessarySimpa false

/-! ### words -/
def abc : List UInt8 := [97, 98, 99]
def wordB (s : ByteArray) : Bool := s.data.toList.all (abc.contains ·)
theorem drop_head {α : Type} {p : α → Bool} : ∀ (l : List α) (b : α) (bs : List α), l.dropWhile p = b :: bs → p b = false := by
  intro l
  induction l with
  | nil => intro b bs h; simp at h
  | cons a l ih =>
    intro b bs h
    rw [List.dropWhile_cons] at h
    split at h
    · exact ih b bs h
    · rename_i hp
      injection h with h1 _
      subst h1
      simpa using hp
theorem drop_nil {α : Type} {p : α → Bool} (l : List α) : (l.dropWhile p).isEmpty = l.all p := by
  induction l with
  | nil => rfl
  | cons a l ih =>
    rw [List.dropWhile_cons]
    cases h : p a with
    | true => simp [h, ih]
    | false => simp [h]
theorem trim_empty (l cs : List UInt8) : (Lib.trimS l cs).isEmpty = l.all (cs.contains ·) := by
  unfold Lib.trimS Lib.trimLeftS Lib.trimRightS
  rw [drop_nil, List.all_reverse]
  cases h : l.reverse.dropWhile (cs.contains ·) with
  | nil =>
    have := drop_nil (p := (cs.contains ·)) l.reverse
    rw [h, List.all_reverse] at this
    rw [← this]
    rfl
  | cons b bs =>
    have hb := drop_head _ _ _ h
    have hl : (l.all (cs.contains ·)) = false := by
      have := drop_nil (p := (cs.contains ·)) l.reverse
      rw [h, List.all_reverse] at this
      rw [← this]
      rfl
    rw [hl]
    simp only [List.all_cons, hb, Bool.false_and]
set_option maxHeartbeats 1000000 in
set_option maxRecDepth 100000 in
theorem isWord_any (s : ByteArray) (w : World) (hs : s.size ≤ 1048576) :
    Calls Tryd.prog 13 #[.string s] w fun e w' => e = .returned (.bool (wordB s)) ∧ Below w.heap.size w w' := by
  have hT := Any.strings_Trim_laid Tryd.lays160 (by kernel_rfl) s ⟨#[97, 98, 99]⟩ w (by omega) (by decide) (ascii_of_all (by decide))
  have he : (Lib.trimS s.data.toList abc).isEmpty = wordB s := trim_empty _ _
  change Calls Tryd.prog 19 #[.string s, .string ⟨#[97, 98, 99]⟩] w (fun e w' => e = .returned (.string ⟨(Lib.trimS s.data.toList abc).toArray⟩) ∧ Below w.heap.size w w') at hT
  generalize Lib.trimS s.data.toList abc = t at hT he
  cases hw : wordB s with
  | true =>
    rw [hw] at he
    have ht : t = [] := by simpa using he
    subst ht
    have HT := Lib.hid hT
    clear hT he hw
    go_enter Tryd.func13, Tryd.ntmps13
    go_wp2_with fail
    refine HT.out.mono ?_
    rintro e w' ⟨rfl, hb⟩
    have HB := Lib.hid hb
    clear hb
    go_wp2_with fail
    go_ret
    exact ⟨rfl, HB.out⟩
  | false =>
    rw [hw] at he
    have HT := Lib.hid hT
    have hne : (⟨t.toArray⟩ : ByteArray).toList.isEmpty = false := by rw [Lib.toList_data]; exact he
    have HNE := Lib.hid hne
    generalize (⟨t.toArray⟩ : ByteArray) = u at *
    clear hT he hw hne
    have hne := HNE.out
    have hne2 : (!u.toList.isEmpty) = true := by rw [hne]; rfl
    go_enter Tryd.func13, Tryd.ntmps13
    go_wp2_with fail
    refine HT.out.mono ?_
    rintro e w' ⟨rfl, hb⟩
    have HB := Lib.hid hb
    clear hb
    go_wp2_with fail
    go_ret
    exact ⟨rfl, HB.out⟩

/-! ### the list of a word -/
def lwO (l : List UInt8) : Int := match l with | [] => 3 | _ => 4
def leafT (o : Int) : T := ⟨o, ⟨#[]⟩, 0, []⟩
def lwA : List UInt8 → List T
  | [] => []
  | b :: bs => [leafT ((b.toNat : Int) - 97), ⟨lwO bs, ⟨#[]⟩, 0, lwA bs⟩]
theorem nod_lw (l : List UInt8) : nodL (lwA l) = 2 * l.length := by
  induction l with
  | nil => simp [lwA, nodL]
  | cons b bs ih => simp [lwA, leafT, nodL, nod, ih]; omega
/-- The row of a constant and a term. -/
theorem OwL.two {w : World} {o op st : Int} {nm : ByteArray} {va : Value} {ts : List T} {S : List Nat} {g : Nat} (hg : w.heap[g]? = some (.cells #[.int .i64 o, .string ⟨#[]⟩, .int .i64 0, .slice none 0 0, .int .i64 op, .string nm, .int .i64 st, va] 24 (0, 0))) (hw : OwL w va ts S) (hn : g ∉ S) : OwL w (.slice (some ⟨g, 0, none⟩) 2 2) [leafT o, ⟨op, nm, st, ts⟩] (g :: S) :=
  .inr ⟨g, 2, _, S, rfl, Nat.le_refl _, by decide, hg, rfl, OwC_cons.2 ⟨[.int .i64 o, .string ⟨#[]⟩, .int .i64 0, .slice none 0 0], [.int .i64 op, .string nm, .int .i64 st, va], [], S, rfl, by simp, OwT_iff.2 ⟨_, rfl, OwL.nil w⟩, OwC_cons.2 ⟨_, [], S, [], rfl, by simp, OwT_iff.2 ⟨va, rfl, hw⟩, OwC_nil.2 ⟨rfl, rfl⟩, fun k _ hk => by cases hk⟩, fun k hk => by cases hk⟩, rfl, hn⟩
theorem letter_at {s : ByteArray} (h : wordB s = true) {j : Nat} (hj : j < s.size) : (97 : Int) ≤ ((s[j]'hj).toNat : Int) ∧ ((s[j]'hj).toNat : Int) ≤ 99 := by
  have h1 := List.all_eq_true.1 h (s[j]'hj) (by show s.data[j]'hj ∈ s.data.toList; simp)
  generalize s[j]'hj = b at h1 ⊢
  simp [abc] at h1
  rcases h1 with rfl | rfl | rfl <;> decide
theorem drop_at (s : ByteArray) {j : Nat} (hj : j < s.size) : s.data.toList.drop j = (s[j]'hj) :: s.data.toList.drop (j + 1) := by
  have h : j < s.data.toList.length := by simpa using hj
  have e : s.data.toList[j] = s[j]'hj := by show _ = s.data[j]'hj; simp
  rw [← e]
  exact (List.getElem_cons_drop h).symm
def lwB (s : ByteArray) : Bool := decide (s.size ≤ 12) && wordB s
set_option maxHeartbeats 2000000 in
set_option maxRecDepth 100000 in
theorem impl_list (s : ByteArray) (h12 : s.size ≤ 12) (hwd : wordB s = true) (w : World) :
    Calls Tryd.prog 6 #[.string s] w (Gives (lwO s.data.toList) (lwA s.data.toList) true w) := by
  have HW := Lib.hid hwd
  clear hwd
  go_enter Tryd.func6, Tryd.ntmps6
  obtain ⟨V, hV⟩ : ∃ V, V = w.alloc (.cells #[.int .i64 0, .string ⟨#[]⟩, .int .i64 0, .slice none 0 0] 24) := ⟨_, rfl⟩
  obtain ⟨vb, bV⟩ := boxed hV
  have hVs : V.heap.size = w.heap.size + 1 := by rw [hV]; simp
  go_wp2_with fail
  rw [← hV]
  clear hV
  refine (isWord_any s V (by omega)).mono ?_
  rintro e W1 ⟨rfl, b1⟩
  rw [HW.out]
  have gr := blk_below vb b1
  have bw := bV.trans (b1.mono (by omega))
  have hr1 : w.heap.size < W1.heap.size := heap_lt gr
  have GR := Lib.hid gr
  have BW := Lib.hid bw
  clear gr bw vb bV b1 hVs
  go_wp2_with fail
  refine name_wp ?_
  intro W2 hW
  have bt : ∃ bt, bt = W1.heap.size := ⟨_, rfl⟩
  obtain ⟨bt, hbt⟩ := bt
  have ht : W2.heap[bt]? = some (.cells #[.int .i64 3, .string ⟨#[]⟩, .int .i64 0, .slice none 0 0] 24 (0, 0)) := by rw [hW, hbt]; exact blk_new W1 _
  have b2 : Below W1.heap.size W1 W2 := by rw [hW]; exact below_alloc (Below.refl _ _) _
  have hr := blk_below GR.out b2
  have hb := below_to BW.out b2 BW.out.size
  have hne : w.heap.size < bt := by omega
  rw [← hbt]
  have hsl : s.data.toList.length = s.size := by simp
  clear hW b2 hbt hr1 GR BW
  have HSL := Lib.hid hsl
  clear hsl
  go_loopw [5] (fun i wr => ∃ j : Nat, j ≤ s.size ∧ i = .int .i64 ((j : Int) - 1) ∧ ∃ va S, Aside0 (wr.heap[w.heap.size]? = some (.cells #[.int .i64 0, .string ⟨#[]⟩, .int .i64 0, .slice none 0 0] 24 (0, 0))) ∧ Aside0 (wr.heap[bt]? = some (.cells #[.int .i64 (lwO (s.data.toList.drop j)), .string ⟨#[]⟩, .int .i64 0, va] 24 (0, 0))) ∧ Aside0 (OwL wr va (lwA (s.data.toList.drop j)) S ∧ ∀ k ∈ S, bt < k) ∧ Aside0 (Below w.heap.size w wr)) (fun i _ => (intOf i + 1).toNat)
  case atStart => exact ⟨s.size, Nat.le_refl _, rfl, .slice none 0 0, [], ⟨hr⟩, ⟨by rw [List.drop_of_length_le (by rw [HSL.out]; exact Nat.le_refl _)]; exact ht⟩, ⟨by rw [List.drop_of_length_le (by rw [HSL.out]; exact Nat.le_refl _)]; exact OwL.nil _, fun k hk => by cases hk⟩, ⟨hb⟩⟩
  case round =>
    obtain ⟨j, hj, rfl, va, S, hr, ht, hO, hB⟩ := hrel
    obtain ⟨A, c, rfl, _, _⟩ := hO.out.1.rd
    cases j with
    | zero =>
      rw [List.drop_zero] at ht hO
      generalize hl : (lwA s.data.toList).length = l at *
      obtain ⟨c0, f0, c1, f1, c2, f2, c3, f3⟩ := cells4 (i := 0) ht.out (by simp) (a := .int .i64 (lwO s.data.toList)) (b := .string ⟨#[]⟩) (c := .int .i64 0) (d := .slice A l c) rfl rfl rfl rfl
      obtain ⟨c0', f0', c1', f1', c2', f2', c3', f3'⟩ := cells4 (i := 0) hr.out (by simp) (a := .int .i64 0) (b := .string ⟨#[]⟩) (c := .int .i64 0) (d := .slice none 0 0) rfl rfl rfl rfl
      go_wp2_with fail
      refine name_post ?_
      intro W3 hW
      have g0 : W3.heap[w.heap.size]? = some (.cells #[.int .i64 (lwO s.data.toList), .string ⟨#[]⟩, .int .i64 0, .slice A l c] 24 (0, 0)) := by
        rw [hW]
        exact set_at (set_at (set_at (set_at hr.out _) _) _) _
      have ob : Stirs [w.heap.size] wr W3 := by
        rw [hW]
        exact (((Stirs.set _ _ List.mem_cons_self).trans (Stirs.set _ _ List.mem_cons_self)).trans (Stirs.set _ _ List.mem_cons_self)).trans (Stirs.set _ _ List.mem_cons_self)
      clear hW
      refine bodyPost_ret (results_ct rfl _ _ w.heap.size 24 #[.int .i64 (lwO s.data.toList), .string ⟨#[]⟩, .int .i64 0, .slice A l c] (0, 0) _ rfl g0 Tryd.underlying24 rfl (by kernel_rfl)) rfl ?_
      have hsz := heap_lt hr.out
      exact ⟨_, S, rfl, hO.out.1.frame (fun k hk => ob.block k (hO.out.1.lt k hk) (by have := hO.out.2 k hk; simp; omega)), fun k hk => by have := hO.out.2 k hk; omega, hB.out.trans (ob.below (n := w.heap.size) (by omega) (fun k hk => by simp at hk; omega))⟩
    | succ j =>
      have hjs : j < s.size := by omega
      have hdrop := drop_at s hjs
      have hlet := letter_at HW.out hjs
      have hij : ((j + 1 : Nat) : Int) - 1 = (j : Int) := by omega
      rw [hij]
      generalize hl : (lwA (s.data.toList.drop (j + 1))).length = l at *
      generalize ho : lwO (s.data.toList.drop (j + 1)) = o at *
      have HDR := Lib.hid (And.intro hdrop ho)
      obtain ⟨c0, f0, c1, f1, c2, f2, c3, f3⟩ := cells4 (i := 0) ht.out (by simp) (a := .int .i64 o) (b := .string ⟨#[]⟩) (c := .int .i64 0) (d := .slice A l c) rfl rfl rfl rfl
      have hq : ∀ o' : Obj, ((wr.alloc o').cell? ⟨bt, 0, none⟩ = some (.int .i64 o) ∧ (wr.alloc o').frozen? ⟨bt, 0, none⟩ = false ∧ (wr.alloc o').cell? ⟨bt, 1, none⟩ = some (.string ⟨#[]⟩) ∧ (wr.alloc o').frozen? ⟨bt, 1, none⟩ = false ∧ (wr.alloc o').cell? ⟨bt, 2, none⟩ = some (.int .i64 0) ∧ (wr.alloc o').frozen? ⟨bt, 2, none⟩ = false ∧ (wr.alloc o').cell? ⟨bt, 3, none⟩ = some (.slice A l c) ∧ (wr.alloc o').frozen? ⟨bt, 3, none⟩ = false) := fun o' =>
        cells4 (i := 0) ((Go.Deep.blk_alloc_lt _ _ _ (heap_lt ht.out)).trans ht.out) (by simp) rfl rfl rfl rfl
      obtain ⟨d0, d1, d2, d3, d4, d5, d6, d7⟩ := forall8 hq
      clear hq hdrop ho hij
      have hsz12 : (s.size : Int) ≤ 12 := by omega
      go_upto_region 6 with (fail)
      go_region
      obtain ⟨X, hX⟩ : ∃ X : World, X = (((((wr.alloc (.cells #[.int .i64 (((s[j]'hjs).toNat : Int) - 97), .string ⟨#[]⟩, .int .i64 0, .slice none 0 0, .int .i64 o, .string ⟨#[]⟩, .int .i64 0, .slice A l c] 24)).setCell ⟨bt, 0, none⟩ (.int .i64 4)).setCell ⟨bt, 1, none⟩ (.string ⟨#[]⟩)).setCell ⟨bt, 2, none⟩ (.int .i64 0)).setCell ⟨bt, 3, none⟩ (.slice (some ⟨wr.heap.size, 0, none⟩) 2 2)) := ⟨_, rfl⟩
      rw [← hX]
      have h1 := (Go.Deep.blk_alloc_lt wr (.cells #[.int .i64 (((s[j]'hjs).toNat : Int) - 97), .string ⟨#[]⟩, .int .i64 0, .slice none 0 0, .int .i64 o, .string ⟨#[]⟩, .int .i64 0, .slice A l c] 24) _ (heap_lt ht.out)).trans ht.out
      have g1 : X.heap[bt]? = some (.cells #[.int .i64 4, .string ⟨#[]⟩, .int .i64 0, .slice (some ⟨wr.heap.size, 0, none⟩) 2 2] 24 (0, 0)) := by
        rw [hX]
        exact set_at (set_at (set_at (set_at h1 _) _) _) _
      have ob : Stirs [bt] (wr.alloc (.cells #[.int .i64 (((s[j]'hjs).toNat : Int) - 97), .string ⟨#[]⟩, .int .i64 0, .slice none 0 0, .int .i64 o, .string ⟨#[]⟩, .int .i64 0, .slice A l c] 24)) X := by
        rw [hX]
        exact (((Stirs.set _ _ List.mem_cons_self).trans (Stirs.set _ _ List.mem_cons_self)).trans (Stirs.set _ _ List.mem_cons_self)).trans (Stirs.set _ _ List.mem_cons_self)
      have oc : Stirs [bt] wr X := (Stirs.of_below (below_alloc (Below.refl _ _) _)).trans ob
      clear hX h1
      have hbs := heap_lt ht.out
      have g0 : X.heap[w.heap.size]? = some (.cells #[.int .i64 0, .string ⟨#[]⟩, .int .i64 0, .slice none 0 0] 24 (0, 0)) := (oc.block _ (heap_lt hr.out) (by simp; omega)).trans hr.out
      have gn : X.heap[wr.heap.size]? = some (.cells #[.int .i64 (((s[j]'hjs).toNat : Int) - 97), .string ⟨#[]⟩, .int .i64 0, .slice none 0 0, .int .i64 o, .string ⟨#[]⟩, .int .i64 0, .slice A l c] 24 (0, 0)) := (ob.block _ (by simp) (by simp; omega)).trans (blk_new _ _)
      have hS : OwL X (.slice A l c) (lwA (s.data.toList.drop (j + 1))) S := hO.out.1.frame (fun k hk => oc.block k (hO.out.1.lt k hk) (by have := hO.out.2 k hk; simp; omega))
      have hnew : OwL X (.slice (some ⟨wr.heap.size, 0, none⟩) 2 2) (lwA (s.data.toList.drop j)) (wr.heap.size :: S) := by
        rw [HDR.out.1]
        have h := OwL.two gn hS (fun hk => by have := hO.out.1.lt _ hk; omega)
        rw [← HDR.out.2] at h
        exact h
      have hop : lwO (s.data.toList.drop j) = 4 := by rw [HDR.out.1]; rfl
      have hbel : Below w.heap.size w X := hB.out.trans (oc.below (n := w.heap.size) (by omega) (fun k hk => by simp at hk; omega))
      have HN := Lib.hid (And.intro g0 (And.intro g1 (And.intro hnew (And.intro hop (below_drew hbel)))))
      clear g0 g1 ob oc gn hS hnew hop hbel c0 f0 c1 f1 c2 f2 c3 f3 d0 d1 d2 d3 d4 d5 d6 d7
      go_wp2_with fail
      go_roundw
      case rel =>
        exact ⟨j, by omega, rfl, .slice (some ⟨wr.heap.size, 0, none⟩) 2 2, wr.heap.size :: S, ⟨HN.out.1⟩, ⟨by rw [HN.out.2.2.2.1]; exact HN.out.2.1⟩, ⟨HN.out.2.2.1.frame (fun k _ => rfl), fun k hk => by
          rcases List.mem_cons.1 hk with rfl | hk
          · exact hbs
          · exact hO.out.2 k hk⟩, ⟨HN.out.2.2.2.2⟩⟩
      case measure => simp [intOf]
end Go.Proofs.YtfnkobcmhbdcoabDoor.Word
end
section
/- FnExactListOfWord: the reference, the program's bad words, and the walk. -/

namespace Go.Proofs.YtfnkobcmhbdcoabDoor.LawLst
open Go.RowKit Go.Proofs.YtfnkobcmhbdcoabDoorW.PrintWords Go.Proofs.YtfnkobcmhbdcoabDoorW.PrintLast Go.Proofs.YtfnkobcmhbdcoabDoor.Base Go.Proofs.YtfnkobcmhbdcoabDoor.XTypes Go.Proofs.YtfnkobcmhbdcoabDoor.PureInts Go.Proofs.YtfnkobcmhbdcoabDoor.Typed Go.Proofs.YtfnkobcmhbdcoabDoor.Trees Go.Proofs.YtfnkobcmhbdcoabDoor.XTm Go.Proofs.YtfnkobcmhbdcoabDoor.EqT Go.Proofs.YtfnkobcmhbdcoabDoor.MarkT Go.Proofs.YtfnkobcmhbdcoabDoor.HeldT Go.Proofs.YtfnkobcmhbdcoabDoor.NumT Go.Proofs.YtfnkobcmhbdcoabDoor.LawNum Go.Proofs.YtfnkobcmhbdcoabDoor.Word
set_option linter.unusedVariables false
set_option linter.unusedSimpArgs false
set_option linter.unnecessarySimpa false

set_option maxHeartbeats 1000000 in
set_option maxRecDepth 100000 in
theorem impl_long (s : ByteArray) (h12 : 12 < s.size) (w : World) : Calls Tryd.prog 6 #[.string s] w (Gives 0 [] false w) := by
  have h0 : (12 : Int) < (s.size : Int) := by omega
  go_enter Tryd.func6, Tryd.ntmps6
  go_wp2_with fail
  refine name_post ?_
  intro W1 hW
  obtain ⟨g0, b1⟩ := boxed hW
  clear hW
  refine bodyPost_ret (results_ct rfl _ _ w.heap.size 24 #[.int .i64 0, .string ⟨#[]⟩, .int .i64 0, .slice none 0 0] (0, 0) _ rfl g0 Tryd.underlying24 rfl (by kernel_rfl)) rfl ?_
  exact ⟨_, [], rfl, OwL.nil _, (fun k hk => by cases hk), b1⟩
set_option maxHeartbeats 1000000 in
set_option maxRecDepth 100000 in
theorem impl_badw (s : ByteArray) (h12 : s.size ≤ 12) (hwd : wordB s = false) (w : World) : Calls Tryd.prog 6 #[.string s] w (Gives 0 [] false w) := by
  have h0 : ¬ (12 : Int) < (s.size : Int) := by omega
  have HW := Lib.hid hwd
  clear hwd
  go_enter Tryd.func6, Tryd.ntmps6
  obtain ⟨V, hV⟩ : ∃ V, V = w.alloc (.cells #[.int .i64 0, .string ⟨#[]⟩, .int .i64 0, .slice none 0 0] 24) := ⟨_, rfl⟩
  obtain ⟨vb, bV⟩ := boxed hV
  have hVs : V.heap.size = w.heap.size + 1 := by rw [hV]; simp
  go_wp2_with fail
  rw [← hV]
  clear hV
  refine (isWord_any s V (by omega)).mono ?_
  rintro e W1 ⟨rfl, b1⟩
  rw [HW.out]
  have gr := blk_below vb b1
  have bw := bV.trans (b1.mono (by omega))
  clear vb bV b1 hVs
  obtain ⟨c0, f0, c1, f1, c2, f2, c3, f3⟩ := cells4 (i := 0) gr (by simp) (a := .int .i64 0) (b := .string ⟨#[]⟩) (c := .int .i64 0) (d := .slice none 0 0) rfl rfl rfl rfl
  have GR := Lib.hid gr
  have BW := Lib.hid bw
  clear gr bw
  go_wp2_with fail
  refine name_post ?_
  intro W2 hW
  have g0 : W2.heap[w.heap.size]? = some (.cells #[.int .i64 0, .string ⟨#[]⟩, .int .i64 0, .slice none 0 0] 24 (0, 0)) := by
    rw [hW]
    exact set_at (set_at (set_at (set_at GR.out _) _) _) _
  have ob : Stirs [w.heap.size] W1 W2 := by
    rw [hW]
    exact (((Stirs.set _ _ List.mem_cons_self).trans (Stirs.set _ _ List.mem_cons_self)).trans (Stirs.set _ _ List.mem_cons_self)).trans (Stirs.set _ _ List.mem_cons_self)
  clear hW
  refine bodyPost_ret (results_ct rfl _ _ w.heap.size 24 #[.int .i64 0, .string ⟨#[]⟩, .int .i64 0, .slice none 0 0] (0, 0) _ rfl g0 Tryd.underlying24 rfl (by kernel_rfl)) rfl ?_
  have hsz := heap_lt GR.out
  exact ⟨_, [], rfl, OwL.nil _, (fun k hk => by cases hk), BW.out.trans (ob.below (n := w.heap.size) (by omega) (fun k hk => by simp at hk; omega))⟩

/-! ### the reference -/
theorem bt_at (s : ByteArray) {j : Nat} (hj : j < s.size) : bt s (j : Int) = ((s[j]'hj).toNat : Int) := by
  simp [bt, hj]
theorem letter_no (b : UInt8) (f : Int) (h : abc.contains b = false) : spec_l36Letter.f (b.toNat : Int) f = some (-1) := by
  unfold spec_l36Letter.f
  by_cases h1 : (b.toNat : Int) < 97
  · rw [if_pos h1]
  · rw [if_neg h1]
    by_cases h2 : (b.toNat : Int) > 99
    · rw [if_pos h2]
    · exfalso
      have h3 : b.toNat = 97 ∨ b.toNat = 98 ∨ b.toNat = 99 := by omega
      have h4 : ∀ n : Nat, n < 256 → b.toNat = n → b = UInt8.ofNat n := fun n hn e => by rw [← e]; simp
      rcases h3 with e | e | e
      · rw [h4 97 (by decide) e] at h; exact absurd h (by decide)
      · rw [h4 98 (by decide) e] at h; exact absurd h (by decide)
      · rw [h4 99 (by decide) e] at h; exact absurd h (by decide)
theorem letter_yes (b : UInt8) (f : Int) (hf : 0 ≤ f ∧ f ≤ 10) (h : abc.contains b = true) : spec_l36Letter.f (b.toNat : Int) f = some (f + ((b.toNat : Int) - 97)) := by
  have hb : b = 97 ∨ b = 98 ∨ b = 99 := by simpa [abc] using h
  unfold spec_l36Letter.f
  rcases hb with rfl | rfl | rfl
  · rw [if_neg (by decide), if_neg (by decide)]
    have : wrap64 (f + (((97 : UInt8).toNat : Int) - 97) % 256) = f + (((97 : UInt8).toNat : Int) - 97) := by
      show wrap64 (f + 0) = f + 0
      exact wrap_id (by omega) (by omega)
    rw [this]
  · rw [if_neg (by decide), if_neg (by decide)]
    have : wrap64 (f + (((98 : UInt8).toNat : Int) - 97) % 256) = f + (((98 : UInt8).toNat : Int) - 97) := by
      show wrap64 (f + 1) = f + 1
      exact wrap_id (by omega) (by omega)
    rw [this]
  · rw [if_neg (by decide), if_neg (by decide)]
    have : wrap64 (f + (((99 : UInt8).toNat : Int) - 97) % 256) = f + (((99 : UInt8).toNat : Int) - 97) := by
      show wrap64 (f + 2) = f + 2
      exact wrap_id (by omega) (by omega)
    rw [this]
theorem list_loop (s : ByteArray) (hs : s.size ≤ 12) (hw : wordB s = true) : ∀ (j : Nat), j ≤ s.size → Ev (fun k => spec_ListOfWord.l0 k s ((j : Int) - 1) (lwO (s.data.toList.drop j)) ⟨#[]⟩ 0 (lwA (s.data.toList.drop j))) (lwO s.data.toList, ⟨#[]⟩, 0, lwA s.data.toList, true) := by
  intro j
  induction j with
  | zero =>
    intro _
    refine Ev.step (fun k => by simp only [spec_ListOfWord.l0]; rfl) (Ev.neg (by omega) ?_)
    rw [List.drop_zero]
    exact Ev.now _
  | succ j ih =>
    intro hj
    have hjs : j < s.size := by omega
    have e : ((j + 1 : Nat) : Int) - 1 = (j : Int) := by omega
    have hc : abc.contains (s[j]'hjs) = true := List.all_eq_true.1 hw _ (by show s.data[j]'hjs ∈ s.data.toList; simp)
    rw [e]
    refine Ev.step (fun k => by simp only [spec_ListOfWord.l0]; rfl) (Ev.pos (by omega) (Ev.pos (by omega) (Ev.pos (by omega) ?_)))
    rw [bt_at s hjs, letter_yes _ 0 (by omega) hc]
    have hl := letter_at hw hjs
    simp only [Option.bind_some]
    refine Ev.neg (by omega) ?_
    rw [wrap_id (by omega) (by omega), Int.zero_add]
    have h := ih (by omega)
    rw [drop_at s hjs] at h
    exact h
theorem list_bad (s : ByteArray) (hs : s.size ≤ 12) (hw : wordB s = false) : ∀ (j : Nat) (o : Int) (xs : List T), j ≤ s.size → (s.data.toList.take j).all (abc.contains ·) = false → Ev (fun k => spec_ListOfWord.l0 k s ((j : Int) - 1) o ⟨#[]⟩ 0 xs) (0, ⟨#[]⟩, 0, [], false) := by
  intro j
  induction j with
  | zero => intro o xs _ h; simp at h
  | succ j ih =>
    intro o xs hj h
    have hjs : j < s.size := by omega
    have e : ((j + 1 : Nat) : Int) - 1 = (j : Int) := by omega
    rw [e]
    refine Ev.step (fun k => by simp only [spec_ListOfWord.l0]; rfl) (Ev.pos (by omega) (Ev.pos (by omega) (Ev.pos (by omega) ?_)))
    rw [bt_at s hjs]
    cases hc : abc.contains (s[j]'hjs) with
    | false =>
      rw [letter_no _ 0 hc]
      simp only [Option.bind_some]
      exact Ev.pos (by omega) (Ev.now _)
    | true =>
      rw [letter_yes _ 0 (by omega) hc]
      simp only [Option.bind_some]
      have hge : ¬ (0 + (((s[j]'hjs).toNat : Int) - 97) < 0) := by
        have hb : (s[j]'hjs) = 97 ∨ (s[j]'hjs) = 98 ∨ (s[j]'hjs) = 99 := by simpa [abc] using hc
        rcases hb with hb | hb | hb <;> rw [hb] <;> decide
      refine Ev.neg hge ?_
      rw [wrap_id (by omega) (by omega)]
      refine ih _ _ (by omega) ?_
      have ht : s.data.toList.take (j + 1) = s.data.toList.take j ++ [s[j]'hjs] := by
        have hl : j < s.data.toList.length := by simpa using hjs
        rw [List.take_succ_eq_append_getElem hl]
        congr 2
      rw [ht, List.all_append, List.all_cons, hc, List.all_nil, Bool.and_true, Bool.and_true] at h
      exact h
theorem Shows.of {s : ByteArray} {o : Int} {ts : List T} {b : Bool} (w : World) (h : Ev (fun k => spec_ListOfWord.f k s) (o, ⟨#[]⟩, 0, ts, b)) : Calls Tryd.prog 5 #[.string s] w (Shows o ts b w) := by
  obtain ⟨k, hk⟩ := h.rounds
  refine (spec_ListOfWord.calls k s _ _ _ _ _ w hk).mono ?_
  rintro e w' ⟨va, rfl, hN, hb⟩
  obtain ⟨A, c, rfl, hc, hC⟩ := Kd.N_reads hN
  exact ⟨_, rfl, ⟨A, c, rfl, hc, hC⟩, hb⟩
theorem spec_good (s : ByteArray) (h12 : s.size ≤ 12) (hw : wordB s = true) (w : World) : Calls Tryd.prog 5 #[.string s] w (Shows (lwO s.data.toList) (lwA s.data.toList) true w) := by
  refine Shows.of w ?_
  unfold spec_ListOfWord.f
  refine Ev.neg (by omega) ?_
  rw [wrap_id (by omega) (by omega)]
  have h := list_loop s h12 hw s.size (Nat.le_refl _)
  rw [List.drop_of_length_le (by simp)] at h
  exact h
theorem spec_long (s : ByteArray) (h12 : 12 < s.size) (w : World) : Calls Tryd.prog 5 #[.string s] w (Shows 0 [] false w) := by
  refine Shows.of w ?_
  unfold spec_ListOfWord.f
  exact Ev.pos (by omega) (Ev.now _)
theorem spec_bad (s : ByteArray) (h12 : s.size ≤ 12) (hw : wordB s = false) (w : World) : Calls Tryd.prog 5 #[.string s] w (Shows 0 [] false w) := by
  refine Shows.of w ?_
  unfold spec_ListOfWord.f
  refine Ev.neg (by omega) ?_
  rw [wrap_id (by omega) (by omega)]
  refine list_bad s h12 hw s.size _ _ (Nat.le_refl _) ?_
  rw [List.take_of_length_le (by simp)]
  exact hw

set_option maxHeartbeats 2000000 in
set_option maxRecDepth 100000 in
theorem walk_of (x : ByteArray) (o : Int) (ts : List T) (b : Bool) (hn : 3 * nodL ts ≤ 1000) (hI : ∀ w, Calls Tryd.prog 6 #[.string x] w (Gives o ts b w)) (hS : ∀ w, Calls Tryd.prog 5 #[.string x] w (Shows o ts b w)) (w : World) :
    Calls Tryd.prog 3 #[.string x] w fun e w' => e = .returned (.bool true) ∧ Below w.heap.size w w' := by
  have eb : (b != b) = false := by cases b <;> rfl
  obtain ⟨m, hm⟩ : ∃ m, m = 1 + 3 * nodL ts := ⟨_, rfl⟩
  have hm0 : (0 : Int) ≤ m := by omega
  have HM := Lib.hid hm
  have HN := Lib.hid hn
  have HI := Lib.hid hI
  have HS := Lib.hid hS
  clear hI hS hm hn
  go_enter Tryd.func3, Tryd.ntmps3
  by_cases hbig : 1048576 < x.size
  · have hb : (1048576 : Int) < (x.size : Int) := by omega
    go_wp2_with fail
    go_ret
    exact ⟨rfl, Below.refl _ _⟩
  have hb : ¬ (1048576 : Int) < (x.size : Int) := by omega
  go_wp2_with fail
  refine (HS.out _).mono ?_
  rintro e W1 ⟨va, rfl, r1, b1⟩
  obtain ⟨A, c, rfl, _, _⟩ := id r1
  generalize hl : ts.length = l at *
  have HL := Lib.hid hl
  have B1 := Lib.hid b1
  have R1 := Lib.hid r1
  clear b1 r1 hl
  go_upto_region 4 with (fail)
  refine name_wp ?_
  intro W2 hW
  obtain ⟨w0, b2⟩ := boxed hW
  have B2 := Lib.hid (below_to B1.out b2 B1.out.size)
  have R2 := Lib.hid (R1.out.below b2)
  have HW2 := Lib.hid w0
  generalize hbw : W1.heap.size = bw at *
  clear hW b2 w0 R1 B1
  go_wp2_with fail
  refine (HI.out _).mono ?_
  rintro e W3 ⟨vg, S, rfl, og, sg, b3⟩
  obtain ⟨Ag, cg, rfl, _, _⟩ := og.rd
  rw [HL.out] at og
  rw [HL.out]
  have OG := Lib.hid og
  have SG := Lib.hid sg
  have B3 := Lib.hid b3
  clear og sg b3
  go_upto_region 5 with (fail)
  refine name_wp ?_
  intro W4 hW
  have T4 := Lib.hid (Stand.start B2.out B3.out OG.out SG.out hW)
  generalize hbg : W3.heap.size = bg at *
  clear hW OG SG B3 B2
  have RW := Lib.hid (R2.out.below T4.out.bb)
  obtain ⟨c0, f0, c1, f1, c2, f2, c3, f3⟩ := cells4 (i := 0) (blk_below HW2.out T4.out.bb) (by simp) rfl rfl rfl rfl
  obtain ⟨d0, e0, d1, e1, d2, e2, d3, e3⟩ := cells4 (i := 0) T4.out.box (by simp) rfl rfl rfl rfl
  go_wp2_with fail
  refine (eq_any o 0 ⟨#[]⟩ ts (v := .slice Ag l cg) (v' := .slice A l c) T4.out.ow.rd RW.out).mono ?_
  rintro e W5 ⟨rfl, b5⟩
  have T5 := Lib.hid (T4.out.below b5)
  clear b5 T4 RW c0 f0 c1 f1 c2 f2 c3 f3 d0 e0 d1 e1 d2 e2 d3 e3
  go_upto_region 8 with (fail)
  obtain ⟨d0, e0, d1, e1, d2, e2, d3, e3⟩ := cells4 (i := 0) T5.out.box (by simp) rfl rfl rfl rfl
  go_wp2_with fail
  refine (mark_one o 0 ⟨#[]⟩ ts m HM.out HN.out T5.out.ow).mono ?_
  rintro e W6 ⟨rfl, og, t6⟩
  have T6 := Lib.hid (T5.out.mark og t6)
  clear og t6 T5 d0 e0 d1 e1 d2 e2 d3 e3
  go_upto_region 10 with (fail)
  obtain ⟨d0, e0, d1, e1, d2, e2, d3, e3⟩ := cells4 (i := 0) T6.out.box (by simp) rfl rfl rfl rfl
  go_wp2_with fail
  refine (held_one o 0 ⟨#[]⟩ ts m HM.out HN.out T6.out.ow.rd).mono ?_
  rintro e W7 ⟨rfl, b7⟩
  have T7 := Lib.hid (T6.out.below b7)
  clear b7 T6 d0 e0 d1 e1 d2 e2 d3 e3
  go_upto_region 15 with (fail)
  go_wp2_with fail
  refine (HI.out _).mono ?_
  rintro e W8 ⟨vh, Sh, rfl, oh, sh, b8⟩
  obtain ⟨Ah, ch, rfl, _, _⟩ := oh.rd
  rw [HL.out] at oh
  rw [HL.out]
  have OH := Lib.hid oh.rd
  have T8 := Lib.hid (T7.out.below b8)
  clear oh sh b8 T7
  go_upto_region 16 with (fail)
  refine name_wp ?_
  intro W9 hW
  obtain ⟨h0, b9⟩ := boxed hW
  have T9 := Lib.hid (T8.out.below b9)
  have RH := Lib.hid (OH.out.below b9)
  have HH := Lib.hid h0
  generalize hbh : W8.heap.size = bh at *
  clear hW b9 h0 OH T8
  have RW := Lib.hid (R2.out.below T9.out.bb)
  obtain ⟨c0, f0, c1, f1, c2, f2, c3, f3⟩ := cells4 (i := 0) (blk_below HW2.out T9.out.bb) (by simp) rfl rfl rfl rfl
  obtain ⟨d0, e0, d1, e1, d2, e2, d3, e3⟩ := cells4 (i := 0) HH.out (by simp) rfl rfl rfl rfl
  go_wp2_with fail
  refine (eq_any o 0 ⟨#[]⟩ ts (v := .slice Ah l ch) (v' := .slice A l c) RH.out RW.out).mono ?_
  rintro e W10 ⟨rfl, b10⟩
  have T10 := Lib.hid (T9.out.below b10)
  clear b10 T9 RW RH HH c0 f0 c1 f1 c2 f2 c3 f3 d0 e0 d1 e1 d2 e2 d3 e3
  go_upto_region 19 with (fail)
  obtain ⟨d0, e0, d1, e1, d2, e2, d3, e3⟩ := cells4 (i := 0) T10.out.box (by simp) rfl rfl rfl rfl
  go_wp2_with fail
  refine (held_one o 0 ⟨#[]⟩ ts m HM.out HN.out T10.out.ow.rd).mono ?_
  rintro e W11 ⟨rfl, b11⟩
  have T11 := Lib.hid (T10.out.below b11)
  clear b11 T10 d0 e0 d1 e1 d2 e2 d3 e3
  go_wp2_with fail
  go_ret
  exact ⟨rfl, T11.out.b⟩
theorem walk (a0 : ByteArray) (w : World) : Calls Tryd.prog 3 #[.string a0] w fun e w' => e = .returned (.bool true) ∧ Below w.heap.size w w' := by
  by_cases h12 : a0.size ≤ 12
  · cases hw : wordB a0 with
    | true => exact walk_of a0 _ _ true (by rw [nod_lw]; simp; omega) (impl_list a0 h12 hw) (spec_good a0 h12 hw) w
    | false => exact walk_of a0 0 [] false (by simp [nodL]) (impl_badw a0 h12 hw) (spec_bad a0 h12 hw) w
  · exact walk_of a0 0 [] false (by simp [nodL]) (impl_long a0 (by omega)) (spec_long a0 (by omega)) w
end Go.Proofs.YtfnkobcmhbdcoabDoor.LawLst
end
section
/- Rows of constants of one's own; the term joined of such a row. -/

namespace Go.Proofs.YtfnkobcmhbdcoabDoor.Leaf
open Go.RowKit Go.Proofs.YtfnkobcmhbdcoabDoorW.PrintWords Go.Proofs.YtfnkobcmhbdcoabDoorW.PrintLast Go.Proofs.YtfnkobcmhbdcoabDoor.Base Go.Proofs.YtfnkobcmhbdcoabDoor.XTypes Go.Proofs.YtfnkobcmhbdcoabDoor.PureInts Go.Proofs.YtfnkobcmhbdcoabDoor.Typed Go.Proofs.YtfnkobcmhbdcoabDoor.Trees Go.Proofs.YtfnkobcmhbdcoabDoor.XTm Go.Proofs.YtfnkobcmhbdcoabDoor.EqT Go.Proofs.YtfnkobcmhbdcoabDoor.MarkT Go.Proofs.YtfnkobcmhbdcoabDoor.HeldT Go.Proofs.YtfnkobcmhbdcoabDoor.NumT Go.Proofs.YtfnkobcmhbdcoabDoor.LawNum
set_option linter.unusedVariables false
set_option linter.unusedSimpArgs false
set_option linter.unnecessarySimpa false

/-! ### rows of constants -/
def leaf (o : Int) : T := ⟨o, ⟨#[]⟩, 0, []⟩
def leafC (o : Int) : List Value := [.int .i64 o, .string ⟨#[]⟩, .int .i64 0, .slice none 0 0]
/-- A row of constants of one's own. -/
def OwF (base : Nat) (w : World) (v : Value) (os : List Int) : Prop := Kd.R (Kd.raw 4) 24 w base (fun k => some k = v.ownBlock) v (os.map leafC)
theorem OwF.of {base : Nat} {w : World} {ok : Nat → Prop} {v : Value} {os : List Int} (h : Kd.R (Kd.raw 4) 24 w base ok v (os.map leafC)) : OwF base w v os := Kd.raw_tight h
theorem OwC_leaves (w : World) (os : List Int) : OwC w (os.map leaf) (os.flatMap leafC) [] := by
  induction os with
  | nil => exact OwC_nil.2 ⟨rfl, rfl⟩
  | cons o os ih => exact OwC_cons.2 ⟨leafC o, os.flatMap leafC, [], [], rfl, rfl, OwT_iff.2 ⟨_, rfl, OwL.nil w⟩, ih, fun k hk => by cases hk⟩
theorem flat_of {os : List Int} {inner : List Value} (h : Reps (fun x cs => cs = x ∧ cs.length = 4 ∧ ∀ u ∈ cs, u.oneCell' = true) 4 (os.map leafC) inner) : inner = os.flatMap leafC := by
  induction os generalizing inner with
  | nil =>
    have := h.1
    simp at this
    simp [this]
  | cons o os ih =>
    have h0 := (h.2 0 (leafC o) rfl).1
    have hl := h.1
    simp only [List.map_cons, List.length_cons, List.length_map] at hl
    have h1 : inner.drop 4 = os.flatMap leafC := by
      refine ih ⟨by simp [hl]; omega, fun j p hj => ?_⟩
      have := h.2 (j + 1) p (by simpa using hj)
      rw [List.drop_drop]
      have e : 4 + j * 4 = (j + 1) * 4 := by omega
      rw [e]
      exact this
    have h2 : inner.take 4 = leafC o := by simpa using h0
    rw [← List.take_append_drop 4 inner, h1, h2]
    rfl
theorem OwF.owl {base : Nat} {w : World} {v : Value} {os : List Int} (h : OwF base w v os) : ∃ S, OwL w v (os.map leaf) S ∧ ∀ k ∈ S, base ≤ k := by
  obtain ⟨_, inner, ho, hr⟩ := h
  have e := flat_of hr
  rw [e] at ho
  have hl : (os.map leafC).length = (os.map leaf).length := by simp
  rw [hl] at ho
  rcases ho.2 with ⟨rfl, hn⟩ | ⟨g, cap, cur, rfl, hb, hh, hc, hm, hs, ht⟩
  · refine ⟨[], ?_, fun k hk => by cases hk⟩
    exact .inl ⟨rfl, hn, rfl⟩
  · refine ⟨[g], .inr ⟨g, cap, cur, [], rfl, hc, hm, hh, hs, ?_, rfl, by simp⟩, fun k hk => by simp at hk; omega⟩
    have ht' : cur.toList.take ((os.map leaf).length * 4) = os.flatMap leafC := ht
    rw [ht']
    exact OwC_leaves w os
theorem OwF.slice {base : Nat} {w : World} {v : Value} {os : List Int} (h : OwF base w v os) : ∃ A c, v = .slice A os.length c := by
  obtain ⟨S, ho, _⟩ := h.owl
  obtain ⟨A, c, e, _⟩ := ho.rd
  exact ⟨A, c, by simpa using e⟩
theorem OwF.below {base : Nat} {w w' : World} {v : Value} {os : List Int} (h : OwF base w v os) (hb : Below w.heap.size w w') : OwF base w' v os := Kd.R_step h (fun k _ hk => hb.block k hk)

theorem OwF.head {base : Nat} {w : World} {v : Value} {o : Int} {os : List Int} (h : OwF base w v (o :: os)) : ∃ g cap, v = .slice (some ⟨g, 0, none⟩) (os.length + 1) cap ∧
    w.cell? ⟨g, 0, none⟩ = some (.int .i64 o) ∧ w.cell? ⟨g, 1, none⟩ = some (.string ⟨#[]⟩) ∧ w.cell? ⟨g, 2, none⟩ = some (.int .i64 0) ∧ w.cell? ⟨g, 3, none⟩ = some (.slice none 0 0) := by
  obtain ⟨_, inner, ho, hr⟩ := h
  have e := flat_of hr
  rw [e] at ho
  rcases ho.2 with ⟨rfl, hn⟩ | ⟨g, cap, cur, rfl, hb, hh, hc, hm, hs, ht⟩
  · simp at hn
  · have hget : ∀ (i : Nat) u, i < 4 → (leafC o)[i]? = some u → cur[i]? = some u := by
      intro i u hi hu
      have h1 : (cur.toList.take ((List.map leafC (o :: os)).length * 4))[i]? = some u := by
        have : cur.toList.take ((List.map leafC (o :: os)).length * 4) = (o :: os).flatMap leafC := ht
        rw [this, List.flatMap_cons, List.getElem?_append_left (by simpa [leafC] using hi)]
        exact hu
      rw [List.getElem?_take] at h1
      split at h1
      · simpa using h1
      · cases h1
    refine ⟨g, cap, by simp, ?_, ?_, ?_, ?_⟩
    all_goals simp only [World.cell?, hh]
    · exact hget 0 _ (by omega) rfl
    · exact hget 1 _ (by omega) rfl
    · exact hget 2 _ (by omega) rfl
    · exact hget 3 _ (by omega) rfl
theorem leaf_cells (o : Int) : ∀ u ∈ ([.int .i64 o, .string ⟨#[]⟩, .int .i64 0, .slice none 0 0] : List Value), u.oneCell' = true := by
  intro u hu
  simp at hu
  rcases hu with rfl | rfl | rfl | rfl <;> rfl
theorem OwF.snoc {base : Nat} {w : World} {ok : Nat → Prop} {v : Value} {os : List Int} {o : Int} (h : Kd.R (Kd.raw 4) 24 w base ok v (os.map leafC ++ [[.int .i64 o, .string ⟨#[]⟩, .int .i64 0, .slice none 0 0]])) : OwF base w v (os ++ [o]) := by
  refine OwF.of (ok := ok) ?_
  rw [List.map_append]
  exact h
/-! ### joined -/
def joinO (os : List Int) : Int := match os with | [] => 0 | [o] => o | _ => 4
def joinA (os : List Int) : List T := match os with | [] => [] | [_] => [] | os => os.map leaf
set_option maxHeartbeats 1000000 in
set_option maxRecDepth 100000 in
theorem impl_joined (os : List Int) (v : Value) (base : Nat) (w : World) (h : OwF base w v os) :
    Calls Tryd.prog 18 #[.int .i64 4, v] w fun e w' => ∃ va S, e = .returned (.agg #[.int .i64 (joinO os), .string ⟨#[]⟩, .int .i64 0, va]) ∧ OwL w' va (joinA os) S ∧ (∀ k ∈ S, base ≤ k) ∧ Below w.heap.size w w' := by
  obtain ⟨S, ho, hs⟩ := h.owl
  obtain ⟨A, c, e, hc, hC⟩ := ho.rd
  rw [List.length_map] at e hc hC
  subst e
  have HO := Lib.hid ho
  have HS := Lib.hid hs
  have HF := Lib.hid h
  clear h ho hs hC
  match os, HO, HS, HF with
  | [], HO, HS, HF =>
    go_enter Tryd.func18, Tryd.ntmps18
    go_wp2_with fail
    refine name_post ?_
    intro W1 hW
    obtain ⟨g0, b1⟩ := boxed hW
    clear hW
    refine bodyPost_ret (results_cell_row rfl _ _ w.heap.size 24 #[.int .i64 0, .string ⟨#[]⟩, .int .i64 0, .slice none 0 0] (0, 0) _ rfl g0 Tryd.underlying24 rfl (by kernel_rfl)) rfl ?_
    exact ⟨_, [], rfl, OwL.nil _, (fun k hk => by cases hk), b1⟩
  | [o], HO, HS, HF =>
    obtain ⟨g, cap, e, e0, e1, e2, e3⟩ := HF.out.head
    injection e with eA _ ec
    subst eA
    subst ec
    go_enter Tryd.func18, Tryd.ntmps18
    have hq : ∀ o' : Obj, _ := fun o' => And.intro (cell_below e0 (below_alloc (Below.refl w.heap.size w) o')) (And.intro (cell_below e1 (below_alloc (Below.refl w.heap.size w) o')) (And.intro (cell_below e2 (below_alloc (Below.refl w.heap.size w) o')) (cell_below e3 (below_alloc (Below.refl w.heap.size w) o'))))
    have d0 := fun o' => (hq o').1
    have d1 := fun o' => (hq o').2.1
    have d2 := fun o' => (hq o').2.2.1
    have d3 := fun o' => (hq o').2.2.2
    clear hq
    go_wp2_with fail
    refine name_post ?_
    intro W1 hW
    obtain ⟨g0, b1⟩ := boxed hW
    clear hW
    refine bodyPost_ret (results_cell_row rfl _ _ w.heap.size 24 #[.int .i64 o, .string ⟨#[]⟩, .int .i64 0, .slice none 0 0] (0, 0) _ rfl g0 Tryd.underlying24 rfl (by kernel_rfl)) rfl ?_
    exact ⟨_, [], rfl, OwL.nil _, (fun k hk => by cases hk), b1⟩
  | o :: p :: os, HO, HS, HF =>
    generalize hl : (o :: p :: os).length = l at *
    have hl2 : 2 ≤ l := by rw [← hl]; simp
    have l0 : ((l : Int) == 0) = false := by rw [beq_eq_false_iff_ne]; omega
    have l1 : ((l : Int) == 1) = false := by rw [beq_eq_false_iff_ne]; omega
    have l0' : ¬ (l : Int) = 0 := by omega
    have l1' : ¬ (l : Int) = 1 := by omega
    clear hl HF
    go_enter Tryd.func18, Tryd.ntmps18
    go_wp2_with fail
    refine name_post ?_
    intro W1 hW
    obtain ⟨g0, b1⟩ := boxed hW
    clear hW
    refine bodyPost_ret (results_cell_row rfl _ _ w.heap.size 24 #[.int .i64 4, .string ⟨#[]⟩, .int .i64 0, .slice A l c] (0, 0) _ rfl g0 Tryd.underlying24 rfl (by kernel_rfl)) rfl ?_
    exact ⟨_, S, rfl, HO.out.frame (fun k hk => b1.block k (HO.out.lt k hk)), HS.out, b1⟩

end Go.Proofs.YtfnkobcmhbdcoabDoor.Leaf
end
section
/- FnExactTermOfWord: the program's, the reference's, and the walk. -/


namespace Go.Proofs.YtfnkobcmhbdcoabDoor.LawTrm
open Go.RowKit Go.Proofs.YtfnkobcmhbdcoabDoorW.PrintWords Go.Proofs.YtfnkobcmhbdcoabDoorW.PrintLast Go.Proofs.YtfnkobcmhbdcoabDoor.Base Go.Proofs.YtfnkobcmhbdcoabDoor.XTypes Go.Proofs.YtfnkobcmhbdcoabDoor.PureInts Go.Proofs.YtfnkobcmhbdcoabDoor.Typed Go.Proofs.YtfnkobcmhbdcoabDoor.Trees Go.Proofs.YtfnkobcmhbdcoabDoor.XTm Go.Proofs.YtfnkobcmhbdcoabDoor.EqT Go.Proofs.YtfnkobcmhbdcoabDoor.MarkT Go.Proofs.YtfnkobcmhbdcoabDoor.HeldT Go.Proofs.YtfnkobcmhbdcoabDoor.NumT Go.Proofs.YtfnkobcmhbdcoabDoor.LawNum Go.Proofs.YtfnkobcmhbdcoabDoor.Word Go.Proofs.YtfnkobcmhbdcoabDoor.Leaf
open Go.Proofs.YtfnkobcmhbdcoabDoor.LawLst (bt_at letter_no letter_yes)
set_option linter.unusedVariables false
set_option linter.unusedSimpArgs false
set_option linter.unnecessarySimpa false

set_option maxHeartbeats 1000000 in
set_option maxRecDepth 100000 in
theorem impl_long (s : ByteArray) (h7 : 7 < s.size) (w : World) : Calls Tryd.prog 11 #[.string s] w (Gives 0 [] false w) := by
  have h0 : (7 : Int) < (s.size : Int) := by omega
  go_enter Tryd.func11, Tryd.ntmps11
  go_wp2_with fail
  refine name_post ?_
  intro W1 hW
  obtain ⟨g0, b1⟩ := boxed hW
  clear hW
  refine bodyPost_ret (results_ct rfl _ _ w.heap.size 24 #[.int .i64 0, .string ⟨#[]⟩, .int .i64 0, .slice none 0 0] (0, 0) _ rfl g0 Tryd.underlying24 rfl (by kernel_rfl)) rfl ?_
  exact ⟨_, [], rfl, OwL.nil _, (fun k hk => by cases hk), b1⟩
set_option maxHeartbeats 1000000 in
set_option maxRecDepth 100000 in
theorem impl_badw (s : ByteArray) (h7 : s.size ≤ 7) (hwd : wordB s = false) (w : World) : Calls Tryd.prog 11 #[.string s] w (Gives 0 [] false w) := by
  have h0 : ¬ (7 : Int) < (s.size : Int) := by omega
  have HW := Lib.hid hwd
  clear hwd
  go_enter Tryd.func11, Tryd.ntmps11
  obtain ⟨V, hV⟩ : ∃ V, V = w.alloc (.cells #[.int .i64 0, .string ⟨#[]⟩, .int .i64 0, .slice none 0 0] 24) := ⟨_, rfl⟩
  obtain ⟨vb, bV⟩ := boxed hV
  have hVs : V.heap.size = w.heap.size + 1 := by rw [hV]; simp
  go_wp2_with fail
  rw [← hV]
  clear hV
  refine (isWord_any s V (by omega)).mono ?_
  rintro e W1 ⟨rfl, b1⟩
  rw [HW.out]
  have gr := blk_below vb b1
  have bw := bV.trans (b1.mono (by omega))
  clear vb bV b1 hVs
  obtain ⟨c0, f0, c1, f1, c2, f2, c3, f3⟩ := cells4 (i := 0) gr (by simp) (a := .int .i64 0) (b := .string ⟨#[]⟩) (c := .int .i64 0) (d := .slice none 0 0) rfl rfl rfl rfl
  have GR := Lib.hid gr
  have BW := Lib.hid bw
  clear gr bw
  go_wp2_with fail
  refine name_post ?_
  intro W2 hW
  have g0 : W2.heap[w.heap.size]? = some (.cells #[.int .i64 0, .string ⟨#[]⟩, .int .i64 0, .slice none 0 0] 24 (0, 0)) := by
    rw [hW]
    exact set_at (set_at (set_at (set_at GR.out _) _) _) _
  have ob : Stirs [w.heap.size] W1 W2 := by
    rw [hW]
    exact (((Stirs.set _ _ List.mem_cons_self).trans (Stirs.set _ _ List.mem_cons_self)).trans (Stirs.set _ _ List.mem_cons_self)).trans (Stirs.set _ _ List.mem_cons_self)
  clear hW
  refine bodyPost_ret (results_ct rfl _ _ w.heap.size 24 #[.int .i64 0, .string ⟨#[]⟩, .int .i64 0, .slice none 0 0] (0, 0) _ rfl g0 Tryd.underlying24 rfl (by kernel_rfl)) rfl ?_
  have hsz := heap_lt GR.out
  exact ⟨_, [], rfl, OwL.nil _, (fun k hk => by cases hk), BW.out.trans (ob.below (n := w.heap.size) (by omega) (fun k hk => by simp at hk; omega))⟩


/-! ### the letters -/
def letO (b : UInt8) : Int := 1 + ((b.toNat : Int) - 97)
def lets (s : ByteArray) : List Int := s.data.toList.map letO
theorem lets_len (s : ByteArray) : (lets s).length = s.size := by simp [lets]
theorem lets_take (s : ByteArray) {j : Nat} (hj : j < s.size) : (lets s).take (j + 1) = (lets s).take j ++ [1 + (((s[j]'hj).toNat : Int) - 97)] := by
  have hl : j < (lets s).length := by rw [lets_len]; exact hj
  rw [List.take_succ_eq_append_getElem hl]
  congr 2
  simp [lets, letO]
  rfl

set_option maxHeartbeats 2000000 in
set_option maxRecDepth 100000 in
theorem impl_term (s : ByteArray) (h7 : s.size ≤ 7) (hwd : wordB s = true) (w : World) :
    Calls Tryd.prog 11 #[.string s] w (Gives (joinO (lets s)) (joinA (lets s)) true w) := by
  have h0 : ¬ (7 : Int) < (s.size : Int) := by omega
  have HW := Lib.hid hwd
  clear hwd
  go_enter Tryd.func11, Tryd.ntmps11
  obtain ⟨V, hV⟩ : ∃ V, V = w.alloc (.cells #[.int .i64 0, .string ⟨#[]⟩, .int .i64 0, .slice none 0 0] 24) := ⟨_, rfl⟩
  obtain ⟨vb, bV⟩ := boxed hV
  have hVs : V.heap.size = w.heap.size + 1 := by rw [hV]; simp
  go_wp2_with fail
  rw [← hV]
  clear hV
  refine (isWord_any s V (by omega)).mono ?_
  rintro e W0 ⟨rfl, b0⟩
  rw [HW.out]
  have gr := blk_below vb b0
  have bw := bV.trans (b0.mono (by omega))
  have hbx : w.heap.size < W0.heap.size := heap_lt gr
  have HV := Lib.hid (And.intro gr bw)
  clear gr bw vb bV b0 hVs
  go_wp2_with fail
  refine name_wp ?_
  intro W1 hW
  have b1 : Below W0.heap.size W0 W1 := by rw [hW]; exact below_alloc (Below.refl _ _) _
  have o1 : OwF W0.heap.size W1 (.slice (some ⟨W0.heap.size, 0, none⟩) 0 0) [] := by
    refine OwF.of (ok := fun _ => True) ⟨fun _ _ => trivial, [], ⟨rfl, .inr ⟨W0.heap.size, 0, #[], rfl, Nat.le_refl _, ?_, Nat.le_refl _, by decide, rfl, rfl⟩⟩, Reps.none _ _⟩
    rw [hW]
    exact blk_new _ _
  clear hW
  have hlen := lets_len s
  have HLEN := Lib.hid hlen
  clear hlen
  go_loopw [4, 18] (fun v i wr => ∃ j : Nat, j ≤ s.size ∧ i = .int .i64 j ∧ Aside0 (OwF W0.heap.size wr v ((lets s).take j)) ∧ Aside0 (Below W0.heap.size W0 wr)) (fun _ i _ => s.size - (intOf i).toNat)
  case atStart => exact ⟨0, Nat.zero_le _, rfl, ⟨o1⟩, ⟨b1⟩⟩
  case round =>
    obtain ⟨j, hj, rfl, hO, hB⟩ := hrel
    by_cases hlt : j < s.size
    · have hlet := letter_at HW.out hlt
      have hll : (((lets s).take j).length + 1) * 56 ≤ 140737488355328 := by rw [List.length_take, HLEN.out]; omega
      have HLB := Lib.hid hll
      have hO3 : Kd.R (Kd.raw 4) 24 wr W0.heap.size (fun _ => True) u4 (((lets s).take j).map leafC) := Kd.raw_any hO.out
      have HO3 := Lib.hid hO3
      clear hO3 hll
      go_wp2_with (first | ((with_reducible refine gate_builtin (b := .append) (xs := #[.tmp 21, .tmp 29]) rfl ?_); at_builtin; refine Kd.R_append (Kd.raw 4) (w0 := W0) W0.heap.size rfl (.tmp 21) (.tmp 29) 22 24 (.agg #[(.int .i64 0), (.string ⟨#[]⟩), (.int .i64 0), (.slice none 0 0)]) 56 rfl Tryd.underlying22 info24 rfl (by decide) (by omega) u4 (((lets s).take j).map leafC) [.int .i64 (1 + (((s[j]'hlt).toNat : Int) - 97)), .string ⟨#[]⟩, .int .i64 0, .slice none 0 0] [.int .i64 (1 + (((s[j]'hlt).toNat : Int) - 97)), .string ⟨#[]⟩, .int .i64 0, .slice none 0 0] (fun _ => True) (fun _ => False) rfl rfl ?aP (fun _ hk => hk.elim) (fun _ _ => trivial) ?aO ?aB ?aS ?aL ?_; (case aP => exact ⟨rfl, rfl, leaf_cells _⟩); (case aB => exact hB.out); (case aO => exact HO3.out); (case aS => exact hB.out.size); (case aL => rw [List.length_map]; exact HLB.out); intro v1 w1 ho hb _ _; have HO1 := Lib.hid (OwF.snoc ho); have HB1 := Lib.hid hb; clear ho hb))
      go_roundw
      case rel => exact ⟨j + 1, by omega, by go_num, ⟨by rw [lets_take s hlt]; exact HO1.out⟩, ⟨HB1.out⟩⟩
      case measure => simp [intOf]; omega
    · obtain rfl : j = s.size := by omega
      have ht : (lets s).take s.size = lets s := List.take_of_length_le (by rw [HLEN.out]; exact Nat.le_refl _)
      rw [ht] at hO
      generalize lets s = os at *
      obtain ⟨A4, c4, e4⟩ := hO.out.slice
      subst e4
      clear ht
      go_wp2_with fail
      refine (impl_joined os _ W0.heap.size wr hO.out).mono ?_
      rintro e W2 ⟨va, S, rfl, ho, hs, hb⟩
      obtain ⟨A5, c5, rfl, _, _⟩ := ho.rd
      generalize (joinA os).length = l5 at *
      have g0 := blk_below (blk_below HV.out.1 hB.out) hb
      obtain ⟨d0, e0, d1, e1, d2, e2, d3, e3⟩ := cells4 (i := 0) g0 (by simp) rfl rfl rfl rfl
      have G0 := Lib.hid g0
      have HO := Lib.hid ho
      have HS := Lib.hid hs
      have HB := Lib.hid hb
      clear g0 ho hs hb
      go_wp2_with fail
      refine name_post ?_
      intro W3 hW
      have g3 : W3.heap[w.heap.size]? = some (.cells #[.int .i64 (joinO os), .string ⟨#[]⟩, .int .i64 0, .slice A5 l5 c5] 24 (0, 0)) := by
        rw [hW]
        exact set_at (set_at (set_at (set_at G0.out _) _) _) _
      have ob : Stirs [w.heap.size] W2 W3 := by
        rw [hW]
        exact (((Stirs.set _ _ List.mem_cons_self).trans (Stirs.set _ _ List.mem_cons_self)).trans (Stirs.set _ _ List.mem_cons_self)).trans (Stirs.set _ _ List.mem_cons_self)
      clear hW
      refine bodyPost_ret (results_ct rfl _ _ w.heap.size 24 #[.int .i64 (joinO os), .string ⟨#[]⟩, .int .i64 0, .slice A5 l5 c5] (0, 0) _ rfl g3 Tryd.underlying24 rfl (by kernel_rfl)) rfl ?_
      refine ⟨.slice A5 l5 c5, S, rfl, ?_, fun k hk => Nat.le_trans (Nat.le_of_lt hbx) (HS.out k hk), ?_⟩
      · exact HO.out.frame (fun k hk => ob.block k (HO.out.lt k hk) (fun e => by have := HS.out k hk; simp at e; omega))
      · exact ((HV.out.2.trans (hB.out.mono (by omega))).trans (HB.out.mono (by have := hB.out.size; omega))).trans (ob.below (n := w.heap.size) (by have := hB.out.size; have := HB.out.size; omega) (fun k hk => by simp at hk; omega))

/-! ### the reference -/
abbrev Bad : Int × ByteArray × Int × List T × Bool := (0, ⟨#[]⟩, 0, [], false)
theorem value_join (os : List Int) (h : os ≠ []) (h7 : os.length ≤ 7) : spec_l11Value.f 4 (os.map leaf) = some (joinO os, ⟨#[]⟩, 0, joinA os) := by
  match os, h with
  | [o], _ => simp [spec_l11Value.f, joinO, joinA, leaf, rd_T24]
  | o :: p :: os, _ =>
    unfold spec_l11Value.f
    rw [if_neg (by simp; omega)]
    simp only [Option.bind_some, List.length_nil, List.nil_append, Nat.zero_add]
    rw [if_pos (by rw [List.length_map]; simp at h7 ⊢; omega)]
    rfl
theorem term_loop (s : ByteArray) (hs : s.size ≤ 7) (hw : wordB s = true) : ∀ (d j : Nat), s.size - j = d → j ≤ s.size → Ev (fun k => spec_TermOfWord.l0 k s (((lets s).take j).map leaf) (j : Int)) (joinO (lets s), ⟨#[]⟩, 0, joinA (lets s), true) := by
  intro d
  induction d with
  | zero =>
    intro j hd hj
    obtain rfl : j = s.size := by omega
    refine Ev.step (fun k => by simp only [spec_TermOfWord.l0]; rfl) (Ev.neg (by omega) ?_)
    rw [List.take_of_length_le (by rw [lets_len]; exact Nat.le_refl _), List.length_map]
    have hl := lets_len s
    generalize lets s = os at *
    cases os with
    | nil => exact Ev.pos rfl (Ev.now _)
    | cons o os =>
      refine Ev.neg (by simp; omega) ?_
      rw [value_join (o :: os) (by simp) (by omega)]
      exact Ev.now _
  | succ d ih =>
    intro j hd hj
    have hjs : j < s.size := by omega
    have hc : abc.contains (s[j]'hjs) = true := List.all_eq_true.1 hw _ (by show s.data[j]'hjs ∈ s.data.toList; simp)
    refine Ev.step (fun k => by simp only [spec_TermOfWord.l0]; rfl) (Ev.pos (by omega) (Ev.pos (by omega) ?_))
    rw [bt_at s hjs, letter_yes _ 1 (by omega) hc]
    have hl := letter_at hw hjs
    simp only [Option.bind_some]
    refine Ev.neg (by omega) (Ev.pos (by rw [List.length_map, List.length_take, lets_len]; omega) ?_)
    rw [wrap_succ (by omega)]
    have h := ih (j + 1) (by omega) (by omega)
    rw [lets_take s hjs, List.map_append] at h
    exact h
theorem term_bad (s : ByteArray) (hs : s.size ≤ 7) : ∀ (d j : Nat) (xs : List T), s.size - j = d → j ≤ s.size → xs.length = j → (s.data.toList.drop j).all (abc.contains ·) = false → Ev (fun k => spec_TermOfWord.l0 k s xs (j : Int)) Bad := by
  intro d
  induction d with
  | zero =>
    intro j xs hd hj hx h
    obtain rfl : j = s.size := by omega
    rw [List.drop_of_length_le (by simp)] at h
    simp at h
  | succ d ih =>
    intro j xs hd hj hx h
    have hjs : j < s.size := by omega
    refine Ev.step (fun k => by simp only [spec_TermOfWord.l0]; rfl) (Ev.pos (by omega) (Ev.pos (by omega) ?_))
    rw [bt_at s hjs]
    cases hc : abc.contains (s[j]'hjs) with
    | false =>
      rw [letter_no _ 1 hc]
      simp only [Option.bind_some]
      exact Ev.pos (by omega) (Ev.now _)
    | true =>
      rw [letter_yes _ 1 (by omega) hc]
      simp only [Option.bind_some]
      have hge : ¬ (1 + (((s[j]'hjs).toNat : Int) - 97) < 0) := by
        have hb : (s[j]'hjs) = 97 ∨ (s[j]'hjs) = 98 ∨ (s[j]'hjs) = 99 := by simpa [abc] using hc
        rcases hb with hb | hb | hb <;> rw [hb] <;> decide
      refine Ev.neg hge (Ev.pos (by omega) ?_)
      rw [wrap_succ (by omega)]
      refine ih (j + 1) _ (by omega) (by omega) (by simp [hx]) ?_
      rw [drop_at s hjs, List.all_cons, hc, Bool.true_and] at h
      exact h
theorem Shows.ofT {s : ByteArray} {o : Int} {ts : List T} {b : Bool} (w : World) (h : Ev (fun k => spec_TermOfWord.f k s) (o, ⟨#[]⟩, 0, ts, b)) : Calls Tryd.prog 10 #[.string s] w (Shows o ts b w) := by
  obtain ⟨k, hk⟩ := h.rounds
  refine (spec_TermOfWord.calls k s _ _ _ _ _ w hk).mono ?_
  rintro e w' ⟨va, rfl, ⟨A', c', rfl, hl, hF⟩, hb⟩
  exact ⟨_, rfl, ⟨A', c', rfl, hl, Kd.F_now hF⟩, hb⟩
theorem spec_good (s : ByteArray) (h7 : s.size ≤ 7) (hw : wordB s = true) (w : World) : Calls Tryd.prog 10 #[.string s] w (Shows (joinO (lets s)) (joinA (lets s)) true w) := by
  refine Shows.ofT w ?_
  unfold spec_TermOfWord.f
  exact Ev.neg (by omega) (term_loop s h7 hw s.size 0 (by omega) (Nat.zero_le _))
theorem spec_long (s : ByteArray) (h7 : 7 < s.size) (w : World) : Calls Tryd.prog 10 #[.string s] w (Shows 0 [] false w) := by
  refine Shows.ofT w ?_
  unfold spec_TermOfWord.f
  exact Ev.pos (by omega) (Ev.now _)
theorem spec_bad (s : ByteArray) (h7 : s.size ≤ 7) (hw : wordB s = false) (w : World) : Calls Tryd.prog 10 #[.string s] w (Shows 0 [] false w) := by
  refine Shows.ofT w ?_
  unfold spec_TermOfWord.f
  exact Ev.neg (by omega) (term_bad s h7 s.size 0 [] (by omega) (Nat.zero_le _) rfl hw)
theorem nod_leaf (os : List Int) : nodL (os.map leaf) = os.length := by
  induction os with
  | nil => simp [nodL]
  | cons o os ih => simp [leaf, nodL, nod] at ih ⊢; omega
theorem nod_join (os : List Int) : nodL (joinA os) ≤ os.length := by
  match os with
  | [] => simp [joinA, nodL]
  | [o] => simp [joinA, nodL]
  | o :: p :: os => show nodL ((o :: p :: os).map leaf) ≤ _; rw [nod_leaf]; exact Nat.le_refl _

set_option maxHeartbeats 2000000 in
set_option maxRecDepth 100000 in
theorem walk_of (x : ByteArray) (o : Int) (ts : List T) (b : Bool) (hn : 3 * nodL ts ≤ 1000) (hI : ∀ w, Calls Tryd.prog 11 #[.string x] w (Gives o ts b w)) (hS : ∀ w, Calls Tryd.prog 10 #[.string x] w (Shows o ts b w)) (w : World) :
    Calls Tryd.prog 4 #[.string x] w fun e w' => e = .returned (.bool true) ∧ Below w.heap.size w w' := by
  have eb : (b != b) = false := by cases b <;> rfl
  obtain ⟨m, hm⟩ : ∃ m, m = 1 + 3 * nodL ts := ⟨_, rfl⟩
  have hm0 : (0 : Int) ≤ m := by omega
  have HM := Lib.hid hm
  have HN := Lib.hid hn
  have HI := Lib.hid hI
  have HS := Lib.hid hS
  clear hI hS hm hn
  go_enter Tryd.func4, Tryd.ntmps4
  by_cases hbig : 1048576 < x.size
  · have hb : (1048576 : Int) < (x.size : Int) := by omega
    go_wp2_with fail
    go_ret
    exact ⟨rfl, Below.refl _ _⟩
  have hb : ¬ (1048576 : Int) < (x.size : Int) := by omega
  go_wp2_with fail
  refine (HS.out _).mono ?_
  rintro e W1 ⟨va, rfl, r1, b1⟩
  obtain ⟨A, c, rfl, _, _⟩ := id r1
  generalize hl : ts.length = l at *
  have HL := Lib.hid hl
  have B1 := Lib.hid b1
  have R1 := Lib.hid r1
  clear b1 r1 hl
  go_upto_region 4 with (fail)
  refine name_wp ?_
  intro W2 hW
  obtain ⟨w0, b2⟩ := boxed hW
  have B2 := Lib.hid (below_to B1.out b2 B1.out.size)
  have R2 := Lib.hid (R1.out.below b2)
  have HW2 := Lib.hid w0
  generalize hbw : W1.heap.size = bw at *
  clear hW b2 w0 R1 B1
  go_wp2_with fail
  refine (HI.out _).mono ?_
  rintro e W3 ⟨vg, S, rfl, og, sg, b3⟩
  obtain ⟨Ag, cg, rfl, _, _⟩ := og.rd
  rw [HL.out] at og
  rw [HL.out]
  have OG := Lib.hid og
  have SG := Lib.hid sg
  have B3 := Lib.hid b3
  clear og sg b3
  go_upto_region 5 with (fail)
  refine name_wp ?_
  intro W4 hW
  have T4 := Lib.hid (Stand.start B2.out B3.out OG.out SG.out hW)
  generalize hbg : W3.heap.size = bg at *
  clear hW OG SG B3 B2
  have RW := Lib.hid (R2.out.below T4.out.bb)
  obtain ⟨c0, f0, c1, f1, c2, f2, c3, f3⟩ := cells4 (i := 0) (blk_below HW2.out T4.out.bb) (by simp) rfl rfl rfl rfl
  obtain ⟨d0, e0, d1, e1, d2, e2, d3, e3⟩ := cells4 (i := 0) T4.out.box (by simp) rfl rfl rfl rfl
  go_wp2_with fail
  refine (eq_any o 0 ⟨#[]⟩ ts (v := .slice Ag l cg) (v' := .slice A l c) T4.out.ow.rd RW.out).mono ?_
  rintro e W5 ⟨rfl, b5⟩
  have T5 := Lib.hid (T4.out.below b5)
  clear b5 T4 RW c0 f0 c1 f1 c2 f2 c3 f3 d0 e0 d1 e1 d2 e2 d3 e3
  go_upto_region 8 with (fail)
  obtain ⟨d0, e0, d1, e1, d2, e2, d3, e3⟩ := cells4 (i := 0) T5.out.box (by simp) rfl rfl rfl rfl
  go_wp2_with fail
  refine (mark_one o 0 ⟨#[]⟩ ts m HM.out HN.out T5.out.ow).mono ?_
  rintro e W6 ⟨rfl, og, t6⟩
  have T6 := Lib.hid (T5.out.mark og t6)
  clear og t6 T5 d0 e0 d1 e1 d2 e2 d3 e3
  go_upto_region 10 with (fail)
  obtain ⟨d0, e0, d1, e1, d2, e2, d3, e3⟩ := cells4 (i := 0) T6.out.box (by simp) rfl rfl rfl rfl
  go_wp2_with fail
  refine (held_one o 0 ⟨#[]⟩ ts m HM.out HN.out T6.out.ow.rd).mono ?_
  rintro e W7 ⟨rfl, b7⟩
  have T7 := Lib.hid (T6.out.below b7)
  clear b7 T6 d0 e0 d1 e1 d2 e2 d3 e3
  go_upto_region 15 with (fail)
  go_wp2_with fail
  refine (HI.out _).mono ?_
  rintro e W8 ⟨vh, Sh, rfl, oh, sh, b8⟩
  obtain ⟨Ah, ch, rfl, _, _⟩ := oh.rd
  rw [HL.out] at oh
  rw [HL.out]
  have OH := Lib.hid oh.rd
  have T8 := Lib.hid (T7.out.below b8)
  clear oh sh b8 T7
  go_upto_region 16 with (fail)
  refine name_wp ?_
  intro W9 hW
  obtain ⟨h0, b9⟩ := boxed hW
  have T9 := Lib.hid (T8.out.below b9)
  have RH := Lib.hid (OH.out.below b9)
  have HH := Lib.hid h0
  generalize hbh : W8.heap.size = bh at *
  clear hW b9 h0 OH T8
  have RW := Lib.hid (R2.out.below T9.out.bb)
  obtain ⟨c0, f0, c1, f1, c2, f2, c3, f3⟩ := cells4 (i := 0) (blk_below HW2.out T9.out.bb) (by simp) rfl rfl rfl rfl
  obtain ⟨d0, e0, d1, e1, d2, e2, d3, e3⟩ := cells4 (i := 0) HH.out (by simp) rfl rfl rfl rfl
  go_wp2_with fail
  refine (eq_any o 0 ⟨#[]⟩ ts (v := .slice Ah l ch) (v' := .slice A l c) RH.out RW.out).mono ?_
  rintro e W10 ⟨rfl, b10⟩
  have T10 := Lib.hid (T9.out.below b10)
  clear b10 T9 RW RH HH c0 f0 c1 f1 c2 f2 c3 f3 d0 e0 d1 e1 d2 e2 d3 e3
  go_upto_region 19 with (fail)
  obtain ⟨d0, e0, d1, e1, d2, e2, d3, e3⟩ := cells4 (i := 0) T10.out.box (by simp) rfl rfl rfl rfl
  go_wp2_with fail
  refine (held_one o 0 ⟨#[]⟩ ts m HM.out HN.out T10.out.ow.rd).mono ?_
  rintro e W11 ⟨rfl, b11⟩
  have T11 := Lib.hid (T10.out.below b11)
  clear b11 T10 d0 e0 d1 e1 d2 e2 d3 e3
  go_wp2_with fail
  go_ret
  exact ⟨rfl, T11.out.b⟩
theorem walk (a0 : ByteArray) (w : World) : Calls Tryd.prog 4 #[.string a0] w fun e w' => e = .returned (.bool true) ∧ Below w.heap.size w w' := by
  by_cases h7 : a0.size ≤ 7
  · cases hw : wordB a0 with
    | true => exact walk_of a0 _ _ true (by have := nod_join (lets a0); rw [lets_len] at this; omega) (impl_term a0 h7 hw) (spec_good a0 h7 hw) w
    | false => exact walk_of a0 0 [] false (by simp [nodL]) (impl_badw a0 h7 hw) (spec_bad a0 h7 hw) w
  · exact walk_of a0 0 [] false (by simp [nodL]) (impl_long a0 (by omega)) (spec_long a0 (by omega)) w
end Go.Proofs.YtfnkobcmhbdcoabDoor.LawTrm
end
section
/- The row of the law FnExactTermOfWord: every input that reads as data is answered true. -/















namespace Go.Proofs.YtfnkobcmhbdcoabDoor.fnExactTermOfWord
open Go.ChangeShapes Go.WideShapes Go.ChangeAt Go.RowKit
open Go.ChangeMaps (open_string shut_string)
set_option linter.unusedVariables false
theorem own : ownKnob Tryd.prog.godebug = none := by kernel_rfl
set_option maxRecDepth 100000 in
theorem lifted (os : Os) (started : os.Started) (H : Type) (enc : TypeId × Value → H) :
    ReturnsInHanded {} Tryd.checked os 4 .any (fun w args => (Rows.fnExactTermOfWordSpec.pre enc Tryd.prog Tryd.f4 Rows.fnExactTermOfWordRow.domain false w args ∧ laidMetH Tryd.prog Rows.fnExactTermOfWordRow.laid w) ∧ sizedMet enc Tryd.prog Tryd.f4 (OpenSpec.ofChange Rows.fnExactTermOfWordSpec) false w args)
      (Rows.fnExactTermOfWordSpec.post enc Tryd.prog Tryd.f4 false true false false) := by
  refine returnsInHanded_of_change_and (C := Tryd.checked) (X := fun w _ => laidMetH Tryd.prog Rows.fnExactTermOfWordRow.laid w) (fun _ _ _ hh h => h.of_heap hh) own started (by kernel_rfl) Tryd.func4
    (ChangeSpec.witness_shaped (enc := enc) (C := Tryd.checked) (os := os) (X := fun w _ => laidMetH Tryd.prog Rows.fnExactTermOfWordRow.laid w) false (World.laidAll Tryd.prog os Rows.fnExactTermOfWordRow.laid) #[.string ByteArray.empty] 8 (World.laidAll_os _ _ _)
      (World.shaped_of_ZipB (by kernel_rfl) (by kernel_rfl)) (by kernel_rfl) (by kernel_rfl) (by kernel_rfl)
      (by rw [MakeChecks.laidMetH_plain _ _ _ (by kernel_rfl)]; exact laidMet_laidAll _ (by kernel_rfl) (by kernel_rfl))) ?_
  intro W base args ds gs before hval0 hW hcnd _ hL _
  have hval : ∀ (j : Nat) t v, Tryd.f4.params[j]? = some t → args[j]? = some v → Value.okWide Tryd.prog W .any base t v := hval0
  have hW' := hW
  obtain ⟨p, q, hA0, hV, rfl, hfz, hnd⟩ := hW
  have hA : DataW.TrodAll enc Tryd.prog W 0 (fun _ => true) true Tryd.f4.params.toList args.toList ds p := hA0
  rw [Tryd.params4] at hA hval
  obtain ⟨v0, vs0, d0, ds0, p0, q0, hargs, rfl, rfl, h0, r0⟩ := trodAll_cons hA
  obtain ⟨rfl, rfl, rfl⟩ := trodAll_nil r0
  obtain rfl : args = #[v0] := by cases args; simp_all
  obtain ⟨rfl, rfl⟩ := trodVars_none hV
  obtain ⟨a0, rfl, rfl, rfl, y0⟩ := open_string Tryd.underlying9 (hval 0 9 v0 rfl rfl) h0
  clear hA0 hval0
  refine (Go.Proofs.YtfnkobcmhbdcoabDoor.LawTrm.walk a0 W ).mono fun e W' ⟨he, bel⟩ => ?_
  subst he
  exact ⟨_, rfl, _, _, _, [], _, [], hW', trodAll_mk1 (shut_bool Tryd.underlying4 _), (trodAll_cons_mk (shut_string Tryd.underlying9 y0) trodAll_mk0), rfl, bel.frame _, fun h => by cases h⟩
theorem over : Rows.fnExactTermOfWordRow.holds Tryd.pinned (OpenSpec.ofChange Rows.fnExactTermOfWordSpec) :=
  OpenClaim.holds_of_wide 4 Tryd.f4 rfl rfl rfl rfl rfl rfl rfl ⟨rfl, rfl, rfl, rfl, rfl⟩ rfl rfl rfl rfl rfl (by kernel_rfl) Tryd.func4 (by kernel_rfl)
    (of_decide_eq_true (by kernel_rfl)) (by unfold Func.isWrapper; first | (rw [if_pos (by decide +kernel)]; kernel_rfl) | (rw [if_neg (by decide +kernel)]; exact ⟨rfl, rfl⟩))
    (fun os started H enc _ => lifted os started H enc)
theorem proved : Rows.FnExactTermOfWordSaid := over
theorem card : Rows.FnExactTermOfWordCardSaid :=
  Claim7.holds_tied_plain_at .later [] [.data, .pinned] true (true, "b853273d5a94c5bb949eceef55c6f934a4dfd8c88379595d5cfa5be39319cfca") false proved (fun _ h => by cases h) (by kernel_rfl) (fun _ h => by cases h) fnExactTermOfWord_row_tie rfl ⟨rfl, rfl⟩ (by kernel_rfl) rfl
    (fun f fn hf hfn => by
      obtain rfl : f = 4 := Option.some.inj ((show Tryd.prog.funcNamed "loop.example/g03107/laws.FnExactTermOfWord" = some 4 by kernel_rfl).symm.trans hf) |>.symm
      obtain rfl : fn = Tryd.f4 := (Option.some.inj (Tryd.func4.symm.trans hfn)).symm
      exact ⟨by kernel_rfl, fun j t ht => by
        rw [Tryd.params4] at ht
        have hm : t ∈ [9] := by simpa using Array.mem_of_getElem? ht
        have hall : ([9].all fun u => !Tryd.prog.wantsStandIn u) = true := by kernel_rfl
        exact (show Tryd.prog.wantsStandIn t = false by simpa using List.all_eq_true.1 hall t hm)⟩)
    (by kernel_rfl)
#print axioms card
#print axioms proved
end Go.Proofs.YtfnkobcmhbdcoabDoor.fnExactTermOfWord
namespace Go.Proofs.YtfnkobcmhbdcoabDoor
/-- The row, under a short name, for the claim. -/
theorem fnExactTermOfWord_holds : Rows.FnExactTermOfWordCardSaid := fnExactTermOfWord.card
end Go.Proofs.YtfnkobcmhbdcoabDoor
end
