/- NumeralTerm: the program's, whose tree is its own, and the reference's. -/
import Derived.Test.YtfnkobcmhbdcoaaHeldT
namespace Go.Proofs.Ytfnkobcmhbdcoaa.NumT
open Go.RowKit Go.Proofs.YtfnkobcmhbdcoaaW.PrintWords Go.Proofs.YtfnkobcmhbdcoaaW.PrintLast Go.Proofs.Ytfnkobcmhbdcoaa.Base Go.Proofs.Ytfnkobcmhbdcoaa.XTypes Go.Proofs.Ytfnkobcmhbdcoaa.PureInts Go.Proofs.Ytfnkobcmhbdcoaa.Typed Go.Proofs.Ytfnkobcmhbdcoaa.Trees Go.Proofs.Ytfnkobcmhbdcoaa.XTm Go.Proofs.Ytfnkobcmhbdcoaa.EqT Go.Proofs.Ytfnkobcmhbdcoaa.MarkT Go.Proofs.Ytfnkobcmhbdcoaa.HeldT
set_option linter.unusedVariables false
set_option linter.unusedSimpArgs false
set_option linter.unnecessarySimpa false

/-- The arguments of the numeral of n. -/
def numA : Nat → List T
  | 0 => []
  | n + 1 => [⟨if n = 0 then 0 else 1, ⟨#[]⟩, 0, numA n⟩]
def numO (n : Nat) : Int := if n = 0 then 0 else 1
/-- The row of one term. -/
theorem OwL.one {w : World} {op st : Int} {nm : ByteArray} {va : Value} {ts : List T} {S : List Nat} {g : Nat} (hg : w.heap[g]? = some (.cells #[.int .i64 op, .string nm, .int .i64 st, va] 35 (0, 0))) (hw : OwL w va ts S) (hn : g ∉ S) : OwL w (.slice (some ⟨g, 0, none⟩) 1 1) [⟨op, nm, st, ts⟩] (g :: S) :=
  .inr ⟨g, 1, _, S, rfl, Nat.le_refl _, by decide, hg, rfl, OwC_cons.2 ⟨_, [], S, [], rfl, by simp, OwT_iff.2 ⟨va, rfl, hw⟩, OwC_nil.2 ⟨rfl, rfl⟩, fun k _ hk => by cases hk⟩, rfl, hn⟩
theorem OwL.nil (w : World) : OwL w (.slice none 0 0) [] [] := .inl ⟨rfl, rfl, rfl⟩
theorem name_post {P : Program} {f : Func} {Q : Ending → World → Prop} {e : Exit} {a : Act} {w : World} (h : ∀ W, W = w → bodyPost P f Q e a W) : bodyPost P f Q e a w := h w rfl
theorem forall8 {α : Sort _} {a b c d e f g h : α → Prop} (H : ∀ o, a o ∧ b o ∧ c o ∧ d o ∧ e o ∧ f o ∧ g o ∧ h o) : (∀ o, a o) ∧ (∀ o, b o) ∧ (∀ o, c o) ∧ (∀ o, d o) ∧ (∀ o, e o) ∧ (∀ o, f o) ∧ (∀ o, g o) ∧ (∀ o, h o) :=
  ⟨fun o => (H o).1, fun o => (H o).2.1, fun o => (H o).2.2.1, fun o => (H o).2.2.2.1, fun o => (H o).2.2.2.2.1, fun o => (H o).2.2.2.2.2.1, fun o => (H o).2.2.2.2.2.2.1, fun o => (H o).2.2.2.2.2.2.2⟩
set_option maxHeartbeats 1000000 in
set_option maxRecDepth 100000 in
theorem impl_num (n : Nat) (hn : n ≤ 19) (w : World) : Calls Try.prog 28 #[.int .i64 n] w fun e w' => ∃ va S, e = .returned (.tuple #[.agg #[.int .i64 (numO n), .string ⟨#[]⟩, .int .i64 0, va], .bool true]) ∧ OwL w' va (numA n) S ∧ (∀ k ∈ S, w.heap.size ≤ k) ∧ Below w.heap.size w w' := by
  go_enter Try.func28, Try.ntmps28
  go_wp2_with fail
  refine name_wp ?_
  intro W1 hW
  have sz : W1.heap.size = w.heap.size + 2 := by rw [hW]; simp
  have hb : Below w.heap.size w W1 := by rw [hW]; repeat (first | exact Below.refl _ _ | apply below_alloc)
  have hr : W1.heap[w.heap.size]? = some (.cells #[.int .i64 0, .string ⟨#[]⟩, .int .i64 0, .slice none 0 0] 35 (0, 0)) := by rw [hW]; exact (Go.Deep.blk_alloc_lt _ _ _ (by simp)).trans (blk_new w _)
  have ht : W1.heap[w.heap.size + 1]? = some (.cells #[.int .i64 0, .string ⟨#[]⟩, .int .i64 0, .slice none 0 0] 35 (0, 0)) := by
    have e : (w.alloc (.cells #[.int .i64 0, .string ⟨#[]⟩, .int .i64 0, .slice none 0 0] 35)).heap.size = w.heap.size + 1 := by simp
    rw [hW, ← e]
    exact blk_new _ _
  clear hW
  go_loopw [14] (fun i wr => ∃ j : Nat, j ≤ n ∧ i = .int .i64 j ∧ ∃ va S, Aside0 (wr.heap[w.heap.size]? = some (.cells #[.int .i64 0, .string ⟨#[]⟩, .int .i64 0, .slice none 0 0] 35 (0, 0))) ∧ Aside0 (wr.heap[w.heap.size + 1]? = some (.cells #[.int .i64 (numO j), .string ⟨#[]⟩, .int .i64 0, va] 35 (0, 0))) ∧ Aside0 (OwL wr va (numA j) S ∧ ∀ k ∈ S, w.heap.size + 2 ≤ k) ∧ Aside0 (Below w.heap.size w wr)) (fun i _ => n - (intOf i).toNat)
  case atStart => exact ⟨0, Nat.zero_le _, rfl, .slice none 0 0, [], ⟨hr⟩, ⟨ht⟩, ⟨OwL.nil _, fun k hk => by cases hk⟩, ⟨hb⟩⟩
  case round =>
    obtain ⟨j, hj, rfl, va, S, hr, ht, hO, hB⟩ := hrel
    obtain ⟨A, c, rfl, _, _⟩ := hO.out.1.rd
    generalize hl : (numA j).length = l at *
    obtain ⟨c0, f0, c1, f1, c2, f2, c3, f3⟩ := cells4 (i := 0) ht.out (by simp) (a := .int .i64 (numO j)) (b := .string ⟨#[]⟩) (c := .int .i64 0) (d := .slice A l c) rfl rfl rfl rfl
    by_cases hlt2 : j < n
    · have hq : ∀ o : Obj, ((wr.alloc o).cell? ⟨w.heap.size + 1, 0, none⟩ = some (.int .i64 (numO j)) ∧ (wr.alloc o).frozen? ⟨w.heap.size + 1, 0, none⟩ = false ∧ (wr.alloc o).cell? ⟨w.heap.size + 1, 1, none⟩ = some (.string ⟨#[]⟩) ∧ (wr.alloc o).frozen? ⟨w.heap.size + 1, 1, none⟩ = false ∧ (wr.alloc o).cell? ⟨w.heap.size + 1, 2, none⟩ = some (.int .i64 0) ∧ (wr.alloc o).frozen? ⟨w.heap.size + 1, 2, none⟩ = false ∧ (wr.alloc o).cell? ⟨w.heap.size + 1, 3, none⟩ = some (.slice A l c) ∧ (wr.alloc o).frozen? ⟨w.heap.size + 1, 3, none⟩ = false) := fun o =>
        cells4 (i := 0) ((Go.Deep.blk_alloc_lt _ _ _ (heap_lt ht.out)).trans ht.out) (by simp) rfl rfl rfl rfl
      obtain ⟨d0, d1, d2, d3, d4, d5, d6, d7⟩ := forall8 hq
      go_upto_region 7 with (fail)
      refine name_wp ?_
      intro W2 hW
      have h1 := (Go.Deep.blk_alloc_lt wr (.cells #[.int .i64 (numO j), .string ⟨#[]⟩, .int .i64 0, .slice A l c] 35) _ (heap_lt ht.out)).trans ht.out
      have g1 : W2.heap[w.heap.size + 1]? = some (.cells #[.int .i64 1, .string ⟨#[]⟩, .int .i64 0, .slice (some ⟨wr.heap.size, 0, none⟩) 1 1] 35 (0, 0)) := by
        rw [hW]
        exact set_at (set_at (set_at (set_at h1 _) _) _) _
      have ob : Stirs [w.heap.size + 1] (wr.alloc (.cells #[.int .i64 (numO j), .string ⟨#[]⟩, .int .i64 0, .slice A l c] 35)) W2 := by
        rw [hW]
        exact (((Stirs.set _ _ List.mem_cons_self).trans (Stirs.set _ _ List.mem_cons_self)).trans (Stirs.set _ _ List.mem_cons_self)).trans (Stirs.set _ _ List.mem_cons_self)
      have oc : Stirs [w.heap.size + 1] wr W2 := (Stirs.of_below (below_alloc (Below.refl _ _) _)).trans ob
      clear hW h1
      have hsz := heap_lt ht.out
      have g0 : W2.heap[w.heap.size]? = some (.cells #[.int .i64 0, .string ⟨#[]⟩, .int .i64 0, .slice none 0 0] 35 (0, 0)) := (oc.block _ (heap_lt hr.out) (by simp)).trans hr.out
      have gn : W2.heap[wr.heap.size]? = some (.cells #[.int .i64 (numO j), .string ⟨#[]⟩, .int .i64 0, .slice A l c] 35 (0, 0)) := (ob.block _ (by simp) (by simp; omega)).trans (blk_new _ _)
      have hS : OwL W2 (.slice A l c) (numA j) S := hO.out.1.frame (fun k hk => oc.block k (hO.out.1.lt k hk) (by have := hO.out.2 k hk; simp; omega))
      have hnew : OwL W2 (.slice (some ⟨wr.heap.size, 0, none⟩) 1 1) (numA (j + 1)) (wr.heap.size :: S) := OwL.one gn hS (fun hk => by have := hO.out.1.lt _ hk; omega)
      have hbel : Below w.heap.size w W2 := hB.out.trans (oc.below (n := w.heap.size) (by omega) (fun k hk => by simp at hk; omega))
      go_wp2_with fail
      go_roundw
      case rel =>
        exact ⟨j + 1, by omega, by go_num, .slice (some ⟨wr.heap.size, 0, none⟩) 1 1, wr.heap.size :: S, ⟨g0⟩, ⟨g1⟩, ⟨hnew, fun k hk => by
          rcases List.mem_cons.1 hk with rfl | hk
          · omega
          · exact hO.out.2 k hk⟩, ⟨hbel⟩⟩
      case measure => simp [intOf]; omega
    · obtain rfl : j = n := by omega
      obtain ⟨c0', f0', c1', f1', c2', f2', c3', f3'⟩ := cells4 (i := 0) hr.out (by simp) (a := .int .i64 0) (b := .string ⟨#[]⟩) (c := .int .i64 0) (d := .slice none 0 0) rfl rfl rfl rfl
      go_wp2_with fail
      refine name_post ?_
      intro W2 hW
      have g0 : W2.heap[w.heap.size]? = some (.cells #[.int .i64 (numO j), .string ⟨#[]⟩, .int .i64 0, .slice A l c] 35 (0, 0)) := by
        rw [hW]
        exact set_at (set_at (set_at (set_at hr.out _) _) _) _
      have ob : Stirs [w.heap.size] wr W2 := by
        rw [hW]
        exact (((Stirs.set _ _ List.mem_cons_self).trans (Stirs.set _ _ List.mem_cons_self)).trans (Stirs.set _ _ List.mem_cons_self)).trans (Stirs.set _ _ List.mem_cons_self)
      clear hW
      refine bodyPost_ret (results_ct rfl _ _ w.heap.size 35 #[.int .i64 (numO j), .string ⟨#[]⟩, .int .i64 0, .slice A l c] (0, 0) _ rfl g0 Try.underlying35 rfl (by kernel_rfl)) rfl ?_
      have hsz := heap_lt hr.out
      exact ⟨_, S, rfl, hO.out.1.frame (fun k hk => ob.block k (hO.out.1.lt k hk) (by have := hO.out.2 k hk; simp; omega)), fun k hk => by have := hO.out.2 k hk; omega, hB.out.trans (ob.below (n := w.heap.size) (by omega) (fun k hk => by simp at hk; omega))⟩
end Go.Proofs.Ytfnkobcmhbdcoaa.NumT
