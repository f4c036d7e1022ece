/- How a term that is handed in lies in memory. -/
import Derived.Test.YtfnkobcmhbdcoaaSz
import Derived.ProofKit
import Derived.Lib.SmallJoins
namespace Go.Proofs.Ytfnkobcmhbdcoaa.ReadT
open Go.RowKit Go.Proofs.YtfnkobcmhbdcoaaW.PrintWords Go.Proofs.YtfnkobcmhbdcoaaW.PrintLast Go.Proofs.Ytfnkobcmhbdcoaa.Base Go.Proofs.Ytfnkobcmhbdcoaa.XTypes Go.Proofs.Ytfnkobcmhbdcoaa.Typed Go.Proofs.Ytfnkobcmhbdcoaa.Trees Go.Proofs.Ytfnkobcmhbdcoaa.Sz
open Go.ChangeShapes Go.WideShapes Go.ChangeAt
set_option linter.unusedVariables false
set_option linter.unusedSimpArgs false

theorem addr_add (a : Addr) (i j : Nat) : (a.add i).add j = a.add (i + j) := by
  unfold Addr.add
  by_cases hi : i = 0
  · subst hi; simp
  · by_cases hj : j = 0
    · subst hj; simp
    · simp [hi, hj, Nat.add_assoc]
theorem cellsT : Try.prog.cellsOf 55 = 4 := by kernel_rfl
theorem cells3 : Try.prog.cellsOf 3 = 1 := by kernel_rfl
theorem cellsS : Try.prog.cellsOf 9 = 1 := by kernel_rfl
theorem cellsL : Try.prog.cellsOf 53 = 1 := by kernel_rfl
set_option maxRecDepth 100000 in
theorem parts4 {H : Type} {enc : TypeId × Value → H} {w : World} {held : Bool} {fuel : Nat} {cs : List Value} {x : DataW H × List MemPlace} (h : DataW.trod enc Try.prog w 0 (fun _ => true) held fuel 55 cs = some x) :
    ∃ c0 c1 c2 c3 y0 y1 y2 y3 n, fuel = n + 1 ∧ cs = [c0, c1, c2, c3] ∧ DataW.trod enc Try.prog w 0 (fun _ => true) held n 3 [c0] = some y0 ∧ DataW.trod enc Try.prog w 0 (fun _ => true) held n 9 [c1] = some y1 ∧
      DataW.trod enc Try.prog w 0 (fun _ => true) held n 3 [c2] = some y2 ∧ DataW.trod enc Try.prog w 0 (fun _ => true) held n 53 [c3] = some y3 := by
  obtain ⟨xs, n, hn, _, hl, hlen, hf⟩ := DataW.trod_struct Try.underlying55 h
  rw [cellsT] at hl
  match cs, hl, xs, hlen with
  | [c0, c1, c2, c3], _, [y0, y1, y2, y3], _ =>
    have h0 := hf 0 _ rfl
    have h1 := hf 1 _ rfl
    have h2 := hf 2 _ rfl
    have h3 := hf 3 _ rfl
    exact ⟨c0, c1, c2, c3, y0, y1, y2, y3, n, hn, rfl, h0, h1, h2, h3⟩
theorem FitL_snoc {ts : List L} {t : L} (h : FitL ts) (ht : FitT t) : FitL (ts ++ [t]) := by
  induction ts with
  | nil => simp only [List.nil_append, FitL]; exact ⟨ht, trivial⟩
  | cons a ts ih =>
    simp only [List.cons_append, FitL] at h ⊢
    exact ⟨h.1, ih h.2⟩
/-- A term's cells, a term's row: by the reading's own depth. -/
theorem rd_both {H : Type} {enc : TypeId × Value → H} {w : World} {held : Bool} : ∀ fuel : Nat,
    (∀ (cs : List Value) (x : DataW H × List MemPlace), DataW.trod enc Try.prog w 0 (fun _ => true) held fuel 55 cs = some x → ∃ t : L, kL.K w t cs ∧ FitT t) ∧
    (∀ (v : Value) (x : DataW H × List MemPlace), DataW.trod enc Try.prog w 0 (fun _ => true) held fuel 53 [v] = some x → ∃ ts : List L, RdK w v ts ∧ FitL ts) := by
  intro fuel
  induction fuel using Nat.strongRecOn with
  | _ fuel ih =>
    constructor
    · intro cs x h
      obtain ⟨c0, c1, c2, c3, y0, y1, y2, y3, n, rfl, rfl, h0, h1, h2, h3⟩ := parts4 h
      obtain ⟨n0, e0, _, _⟩ := DataW.trod_int Try.underlying3 h0
      obtain ⟨s1, e1, _, hs⟩ := DataW.trod_string Try.underlying9 h1
      obtain ⟨n2, e2, _, _⟩ := DataW.trod_int Try.underlying3 h2
      obtain rfl : c0 = .int .i64 n0 := by simpa using e0
      obtain rfl : c1 = .string s1 := by simpa using e1
      obtain rfl : c2 = .int .i64 n2 := by simpa using e2
      obtain ⟨ts, ⟨A, c, rfl, hc, hC⟩, hF⟩ := (ih n (by omega)).2 c3 _ h3
      exact ⟨⟨n0, s1, n2, ts⟩, k55_mk w ⟨n0, s1, n2, ts⟩ hc hC, by simp only [FitT]; exact ⟨by unfold maxLen at hs; omega, hF⟩⟩
    · intro v x h
      rcases DataW.trod_slice Try.underlying53 h with ⟨hcs, _⟩ | ⟨a, len, cap, elems, rest, n, rfl, hcs, _, _, hl, hm, hel, hget, _, _⟩
      · obtain rfl : v = .slice none 0 0 := by simpa using hcs
        exact ⟨[], ⟨none, 0, rfl, Nat.le_refl _, rfl, by simp, fun h => by simp at h⟩, by simp [FitL]⟩
      · obtain rfl : v = .slice (some a) len cap := by simpa using hcs
        have key : ∀ m, m ≤ len → ∃ ts : List L, ts.length = m ∧ FitL ts ∧ ∀ (j : Nat) t, ts[j]? = some t → ∃ c, c.length = 4 ∧ kL.K w t c ∧ ∀ i u, c[i]? = some u → w.cell? (a.add (j * 4 + i)) = some u := by
          intro m
          induction m with
          | zero => intro _; exact ⟨[], rfl, by simp [FitL], fun j t hj => by simp at hj⟩
          | succ m ihm =>
            intro hm'
            obtain ⟨ts, htl, hfit, hts⟩ := ihm (by omega)
            have h1 := hget m (by omega)
            rw [cellsT] at h1
            have h2 : elems[m]? = some (elems[m]'(by omega)) := List.getElem?_eq_getElem (by omega)
            rw [h2] at h1
            obtain ⟨cs, hcs, hx⟩ := Option.bind_eq_some_iff.1 h1
            obtain ⟨t, hK, hF⟩ := (ih n (by omega)).1 cs _ hx
            obtain ⟨_, hcl, hcc⟩ := World.cells?_some hcs
            refine ⟨ts ++ [t], by simp [htl], FitL_snoc hfit hF, fun j u hj => ?_⟩
            by_cases hjm : j < ts.length
            · rw [List.getElem?_append_left hjm] at hj
              exact hts j u hj
            · have hjl := (List.getElem?_eq_some_iff.1 hj).1
              simp at hjl
              obtain rfl : j = ts.length := by omega
              rw [List.getElem?_append_right (Nat.le_refl _)] at hj
              obtain rfl : t = u := by simpa using hj
              refine ⟨cs, hcl, hK, fun i u hi => ?_⟩
              have hil : i < 4 := by have := (List.getElem?_eq_some_iff.1 hi).1; omega
              have := hcc i hil
              rw [addr_add, ← htl] at this
              rw [this, hi]
        obtain ⟨ts, htl, hfit, hts⟩ := key len (Nat.le_refl _)
        subst htl
        refine ⟨ts, ⟨some a, cap, rfl, hl, rfl, by unfold maxLen at hm; omega, fun _ => ⟨a, rfl, hts⟩⟩, hfit⟩
set_option maxRecDepth 100000 in
/-- A term by value, opened. -/
theorem open_term {H : Type} {enc : TypeId × Value → H} {w : World} {held : Bool} {r : Reach} {b0 : Nat} {v : Value} {d : DataW H} {p : List MemPlace} (hv : Value.okWide Try.prog w r b0 55 v) (h : DataW.Trod enc Try.prog w 0 (fun _ => true) held 55 v d p) :
    ∃ (t : L) (u : Value), v = .agg #[.int .i64 t.f0, .string t.f1, .int .i64 t.f2, u] ∧ RdK w u t.f3 ∧ FitT t := by
  obtain ⟨cs, rfl, hsz⟩ := okWide_struct Try.underlying55 hv
  obtain ⟨fuel, hf⟩ := h
  obtain ⟨t, hK, hF⟩ := (rd_both fuel).1 _ _ hf
  obtain ⟨A3, c3, he, hl, hC⟩ := k55_open hK
  refine ⟨t, .slice A3 t.f3.length c3, ?_, ⟨A3, c3, rfl, hl, hC⟩, hF⟩
  have : cs.toList = [.int .i64 t.f0, .string t.f1, .int .i64 t.f2, .slice A3 t.f3.length c3] := by simpa [Value.cells] using he
  rw [← Array.toList_inj.1 (this.trans rfl : cs.toList = (#[.int .i64 t.f0, .string t.f1, .int .i64 t.f2, .slice A3 t.f3.length c3] : Array Value).toList)]
end Go.Proofs.Ytfnkobcmhbdcoaa.ReadT
