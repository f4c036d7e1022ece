/- How the arguments' readings lie in memory, in the words of Typed. -/
import Derived.Test.YtfnkobcmhbdcoaaTyped
import Derived.ProofKit
import Derived.Lib.SmallJoins
namespace Go.Proofs.Ytfnkobcmhbdcoaa.Reads
open Go.RowKit Go.Proofs.YtfnkobcmhbdcoaaW.PrintWords Go.Proofs.YtfnkobcmhbdcoaaW.PrintLast Go.Proofs.Ytfnkobcmhbdcoaa.Base Go.Proofs.Ytfnkobcmhbdcoaa.Typed
open Go.ChangeShapes Go.WideShapes Go.ChangeAt
set_option linter.unusedVariables false
set_option linter.unusedSimpArgs false

theorem rd_ints {H : Type} {enc : TypeId × Value → H} {w : World} {held : Bool} {t e : TypeId} {fuel : Nat} {v : Value} {x : DataW H × List MemPlace} (ht : Try.prog.underlying t = some (.slice e)) (he : Try.prog.underlying e = some (.int .i64)) (hc : Try.prog.cellsOf e = 1)
    (h : DataW.trod enc Try.prog w 0 (fun _ => true) held fuel t [v] = some x) : ∃ l, RdI w v l := by
  rcases open_ints ht he hc h with ⟨hcs, _⟩ | ⟨a, l, c, zs, hcs, _, hl, hm, hz, _, hcell, hwz⟩
  · obtain rfl : v = .slice none 0 0 := by simpa using hcs
    exact ⟨[], none, 0, rfl, Nat.le_refl _, rfl, by simp, fun h => by simp at h⟩
  · obtain rfl : v = .slice (some a) l c := by simpa using hcs
    obtain ⟨l0, e0, hr0, hm0, hw0, hc0⟩ := ReadsInt.ofRowC (a := some a) (len := l) (cap := c) (zs := zs) (k := .i64) (w := w) (.inr ⟨a, rfl, hl, hm, by simpa using hz, hcell, hwz⟩)
    subst e0
    exact ⟨l0, some a, c, rfl, hc0, Kd.C_of_reads (d := (0 : Int)) (h1 := fun _ => rfl) hr0⟩
end Go.Proofs.Ytfnkobcmhbdcoaa.Reads
