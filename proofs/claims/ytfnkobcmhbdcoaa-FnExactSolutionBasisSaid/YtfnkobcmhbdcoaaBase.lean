/- Shared words: how an element of a slice that is read lies in memory. -/
import Derived.Test.YtfnkobcmhbdcoaaProg
import Derived.Test.YtfnkobcmhbdcoaaWMore
import Derived.Test.YtfnkobcmhbdcoaaWNEv
import Derived.Test.YtfnkobcmhbdcoaaWZeros
import Derived.Test.YtfnkobcmhbdcoaaWAt
import Derived.Test.YtfnkobcmhbdcoaaWInvWords
import Derived.Test.YtfnkobcmhbdcoaaWGuard
import Derived.WalkKit
import Derived.Deep.LoopGhost
import Derived.Deep.QuietTactic
import Derived.BigQuiet
import Derived.WalkLawsBesides
import Derived.Lib.Hide
import Derived.Outline
namespace Go.Proofs.Ytfnkobcmhbdcoaa.Base
open Go.RowKit Go.Proofs.YtfnkobcmhbdcoaaW.PrintWords Go.Proofs.YtfnkobcmhbdcoaaW.PrintLast Go.Proofs.YtfnkobcmhbdcoaaW.PrintMore
set_option linter.unusedVariables false
set_option linter.unusedSimpArgs false
set_option linter.unnecessarySimpa false

theorem wrap_id {x : Int} (h0 : -9223372036854775808 ≤ x) (h1 : x ≤ 9223372036854775807) : wrap64 x = x := by unfold wrap64; omega

/-- An element of a row of rows of integers. -/
def rdr (xss : List (List Int)) (i : Int) : List Int := xss.getD i.toNat []
theorem row_at {w : World} {A : Option Addr} {n : Nat} {xss : List (List Int)} (h : Kd.C (Kd.slice 3 (Kd.int .i64)) w A n xss) (i : Int) (h0 : 0 ≤ i) (h1 : i < n) :
    ∃ ad A0 c0, A = some ad ∧ w.cell? (ad.add i.toNat) = some (.slice A0 (rdr xss i).length c0) ∧ (rdr xss i).length ≤ c0 ∧ (Kd.int .i64).C w A0 (rdr xss i).length (rdr xss i) := by
  obtain ⟨ad, c, e, _, hK, hc0⟩ := Kd.C_get h ([] : List Int) i h0 h1
  have hc : ∀ j u, c[j]? = some u → w.cell? (ad.add (i.toNat * 1 + j)) = some u := hc0
  obtain ⟨A0, c0, rfl, l0, g0⟩ := hK
  exact ⟨ad, A0, c0, e, by have hq := hc 0 _ rfl; rwa [Nat.mul_one, Nat.add_zero] at hq, l0, g0⟩
theorem info_int : (Try.prog.info? 3).map (fun i => (i.zero, i.size, i.bytes)) = some (some (.int .i64 0), 1, 8) := by kernel_rfl
end Go.Proofs.Ytfnkobcmhbdcoaa.Base
