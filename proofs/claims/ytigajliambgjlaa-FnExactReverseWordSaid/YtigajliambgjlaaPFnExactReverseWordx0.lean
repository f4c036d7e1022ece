-- PRINTED BY print.sh 35421559b90ae4d0a3588c463048766b98c2df88dd9212a6774a882060cdf62d: not written by this session
import Derived.Test.YtigajliambgjlaaProg
import Derived.Below
import Derived.Deep.Draws
import Derived.Deep.AppendLies
import Derived.Maps.AppendAt
import Derived.OwnWalk
import Derived.Laws.BytesArg
import Derived.Laws.MakeOwn
import Derived.Laws.OwnMore
import Derived.Deep.OwnRows
import Derived.Tactics
import Derived.Lib.ConvBytes
import Derived.Laws.Slices
import Derived.WalkKit
import Derived.KernelRfl
import Derived.RowKit3
import Derived.Deep.LoopGhost
import Derived.Deep.QuietTactic
import Derived.BigQuiet
import Derived.WideLaws
import Derived.Deep.DeepCutAuto
import Derived.Deep.CutBlock
import Derived.Deep.RegionHeld3
import Derived.Laws.Rows
import Derived.Lib.AppendStr
import Derived.ArgAppend
import Derived.Laws.IdiomCopy
import Derived.OrdersHeld
import Derived.Laws.BitsLemmas
import Derived.RowKit
import Derived.Test.YtigajliambgjlaaWWords
import Derived.Test.YtigajliambgjlaaWLast
import Derived.Test.YtigajliambgjlaaWTab
import Derived.Test.YtigajliambgjlaaWFour
import Derived.Test.YtigajliambgjlaaWQPut
import Derived.Test.YtigajliambgjlaaWApart
import Derived.Test.YtigajliambgjlaaWArr
import Derived.Test.YtigajliambgjlaaWZeros
import Derived.Test.YtigajliambgjlaaWFoot
import Derived.Test.YtigajliambgjlaaWKept
import Derived.Test.YtigajliambgjlaaWShare
import Derived.Test.YtigajliambgjlaaWN
import Derived.Test.YtigajliambgjlaaWFootNe
import Derived.Test.YtigajliambgjlaaWAt
import Derived.Test.YtigajliambgjlaaWEqStruct
import Derived.Test.YtigajliambgjlaaWRepsOne
import Derived.Test.YtigajliambgjlaaWInv
import Derived.Test.YtigajliambgjlaaWInvWords
import Derived.Test.YtigajliambgjlaaWGuard
import Derived.Test.YtigajliambgjlaaWNEv
import Derived.Test.YtigajliambgjlaaWMore
namespace Go.Proofs.Ytigajliambgjlaa.PFnExactReverseWord
open Go.RowKit Go.Proofs.YtigajliambgjlaaW.PrintWords Go.Proofs.YtigajliambgjlaaW.PrintLast Go.Proofs.YtigajliambgjlaaW.PrintMore
attribute [local go_sem] max2_int min2_int max_two min_two max_three min_three max_four min_four   -- for this text's walks alone
set_option linter.unusedVariables false
set_option linter.unusedSimpArgs false



def errW : Option Int → Value
  | none => .nilIface
  | some c => .iface 0 (.int .i64 c)
theorem errW_none : errW none = .nilIface := rfl
theorem errW_some (c : Int) : errW (some c) = .iface 0 (.int .i64 c) := rfl

theorem info5 : (Try.prog.info? 5).map (fun i => (i.zero, i.size, i.bytes)) = some (some (.int .u8 0), 1, 1) := by kernel_rfl
-- the values' own types

end Go.Proofs.Ytigajliambgjlaa.PFnExactReverseWord
