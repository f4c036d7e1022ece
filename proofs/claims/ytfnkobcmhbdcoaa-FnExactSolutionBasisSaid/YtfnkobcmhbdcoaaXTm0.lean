-- Written by this session's program xprint.py out of the translation; not trusted: Lean checks it.
import Derived.Test.YtfnkobcmhbdcoaaXTypes0
import Derived.Test.YtfnkobcmhbdcoaaXInts1
namespace Go.Proofs.Ytfnkobcmhbdcoaa.XTm
open Go.RowKit Go.Proofs.YtfnkobcmhbdcoaaW.PrintWords Go.Proofs.YtfnkobcmhbdcoaaW.PrintLast Go.Proofs.YtfnkobcmhbdcoaaW.PrintMore
attribute [local go_sem] max2_int min2_int max_two min_two max_three min_three max_four min_four   -- for this text's walks alone
set_option linter.unusedVariables false
set_option linter.unusedSimpArgs false
open Go.Proofs.Ytfnkobcmhbdcoaa.XInts Go.Proofs.Ytfnkobcmhbdcoaa.XTypes

end Go.Proofs.Ytfnkobcmhbdcoaa.XTm
