/- Contracts of Go functions that the law FnParityWords reaches: each call does what the Lean function beside it says. Written by a program of this session (wip/gen). -/
import Derived.Test.YthamjbfdhghbbaaPFnParityWordsx0
import Derived.Test.YthamjbfdhghbbaaPFnParityWordsx1
import Derived.Test.YthamjbfdhghbbaaPFnParityWordsx2
import Derived.Test.YthamjbfdhghbbaaPFnParityWordsx3
import Derived.Test.YthamjbfdhghbbaaPFnParityWordsx4
import Derived.Test.YthamjbfdhghbbaaPFnParityWordsx5
namespace Go.Proofs.Ythamjbfdhghbbaa.PFnParityWords
open Go.RowKit Go.Proofs.YthamjbfdhghbbaaW.PrintWords Go.Proofs.YthamjbfdhghbbaaW.PrintLast Go.Proofs.YthamjbfdhghbbaaW.PrintMore
attribute [local go_sem] max2_int min2_int max_two min_two max_three min_three max_four min_four   -- for this text's walks alone
set_option linter.unusedVariables false
set_option linter.unusedSimpArgs false

end Go.Proofs.Ythamjbfdhghbbaa.PFnParityWords
