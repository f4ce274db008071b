/- Contracts of Go functions that the law FnProperRuns reaches: each call does what the Lean function beside it says. Written by a program of this session (wip/gen). -/
import Derived.Test.YthamjbfdhghbbaaPFnProperRunsx0
import Derived.Test.YthamjbfdhghbbaaPFnProperRunsx1
import Derived.Test.YthamjbfdhghbbaaPFnProperRunsx2
import Derived.Test.YthamjbfdhghbbaaPFnProperRunsx3
import Derived.Test.YthamjbfdhghbbaaPFnProperRunsx4
import Derived.Test.YthamjbfdhghbbaaPFnProperRunsx5
import Derived.Test.YthamjbfdhghbbaaPFnProperRunsx6
import Derived.Test.YthamjbfdhghbbaaPFnProperRunsx7
import Derived.Test.YthamjbfdhghbbaaPFnProperRunsx8
namespace Go.Proofs.Ythamjbfdhghbbaa.PFnProperRuns
open Go.RowKit Go.Proofs.YthamjbfdhghbbaaW.PrintWords Go.Proofs.YthamjbfdhghbbaaW.PrintLast Go.Proofs.YthamjbfdhghbbaaW.PrintMore
attribute [local go_sem] max2_int min2_int max_two min_two max_three min_three max_four min_four   -- for this text's walks alone
set_option linter.unusedVariables false
set_option linter.unusedSimpArgs false

end Go.Proofs.Ythamjbfdhghbbaa.PFnProperRuns
