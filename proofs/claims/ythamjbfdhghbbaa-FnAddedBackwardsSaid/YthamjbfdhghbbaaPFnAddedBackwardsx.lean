/- Contracts of Go functions that the law FnAddedBackwards reaches: each call does what the Lean function beside it says. Written by a program of this session (wip/gen). -/
import Derived.Test.YthamjbfdhghbbaaPFnAddedBackwardsx0
import Derived.Test.YthamjbfdhghbbaaPFnAddedBackwardsx1
import Derived.Test.YthamjbfdhghbbaaPFnAddedBackwardsx2
import Derived.Test.YthamjbfdhghbbaaPFnAddedBackwardsx3
import Derived.Test.YthamjbfdhghbbaaPFnAddedBackwardsx4
import Derived.Test.YthamjbfdhghbbaaPFnAddedBackwardsx5
import Derived.Test.YthamjbfdhghbbaaPFnAddedBackwardsx6
import Derived.Test.YthamjbfdhghbbaaPFnAddedBackwardsx7
import Derived.Test.YthamjbfdhghbbaaPFnAddedBackwardsx8
import Derived.Test.YthamjbfdhghbbaaPFnAddedBackwardsx9
import Derived.Test.YthamjbfdhghbbaaPFnAddedBackwardsx10
namespace Go.Proofs.Ythamjbfdhghbbaa.PFnAddedBackwards
open Go.RowKit Go.Proofs.YthamjbfdhghbbaaW.PrintWords Go.Proofs.YthamjbfdhghbbaaW.PrintLast Go.Proofs.YthamjbfdhghbbaaW.PrintMore
attribute [local go_sem] max2_int min2_int max_two min_two max_three min_three max_four min_four   -- for this text's walks alone
set_option linter.unusedVariables false
set_option linter.unusedSimpArgs false

end Go.Proofs.Ythamjbfdhghbbaa.PFnAddedBackwards
