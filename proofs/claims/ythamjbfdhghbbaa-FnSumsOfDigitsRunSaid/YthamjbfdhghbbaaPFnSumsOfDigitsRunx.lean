/- Contracts of Go functions that the law FnSumsOfDigitsRun reaches: each call does what the Lean function beside it says. Written by a program of this session (wip/gen). -/
import Derived.Test.YthamjbfdhghbbaaPFnSumsOfDigitsRunx0
import Derived.Test.YthamjbfdhghbbaaPFnSumsOfDigitsRunx1
import Derived.Test.YthamjbfdhghbbaaPFnSumsOfDigitsRunx2
import Derived.Test.YthamjbfdhghbbaaPFnSumsOfDigitsRunx3
import Derived.Test.YthamjbfdhghbbaaPFnSumsOfDigitsRunx4
import Derived.Test.YthamjbfdhghbbaaPFnSumsOfDigitsRunx5
import Derived.Test.YthamjbfdhghbbaaPFnSumsOfDigitsRunx6
namespace Go.Proofs.Ythamjbfdhghbbaa.PFnSumsOfDigitsRun
open Go.RowKit Go.Proofs.YthamjbfdhghbbaaW.PrintWords Go.Proofs.YthamjbfdhghbbaaW.PrintLast Go.Proofs.YthamjbfdhghbbaaW.PrintMore
attribute [local go_sem] max2_int min2_int max_two min_two max_three min_three max_four min_four   -- for this text's walks alone
set_option linter.unusedVariables false
set_option linter.unusedSimpArgs false

end Go.Proofs.Ythamjbfdhghbbaa.PFnSumsOfDigitsRun
