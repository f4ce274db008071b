/- Contracts of Go functions that the law FnDigitsTellNumbers reaches: each call does what the Lean function beside it says. Written by a program of this session (wip/gen). -/
import Derived.Test.YthamjbfdhghbbaaPFnDigitsTellNumbersx0
import Derived.Test.YthamjbfdhghbbaaPFnDigitsTellNumbersx1
import Derived.Test.YthamjbfdhghbbaaPFnDigitsTellNumbersx2
import Derived.Test.YthamjbfdhghbbaaPFnDigitsTellNumbersx3
import Derived.Test.YthamjbfdhghbbaaPFnDigitsTellNumbersx4
import Derived.Test.YthamjbfdhghbbaaPFnDigitsTellNumbersx5
import Derived.Test.YthamjbfdhghbbaaPFnDigitsTellNumbersx6
import Derived.Test.YthamjbfdhghbbaaPFnDigitsTellNumbersx7
import Derived.Test.YthamjbfdhghbbaaPFnDigitsTellNumbersx8
import Derived.Test.YthamjbfdhghbbaaPFnDigitsTellNumbersx9
namespace Go.Proofs.Ythamjbfdhghbbaa.PFnDigitsTellNumbers
open Go.RowKit Go.Proofs.YthamjbfdhghbbaaW.PrintWords Go.Proofs.YthamjbfdhghbbaaW.PrintLast Go.Proofs.YthamjbfdhghbbaaW.PrintMore
attribute [local go_sem] max2_int min2_int max_two min_two max_three min_three max_four min_four   -- for this text's walks alone
set_option linter.unusedVariables false
set_option linter.unusedSimpArgs false

end Go.Proofs.Ythamjbfdhghbbaa.PFnDigitsTellNumbers
