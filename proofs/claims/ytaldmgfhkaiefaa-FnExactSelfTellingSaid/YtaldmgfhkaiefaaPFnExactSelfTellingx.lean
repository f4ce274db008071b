/- Contracts of Go functions that the law FnExactSelfTelling reaches: each call does what the Lean function beside it says. Written by a program of this session (wip/gen). -/
import Derived.Test.YtaldmgfhkaiefaaPFnExactSelfTellingx0
import Derived.Test.YtaldmgfhkaiefaaPFnExactSelfTellingx1
import Derived.Test.YtaldmgfhkaiefaaPFnExactSelfTellingx2
import Derived.Test.YtaldmgfhkaiefaaPFnExactSelfTellingx3
namespace Go.Proofs.Ytaldmgfhkaiefaa.PFnExactSelfTelling
open Go.RowKit Go.Proofs.YtaldmgfhkaiefaaW.PrintWords Go.Proofs.YtaldmgfhkaiefaaW.PrintLast Go.Proofs.YtaldmgfhkaiefaaW.PrintMore
attribute [local go_sem] max2_int min2_int max_two min_two max_three min_three max_four min_four   -- for this text's walks alone
set_option linter.unusedVariables false
set_option linter.unusedSimpArgs false

end Go.Proofs.Ytaldmgfhkaiefaa.PFnExactSelfTelling
