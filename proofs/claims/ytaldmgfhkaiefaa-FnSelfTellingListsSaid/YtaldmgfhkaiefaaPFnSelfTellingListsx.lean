/- Contracts of Go functions that the law FnSelfTellingLists reaches: each call does what the Lean function beside it says. Written by a program of this session (wip/gen). -/
import Derived.Test.YtaldmgfhkaiefaaPFnSelfTellingListsx0
import Derived.Test.YtaldmgfhkaiefaaPFnSelfTellingListsx1
import Derived.Test.YtaldmgfhkaiefaaPFnSelfTellingListsx2
import Derived.Test.YtaldmgfhkaiefaaPFnSelfTellingListsx3
import Derived.Test.YtaldmgfhkaiefaaPFnSelfTellingListsx4
import Derived.Test.YtaldmgfhkaiefaaPFnSelfTellingListsx5
namespace Go.Proofs.Ytaldmgfhkaiefaa.PFnSelfTellingLists
open Go.RowKit Go.Proofs.YtaldmgfhkaiefaaW.PrintWords Go.Proofs.YtaldmgfhkaiefaaW.PrintLast Go.Proofs.YtaldmgfhkaiefaaW.PrintMore
attribute [local go_sem] max2_int min2_int max_two min_two max_three min_three max_four min_four   -- for this text's walks alone
set_option linter.unusedVariables false
set_option linter.unusedSimpArgs false

end Go.Proofs.Ytaldmgfhkaiefaa.PFnSelfTellingLists
