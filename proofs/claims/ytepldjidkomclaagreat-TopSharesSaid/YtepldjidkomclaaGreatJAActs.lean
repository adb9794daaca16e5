/- A list of calls as the laws' argument. Sample: the numbers that a seed draws. -/
import Derived.Test.YtepldjidkomclaaGreatJARf0
import Derived.Test.YtepldjidkomclaaGreatJARow
import Derived.Test.YtepldjidkomclaaGreatJAOpen
import Derived.Test.YtepldjidkomclaaGreatJASmp2
import Derived.Test.YtepldjidkomclaaGreatJAReg
namespace Go.Proofs.YtepldjidkomclaaGreat.St
set_option linter.unusedSimpArgs false
set_option linter.unusedVariables false
open Go.RowKit Go.ChangeShapes Go.WideShapes
end Go.Proofs.YtepldjidkomclaaGreat.St
namespace Go.Proofs.YtepldjidkomclaaGreat.St
set_option linter.unusedSimpArgs false
set_option linter.unusedVariables false
open Go.RowKit
attribute [local go_sem] Oper.semAt_some
end Go.Proofs.YtepldjidkomclaaGreat.St
