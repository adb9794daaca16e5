/- The reference: what a change does to a pocket; valid spans, lots, members. -/
import Derived.Deep.DeepCutAuto
import Derived.Test.YtepldjidkomclaaGreatJARf0
import Derived.Test.YtepldjidkomclaaGreatJAStk2
namespace Go.Proofs.YtepldjidkomclaaGreat.St
set_option linter.unusedSimpArgs false
set_option linter.unusedVariables false
open Go.RowKit Go.Shelf
attribute [local go_sem] Oper.semAt_some
end Go.Proofs.YtepldjidkomclaaGreat.St
