/- Written by a program of this session (wip/tools/px.py), which runs the print of the kit beside contracts that were proved by hand: each Go function as a Lean function, and that the machine comes to its answers. -/
import Derived.Test.YtkmbpakhbicnaaaDoorPDgx0
import Derived.Test.YtkmbpakhbicnaaaDoorPDgx1
import Derived.Test.YtkmbpakhbicnaaaDoorPDgx2
namespace Go.Proofs.YtkmbpakhbicnaaaDoor.PDg
open Go.RowKit Go.Proofs.YtkmbpakhbicnaaaDoorW.PrintWords Go.Proofs.YtkmbpakhbicnaaaDoorW.PrintLast Go.Proofs.YtkmbpakhbicnaaaDoorW.PrintMore
attribute [local go_sem] max2_int min2_int max_two min_two max_three min_three max_four min_four   -- for this text's walks alone
set_option linter.unusedVariables false
set_option linter.unusedSimpArgs false

end Go.Proofs.YtkmbpakhbicnaaaDoor.PDg
