/- The laid variable. -/
import Derived.Test.YtemondlgcmpbbaaGreatDoorRows
import Derived.ChangeSame
import Derived.ChangeVars
import Derived.JoinedOf
import Derived.RowKit
import Derived.RowKitTokens
import Derived.LaidLaws
import Derived.LaidHandle
import Derived.Stop.Joined
import Derived.Carry
import Derived.Deep.Slices
import Derived.ProofKit
namespace Go.Proofs.YtemondlgcmpbbaaGreatDoor
open Go.ChangeShapes Go.WideShapes Go.RowKit Go.Deep
set_option maxRecDepth 100000
def zgt : List (String × DataW Unit) := [("errors.errorType", Rows.laid_errors_errorType)]
end Go.Proofs.YtemondlgcmpbbaaGreatDoor
