/- WHAT IS PROVED HERE: the tied card of shadowlaw.Moves: whatever the script, Moves answers true, and the script reads behind the call as it read before. -/
import Derived.Test.YtemondlgcmpbbaaGreatDoorMV41
import Derived.Test.YtemondlgcmpbbaaGreatDoorMV42
import Derived.Test.YtemondlgcmpbbaaGreatDoorMV43
namespace Go.Proofs.YtemondlgcmpbbaaGreatDoor
open Go
set_option maxRecDepth 100000
theorem moves_card : Rows.MovesCardSaid := zmr (zv1 zof)
#print axioms moves_card
end Go.Proofs.YtemondlgcmpbbaaGreatDoor
