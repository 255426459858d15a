/- WHAT IS PROVED HERE: the tied card of shadowlaw.Txns: whatever the script, Txns answers true, and the script reads behind the call as it read before. -/
import Derived.Test.YtemondlgcmpbbaaGreatDoorMX39
import Derived.Test.YtemondlgcmpbbaaGreatDoorMX40
import Derived.Test.YtemondlgcmpbbaaGreatDoorMX41
namespace Go.Proofs.YtemondlgcmpbbaaGreatDoor
open Go
set_option maxRecDepth 100000
theorem txns_card : Rows.TxnsCardSaid := zmy (zuu znz)
#print axioms txns_card
end Go.Proofs.YtemondlgcmpbbaaGreatDoor
