/- The law Txns: its row, out of what is lifted. -/
import Derived.Test.YtemondlgcmpbbaaGreatDoorMX38
import Derived.ChangeSame
import Derived.ChangeVars
import Derived.JoinedOf
import Derived.RowKit
import Derived.RowKitTokens
import Derived.LaidLaws
import Derived.LaidHandle
import Derived.Stop.Joined
import Derived.Carry
import Derived.Deep.Slices
import Derived.ProofKit
namespace Go.Proofs.YtemondlgcmpbbaaGreatDoor
open Go.ChangeShapes Go.WideShapes Go.RowKit Go.Deep
set_option maxRecDepth 100000
theorem zuu (hl : ∀ (os : Os) (_ : os.Started) (H : Type) (enc : TypeId × Value -> H),
   ReturnsInHanded {} Tryz.checked os 13 .any (fun w args => (Rows.txnsSpec.pre enc Tryz.prog Tryz.f13 [] false w args /\ laidMetH Tryz.prog zgt w) /\ sizedMet enc Tryz.prog Tryz.f13 (OpenSpec.ofChange Rows.txnsSpec) false w args)
    (Rows.txnsSpec.post enc Tryz.prog Tryz.f13 false true false false)) : Rows.TxnsSaid :=
 OpenClaim.holds_of_wide 13 Tryz.f13 rfl rfl rfl rfl rfl rfl rfl ⟨rfl, rfl, rfl, rfl, rfl⟩ rfl rfl rfl rfl rfl (by kernel_rfl) Tryz.func13 (by kernel_rfl)
  (of_decide_eq_true (by kernel_rfl)) (by unfold Func.isWrapper; rw [if_neg (of_decide_eq_false (by kernel_rfl))]; exact ⟨rfl, rfl⟩)
  (fun os started H enc _ => hl os started H enc)
end Go.Proofs.YtemondlgcmpbbaaGreatDoor
