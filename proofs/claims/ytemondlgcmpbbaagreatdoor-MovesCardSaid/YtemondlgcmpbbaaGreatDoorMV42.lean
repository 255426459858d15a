/- The law Moves: its row, out of what is lifted. -/
import Derived.Test.YtemondlgcmpbbaaGreatDoorMV40
import Derived.ChangeSame
import Derived.ChangeVars
import Derived.JoinedOf
import Derived.RowKit
import Derived.RowKitTokens
import Derived.LaidLaws
import Derived.LaidHandle
import Derived.Stop.Joined
import Derived.Carry
import Derived.Deep.Slices
import Derived.ProofKit
namespace Go.Proofs.YtemondlgcmpbbaaGreatDoor
open Go.ChangeShapes Go.WideShapes Go.RowKit Go.Deep
set_option maxRecDepth 100000
theorem zv1 (hl : ∀ (os : Os) (_ : os.Started) (H : Type) (enc : TypeId × Value -> H),
   ReturnsInHanded {} Tryz.checked os 14 .any (fun w args => (Rows.movesSpec.pre enc Tryz.prog Tryz.f14 [] false w args /\ laidMetH Tryz.prog zhp w) /\ sizedMet enc Tryz.prog Tryz.f14 (OpenSpec.ofChange Rows.movesSpec) false w args)
    (Rows.movesSpec.post enc Tryz.prog Tryz.f14 false true false false)) : Rows.MovesSaid :=
 OpenClaim.holds_of_wide 14 Tryz.f14 rfl rfl rfl rfl rfl rfl rfl ⟨rfl, rfl, rfl, rfl, rfl⟩ rfl rfl rfl rfl rfl (by kernel_rfl) Tryz.func14 (by kernel_rfl)
  (of_decide_eq_true (by kernel_rfl)) (by unfold Func.isWrapper; rw [if_neg (of_decide_eq_false (by kernel_rfl))]; exact ⟨rfl, rfl⟩)
  (fun os started H enc _ => hl os started H enc)
end Go.Proofs.YtemondlgcmpbbaaGreatDoor
