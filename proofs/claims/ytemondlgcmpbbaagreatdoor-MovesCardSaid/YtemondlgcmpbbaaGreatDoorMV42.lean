/- The law Moves: its row, out of what is lifted. -/
import Derived.Test.YtemondlgcmpbbaaGreatDoorMV40
import Derived.ChangeSame
import Derived.ChangeVars
import Derived.JoinedOf
import Derived.RowKit
import Derived.RowKitTokens
import Derived.LaidLaws
import Derived.LaidHandle
import Derived.Stop.Joined
import Derived.Carry
import Derived.Deep.Slices
import Derived.ProofKit
namespace Go.Proofs.YtemondlgcmpbbaaGreatDoor
open Go.ChangeShapes Go.WideShapes Go.RowKit Go.Deep
set_option maxRecDepth 100000
theorem moves_q1 : laidOutB Tryz.pinned.checked.prog = true ∧ mapsRowed Tryz.pinned.checked.prog = true := ⟨by kernel_rfl, by kernel_rfl⟩
theorem moves_q2 : (Rows.movesRow.inPlace == Tryz.pinned.checked.prog.inPlace 14) = true ∧ (Rows.movesRow.unfollowed == Tryz.pinned.checked.prog.unfollowed 14) = true ∧ (Rows.movesRow.recurses == Tryz.pinned.checked.prog.recurses 14) = true ∧ (Rows.movesRow.named == Tryz.pinned.checked.prog.varsNamed 14) = true :=
  ⟨by kernel_rfl, by kernel_rfl, by kernel_rfl, by kernel_rfl⟩
theorem moves_q3 : Tryz.pinned.checked.prog.mayEnter = true := by kernel_rfl
theorem moves_q4 : (Rows.movesRow.lifted == Tryz.pinned.checked.prog.liftsFinal) = true := by kernel_rfl
theorem moves_q5 : (Tryz.pinned.checked.prog.make == some Rows.movesRow.make) = true := by kernel_rfl
theorem moves_q6 : joinedFacts Tryz.pinned.checked.prog 14 Tryz.f14 Rows.movesSpec Rows.movesRow = true := by
  have am : ∀ {a b : Bool}, a = true → b = true → (a && b) = true := fun h k => by rw [h, k]; rfl
  unfold joinedFacts
  repeat' with_reducible apply am
  all_goals first | with_reducible exact moves_q1.1 | with_reducible exact moves_q1.2 | with_reducible exact moves_q2.1 | with_reducible exact moves_q2.2.1 | with_reducible exact moves_q2.2.2.1 | with_reducible exact moves_q2.2.2.2 | with_reducible exact moves_q3 | with_reducible exact moves_q4 | with_reducible exact moves_q5 | kernel_rfl
theorem zv1 (hl : ∀ (os : Os) (_ : os.Started) (H : Type) (enc : TypeId × Value -> H),
   ReturnsInHanded {} Tryz.checked os 14 .any (fun w args => (Rows.movesSpec.pre enc Tryz.prog Tryz.f14 [] false w args /\ laidMetH Tryz.prog zhp w) /\ sizedMet enc Tryz.prog Tryz.f14 (OpenSpec.ofChange Rows.movesSpec) false w args)
    (Rows.movesSpec.post enc Tryz.prog Tryz.f14 false true false false)) : Rows.MovesSaid :=
 OpenClaim.holds_of_wide 14 Tryz.f14 rfl rfl rfl rfl rfl rfl rfl ⟨rfl, rfl, rfl, rfl, rfl⟩ rfl rfl rfl rfl rfl (by kernel_rfl) Tryz.func14 moves_q6
  (of_decide_eq_true (by kernel_rfl)) (by unfold Func.isWrapper; rw [if_neg (of_decide_eq_false (by kernel_rfl))]; exact ⟨rfl, rfl⟩)
  (fun os started H enc _ => hl os started H enc)
end Go.Proofs.YtemondlgcmpbbaaGreatDoor
