/- The law Txns: its row, out of what is lifted. -/
import Derived.Test.YtemondlgcmpbbaaGreatDoorMX38
import Derived.ChangeSame
import Derived.ChangeVars
import Derived.JoinedOf
import Derived.RowKit
import Derived.RowKitTokens
import Derived.LaidLaws
import Derived.LaidHandle
import Derived.Stop.Joined
import Derived.Carry
import Derived.Deep.Slices
import Derived.ProofKit
namespace Go.Proofs.YtemondlgcmpbbaaGreatDoor
open Go.ChangeShapes Go.WideShapes Go.RowKit Go.Deep
set_option maxRecDepth 100000
theorem txns_q1 : laidOutB Tryz.pinned.checked.prog = true ∧ mapsRowed Tryz.pinned.checked.prog = true := ⟨by kernel_rfl, by kernel_rfl⟩
theorem txns_q2 : (Rows.txnsRow.inPlace == Tryz.pinned.checked.prog.inPlace 13) = true ∧ (Rows.txnsRow.unfollowed == Tryz.pinned.checked.prog.unfollowed 13) = true ∧ (Rows.txnsRow.recurses == Tryz.pinned.checked.prog.recurses 13) = true ∧ (Rows.txnsRow.named == Tryz.pinned.checked.prog.varsNamed 13) = true :=
  ⟨by kernel_rfl, by kernel_rfl, by kernel_rfl, by kernel_rfl⟩
theorem txns_q3 : Tryz.pinned.checked.prog.mayEnter = true := by kernel_rfl
theorem txns_q4 : (Rows.txnsRow.lifted == Tryz.pinned.checked.prog.liftsFinal) = true := by kernel_rfl
theorem txns_q5 : (Tryz.pinned.checked.prog.make == some Rows.txnsRow.make) = true := by kernel_rfl
theorem txns_q6 : joinedFacts Tryz.pinned.checked.prog 13 Tryz.f13 Rows.txnsSpec Rows.txnsRow = true := by
  have am : ∀ {a b : Bool}, a = true → b = true → (a && b) = true := fun h k => by rw [h, k]; rfl
  unfold joinedFacts
  repeat' with_reducible apply am
  all_goals first | with_reducible exact txns_q1.1 | with_reducible exact txns_q1.2 | with_reducible exact txns_q2.1 | with_reducible exact txns_q2.2.1 | with_reducible exact txns_q2.2.2.1 | with_reducible exact txns_q2.2.2.2 | with_reducible exact txns_q3 | with_reducible exact txns_q4 | with_reducible exact txns_q5 | kernel_rfl
theorem zuu (hl : ∀ (os : Os) (_ : os.Started) (H : Type) (enc : TypeId × Value -> H),
   ReturnsInHanded {} Tryz.checked os 13 .any (fun w args => (Rows.txnsSpec.pre enc Tryz.prog Tryz.f13 [] false w args /\ laidMetH Tryz.prog zgt w) /\ sizedMet enc Tryz.prog Tryz.f13 (OpenSpec.ofChange Rows.txnsSpec) false w args)
    (Rows.txnsSpec.post enc Tryz.prog Tryz.f13 false true false false)) : Rows.TxnsSaid :=
 OpenClaim.holds_of_wide 13 Tryz.f13 rfl rfl rfl rfl rfl rfl rfl ⟨rfl, rfl, rfl, rfl, rfl⟩ rfl rfl rfl rfl rfl (by kernel_rfl) Tryz.func13 txns_q6
  (of_decide_eq_true (by kernel_rfl)) (by unfold Func.isWrapper; rw [if_neg (of_decide_eq_false (by kernel_rfl))]; exact ⟨rfl, rfl⟩)
  (fun os started H enc _ => hl os started H enc)
end Go.Proofs.YtemondlgcmpbbaaGreatDoor
