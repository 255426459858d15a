/- WHAT IS PROVED HERE: the tied card of shadowkeep.Steps: whatever the arguments, Steps answers true. -/
import Derived.Test.YtemondlgcmpbbaaGreatDoorMS38
import Derived.Test.YtemondlgcmpbbaaGreatDoorTie
import Derived.Test.YtemondlgcmpbbaaGreatDoorCards
import Derived.SevenTiedAt
namespace Go.Proofs.YtemondlgcmpbbaaGreatDoor
open Go

theorem steps_c1 : Tryz.pinned.checked.prog.mainIs = some (true, "ae320e4bf0f7b8d4d2c2a269cb99056fd51e382485e5c7c9d04e9fc7751860b1".toList) := by kernel_rfl
theorem steps_c2 : true = Tryz.pinned.checked.prog.looks [] := by kernel_rfl
theorem steps_c3 : false = Rows.stepsRow.goesBy Tryz.pinned.checked.prog := by kernel_rfl
theorem steps_card : Rows.StepsCardSaid :=
  Claim7.holds_tied_plain_at .later [] [.handle] true (true, "ae320e4bf0f7b8d4d2c2a269cb99056fd51e382485e5c7c9d04e9fc7751860b1") true
    steps_holds (fun _ h => by cases h) (by kernel_rfl) (fun _ h => by cases h) steps_row_tie rfl ⟨rfl, rfl⟩ steps_c1 rfl
    (fun f fn hf hfn => by
      obtain rfl : f = 11 := Option.some.inj ((show Tryz.prog.funcNamed "shadow/shadowkeep.Steps" = some 11 by kernel_rfl).symm.trans hf) |>.symm
      obtain rfl : fn = Tryz.f11 := (Option.some.inj (Tryz.func11.symm.trans hfn)).symm
      exact ⟨steps_c2, fun j t ht => by
        rw [Tryz.params11] at ht
        have h3 : t = 3 ∨ t = 9 := by
          rcases j with _ | _ | _ | j
          · left; simpa using ht.symm
          · left; simpa using ht.symm
          · right; simpa using ht.symm
          · simp at ht
        rcases h3 with rfl | rfl
        · exact (show Tryz.prog.wantsStandIn 3 = false by kernel_rfl)
        · exact (show Tryz.prog.wantsStandIn 9 = false by kernel_rfl)⟩)
    steps_c3
#print axioms steps_card
end Go.Proofs.YtemondlgcmpbbaaGreatDoor
