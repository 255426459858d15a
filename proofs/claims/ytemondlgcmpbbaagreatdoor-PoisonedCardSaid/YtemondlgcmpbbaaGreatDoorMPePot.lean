/- WHAT IS PROVED HERE: the tied card of shadowkeep.Poisoned: whatever the arguments, Poisoned answers true. -/
import Derived.Test.YtemondlgcmpbbaaGreatDoorMP45
import Derived.Test.YtemondlgcmpbbaaGreatDoorTie
import Derived.Test.YtemondlgcmpbbaaGreatDoorCards
import Derived.SevenTiedAt
namespace Go.Proofs.YtemondlgcmpbbaaGreatDoor
open Go
set_option maxRecDepth 100000
theorem poisoned_c1 : Tryz.pinned.checked.prog.mainIs = some (true, "ae320e4bf0f7b8d4d2c2a269cb99056fd51e382485e5c7c9d04e9fc7751860b1".toList) := by kernel_rfl
theorem poisoned_c2 : true = Tryz.pinned.checked.prog.looks [] := by kernel_rfl
theorem poisoned_c3 : false = Rows.poisonedRow.goesBy Tryz.pinned.checked.prog := by kernel_rfl
theorem poisoned_card : Rows.PoisonedCardSaid :=
 Claim7.holds_tied_plain_at .later [] [.handle] true (true, "ae320e4bf0f7b8d4d2c2a269cb99056fd51e382485e5c7c9d04e9fc7751860b1") true
  znc (fun _ h => by cases h) (by kernel_rfl) (fun _ h => by cases h) poisoned_row_tie rfl ⟨rfl, rfl⟩ poisoned_c1 rfl
  (fun f fn hf hfn => by
   obtain rfl : f = 10 := Option.some.inj ((show Tryz.prog.funcNamed "shadow/shadowkeep.Poisoned" = some 10 by kernel_rfl).symm.trans hf) |>.symm
   obtain rfl : fn = Tryz.f10 := (Option.some.inj (Tryz.func10.symm.trans hfn)).symm
   exact ⟨poisoned_c2, fun j t ht => by
    rw [Tryz.params10] at ht
    have h3 : t = 3 \/ t = 51 := by
     rcases j with _ | _ | _ | _ | _ | j
     . left; simpa using ht.symm
     . left; simpa using ht.symm
     . left; simpa using ht.symm
     . left; simpa using ht.symm
     . right; simpa using ht.symm
     . simp at ht
    rcases h3 with rfl | rfl
    . exact (show Tryz.prog.wantsStandIn 3 = false by kernel_rfl)
    . exact (show Tryz.prog.wantsStandIn 51 = false by kernel_rfl)⟩)
  poisoned_c3
#print axioms poisoned_card
end Go.Proofs.YtemondlgcmpbbaaGreatDoor
