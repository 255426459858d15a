/- WHAT IS PROVED HERE: the tied card of shadowkeep.Durable: whatever the arguments, Durable answers true. -/
import Derived.Test.YtemondlgcmpbbaaGreatDoorMD38
import Derived.Test.YtemondlgcmpbbaaGreatDoorTie
import Derived.Test.YtemondlgcmpbbaaGreatDoorCards
import Derived.SevenTiedAt
namespace Go.Proofs.YtemondlgcmpbbaaGreatDoor
open Go
set_option maxRecDepth 100000
theorem durable_c1 : Tryz.pinned.checked.prog.mainIs = some (true, "ae320e4bf0f7b8d4d2c2a269cb99056fd51e382485e5c7c9d04e9fc7751860b1".toList) := by kernel_rfl
theorem durable_c2 : true = Tryz.pinned.checked.prog.looks [] := by kernel_rfl
theorem durable_c3 : false = Rows.durableRow.goesBy Tryz.pinned.checked.prog := by kernel_rfl
theorem durable_card : Rows.DurableCardSaid :=
 Claim7.holds_tied_plain_at .later [] [.handle] true (true, "ae320e4bf0f7b8d4d2c2a269cb99056fd51e382485e5c7c9d04e9fc7751860b1") true
   durable_holds (fun _ h => by cases h) (by kernel_rfl) (fun _ h => by cases h) durable_row_tie rfl ⟨rfl, rfl⟩ durable_c1 rfl
   (fun f fn hf hfn => by
     obtain rfl : f = 7 := Option.some.inj ((show Tryz.prog.funcNamed "shadow/shadowkeep.Durable" = some 7 by kernel_rfl).symm.trans hf) |>.symm
     obtain rfl : fn = Tryz.f7 := (Option.some.inj (Tryz.func7.symm.trans hfn)).symm
     exact ⟨durable_c2, fun j t ht => by
       rw [Tryz.params7] at ht
       have h3 : t = 3 \/ t = 51 := by
         rcases j with _ | _ | _ | j
         . left; simpa using ht.symm
         . left; simpa using ht.symm
         . right; simpa using ht.symm
         . simp at ht
       rcases h3 with rfl | rfl
       . exact (show Tryz.prog.wantsStandIn 3 = false by kernel_rfl)
       . exact (show Tryz.prog.wantsStandIn 51 = false by kernel_rfl)⟩)
   durable_c3
#print axioms durable_card
end Go.Proofs.YtemondlgcmpbbaaGreatDoor
