/- WHAT IS PROVED HERE: the tied card of shadowkeep.Flipped: whatever the arguments, Flipped answers true. -/
import Derived.Test.YtemondlgcmpbbaaGreatDoorMD41
import Derived.Test.YtemondlgcmpbbaaGreatDoorTie
import Derived.Test.YtemondlgcmpbbaaGreatDoorCards
import Derived.SevenTiedAt
namespace Go.Proofs.YtemondlgcmpbbaaGreatDoor
open Go
set_option maxRecDepth 100000
theorem flipped_c1 : Tryz.pinned.checked.prog.mainIs = some (true, "ae320e4bf0f7b8d4d2c2a269cb99056fd51e382485e5c7c9d04e9fc7751860b1".toList) := by kernel_rfl
theorem flipped_c2 : true = Tryz.pinned.checked.prog.looks [] := by kernel_rfl
theorem flipped_c3 : false = Rows.flippedRow.goesBy Tryz.pinned.checked.prog := by kernel_rfl
theorem flipped_card : Rows.FlippedCardSaid :=
 Claim7.holds_tied_plain_at .later [] [.handle] true (true, "ae320e4bf0f7b8d4d2c2a269cb99056fd51e382485e5c7c9d04e9fc7751860b1") true
   flipped_holds (fun _ h => by cases h) (by kernel_rfl) (fun _ h => by cases h) flipped_row_tie rfl ⟨rfl, rfl⟩ flipped_c1 rfl
   (fun f fn hf hfn => by
     obtain rfl : f = 9 := Option.some.inj ((show Tryz.prog.funcNamed "shadow/shadowkeep.Flipped" = some 9 by kernel_rfl).symm.trans hf) |>.symm
     obtain rfl : fn = Tryz.f9 := (Option.some.inj (Tryz.func9.symm.trans hfn)).symm
     exact ⟨flipped_c2, fun j t ht => by
       rw [Tryz.params9] at ht
       have h3 : t = 3 := by
         rcases j with _ | _ | _ | j
         . simpa using ht.symm
         . simpa using ht.symm
         . simpa using ht.symm
         . simp at ht
       subst h3
       exact (show Tryz.prog.wantsStandIn 3 = false by kernel_rfl)⟩)
   flipped_c3
#print axioms flipped_card
end Go.Proofs.YtemondlgcmpbbaaGreatDoor
