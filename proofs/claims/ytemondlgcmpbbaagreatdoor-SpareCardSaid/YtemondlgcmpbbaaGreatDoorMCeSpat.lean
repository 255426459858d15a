/- WHAT IS PROVED HERE: the tied card of shadowkeep.Spare: whatever the numbers, Spare answers true. -/
import Derived.Test.YtemondlgcmpbbaaGreatDoorMC29
import Derived.Test.YtemondlgcmpbbaaGreatDoorTie
import Derived.Test.YtemondlgcmpbbaaGreatDoorCards
import Derived.SevenTiedAt
namespace Go.Proofs.YtemondlgcmpbbaaGreatDoor
open Go

theorem spare_c1 : Tryz.pinned.checked.prog.mainIs = some (true, "ae320e4bf0f7b8d4d2c2a269cb99056fd51e382485e5c7c9d04e9fc7751860b1".toList) := by kernel_rfl
theorem spare_c2 : true = Tryz.pinned.checked.prog.looks [] := by kernel_rfl
theorem spare_c3 : false = Rows.spareRow.goesBy Tryz.pinned.checked.prog := by kernel_rfl
theorem spare_card : Rows.SpareCardSaid :=
  Claim7.holds_tied_plain_at .later [] [.handle] true (true, "ae320e4bf0f7b8d4d2c2a269cb99056fd51e382485e5c7c9d04e9fc7751860b1") true
    spare_holds (fun _ h => by cases h) (by kernel_rfl) (fun _ h => by cases h) spare_row_tie rfl ⟨rfl, rfl⟩ spare_c1 rfl
    (fun f fn hf hfn => by
      obtain rfl : f = 4 := Option.some.inj ((show Tryz.prog.funcNamed "shadow/shadowkeep.Spare" = some 4 by kernel_rfl).symm.trans hf) |>.symm
      obtain rfl : fn = Tryz.f4 := (Option.some.inj (Tryz.func4.symm.trans hfn)).symm
      exact ⟨spare_c2, fun j t ht => by
        rw [Tryz.params4] at ht
        have h3 : t = 3 := by
          rcases j with _ | _ | j
          · simpa using ht.symm
          · simpa using ht.symm
          · simp at ht
        subst h3
        exact (show Tryz.prog.wantsStandIn 3 = false by kernel_rfl)⟩)
    spare_c3
#print axioms spare_card
end Go.Proofs.YtemondlgcmpbbaaGreatDoor
