/- WHAT IS PROVED HERE: the tied card of shadowkeep.Cheap: whatever the numbers, Cheap answers true. -/
import Derived.Test.YtemondlgcmpbbaaGreatDoorMC44
import Derived.Test.YtemondlgcmpbbaaGreatDoorTie
import Derived.Test.YtemondlgcmpbbaaGreatDoorCards
import Derived.SevenTiedAt
namespace Go.Proofs.YtemondlgcmpbbaaGreatDoor
open Go

theorem cheap_c1 : Tryz.pinned.checked.prog.mainIs = some (true, "ae320e4bf0f7b8d4d2c2a269cb99056fd51e382485e5c7c9d04e9fc7751860b1".toList) := by kernel_rfl
theorem cheap_c2 : true = Tryz.pinned.checked.prog.looks [] := by kernel_rfl
theorem cheap_c3 : false = Rows.cheapRow.goesBy Tryz.pinned.checked.prog := by kernel_rfl
theorem cheap_card : Rows.CheapCardSaid :=
  Claim7.holds_tied_plain_at .later [] [.handle] true (true, "ae320e4bf0f7b8d4d2c2a269cb99056fd51e382485e5c7c9d04e9fc7751860b1") true
    cheap_holds (fun _ h => by cases h) (by kernel_rfl) (fun _ h => by cases h) cheap_row_tie rfl ⟨rfl, rfl⟩ cheap_c1 rfl
    (fun f fn hf hfn => by
      obtain rfl : f = 3 := Option.some.inj ((show Tryz.prog.funcNamed "shadow/shadowkeep.Cheap" = some 3 by kernel_rfl).symm.trans hf) |>.symm
      obtain rfl : fn = Tryz.f3 := (Option.some.inj (Tryz.func3.symm.trans hfn)).symm
      exact ⟨cheap_c2, fun j t ht => by
        rw [Tryz.params3] at ht
        have h3 : t = 3 := by
          rcases j with _ | _ | j
          · simpa using ht.symm
          · simpa using ht.symm
          · simp at ht
        subst h3
        exact (show Tryz.prog.wantsStandIn 3 = false by kernel_rfl)⟩)
    cheap_c3
#print axioms cheap_card
end Go.Proofs.YtemondlgcmpbbaaGreatDoor
