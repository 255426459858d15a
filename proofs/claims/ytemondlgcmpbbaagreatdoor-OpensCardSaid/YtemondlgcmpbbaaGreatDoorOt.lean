/- WHAT IS PROVED HERE: the tied card of shadowlaw.Opens: whatever the script, Opens answers true, and the script reads behind the call as it read before. -/
import Derived.Test.YtemondlgcmpbbaaGreatDoorOl
import Derived.Test.YtemondlgcmpbbaaGreatDoorTie
import Derived.Test.YtemondlgcmpbbaaGreatDoorCards
import Derived.SevenTiedAt
namespace Go.Proofs.YtemondlgcmpbbaaGreatDoor
open Go

theorem opens_c1 : Tryz.pinned.checked.prog.mainIs = some (true, "ae320e4bf0f7b8d4d2c2a269cb99056fd51e382485e5c7c9d04e9fc7751860b1".toList) := by kernel_rfl
theorem opens_c2 : true = Tryz.pinned.checked.prog.looks [] := by kernel_rfl
theorem opens_c3 : false = Rows.opensRow.goesBy Tryz.pinned.checked.prog := by kernel_rfl
theorem opens_card : Rows.OpensCardSaid :=
  Claim7.holds_tied_plain_at .later [] [.handle] true (true, "ae320e4bf0f7b8d4d2c2a269cb99056fd51e382485e5c7c9d04e9fc7751860b1") true
    opens_holds (fun _ h => by cases h) (by kernel_rfl) (fun _ h => by cases h) opens_row_tie rfl ⟨rfl, rfl⟩ opens_c1 rfl
    (fun f fn hf hfn => by
      obtain rfl : f = 12 := Option.some.inj ((show Tryz.prog.funcNamed "shadow/shadowlaw.Opens" = some 12 by kernel_rfl).symm.trans hf) |>.symm
      obtain rfl : fn = Tryz.f12 := (Option.some.inj (Tryz.func12.symm.trans hfn)).symm
      exact ⟨opens_c2, fun j t ht => by
        rw [Tryz.params12] at ht
        have h3 : t = 73 := by
          rcases j with _ | j
          · simpa using ht.symm
          · simp at ht
        subst h3
        exact (show Tryz.prog.wantsStandIn 73 = false by kernel_rfl)⟩)
    opens_c3
#print axioms opens_card
end Go.Proofs.YtemondlgcmpbbaaGreatDoor
