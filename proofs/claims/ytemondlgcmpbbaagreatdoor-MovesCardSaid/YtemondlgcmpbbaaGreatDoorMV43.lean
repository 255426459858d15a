/- The law Moves: its card, out of its row. -/
import Derived.Test.YtemondlgcmpbbaaGreatDoorMV40
import Derived.Test.YtemondlgcmpbbaaGreatDoorTie
import Derived.Test.YtemondlgcmpbbaaGreatDoorCards
import Derived.SevenTiedAt
namespace Go.Proofs.YtemondlgcmpbbaaGreatDoor
open Go
set_option maxRecDepth 100000
theorem moves_c1 : Tryz.pinned.checked.prog.mainIs = some (true, "ae320e4bf0f7b8d4d2c2a269cb99056fd51e382485e5c7c9d04e9fc7751860b1".toList) := by kernel_rfl
theorem moves_c2 : true = Tryz.pinned.checked.prog.looks [] := by kernel_rfl
theorem moves_c3 : false = Rows.movesRow.goesBy Tryz.pinned.checked.prog := by kernel_rfl
theorem zmr (hh : Rows.MovesSaid) : Rows.MovesCardSaid :=
 Claim7.holds_tied_plain_at .later [] [.handle] true (true, "ae320e4bf0f7b8d4d2c2a269cb99056fd51e382485e5c7c9d04e9fc7751860b1") true
  hh (fun _ h => by cases h) (by kernel_rfl) (fun _ h => by cases h) moves_row_tie rfl ⟨rfl, rfl⟩ moves_c1 rfl
  (fun f fn hf hfn => by
   obtain rfl : f = 14 := Option.some.inj ((show Tryz.prog.funcNamed "shadow/shadowlaw.Moves" = some 14 by kernel_rfl).symm.trans hf) |>.symm
   obtain rfl : fn = Tryz.f14 := (Option.some.inj (Tryz.func14.symm.trans hfn)).symm
   exact ⟨moves_c2, fun j t ht => by
    rw [Tryz.params14] at ht
    have h3 : t = 73 := by
     rcases j with _ | j
     . simpa using ht.symm
     . simp at ht
    subst h3
    exact (show Tryz.prog.wantsStandIn 73 = false by kernel_rfl)⟩)
  moves_c3
end Go.Proofs.YtemondlgcmpbbaaGreatDoor
