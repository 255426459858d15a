/- The law Txns: its card, out of its row. -/
import Derived.Test.YtemondlgcmpbbaaGreatDoorMX38
import Derived.Test.YtemondlgcmpbbaaGreatDoorTie
import Derived.Test.YtemondlgcmpbbaaGreatDoorCards
import Derived.SevenTiedAt
namespace Go.Proofs.YtemondlgcmpbbaaGreatDoor
open Go
set_option maxRecDepth 100000
theorem txns_c1 : Tryz.pinned.checked.prog.mainIs = some (true, "ae320e4bf0f7b8d4d2c2a269cb99056fd51e382485e5c7c9d04e9fc7751860b1".toList) := by kernel_rfl
theorem txns_c2 : true = Tryz.pinned.checked.prog.looks [] := by kernel_rfl
theorem txns_c3 : false = Rows.txnsRow.goesBy Tryz.pinned.checked.prog := by kernel_rfl
theorem zmy (hh : Rows.TxnsSaid) : Rows.TxnsCardSaid :=
 Claim7.holds_tied_plain_at .later [] [.handle] true (true, "ae320e4bf0f7b8d4d2c2a269cb99056fd51e382485e5c7c9d04e9fc7751860b1") true
  hh (fun _ h => by cases h) (by kernel_rfl) (fun _ h => by cases h) txns_row_tie rfl ⟨rfl, rfl⟩ txns_c1 rfl
  (fun f fn hf hfn => by
   obtain rfl : f = 13 := Option.some.inj ((show Tryz.prog.funcNamed "shadow/shadowlaw.Txns" = some 13 by kernel_rfl).symm.trans hf) |>.symm
   obtain rfl : fn = Tryz.f13 := (Option.some.inj (Tryz.func13.symm.trans hfn)).symm
   exact ⟨txns_c2, fun j t ht => by
    rw [Tryz.params13] at ht
    have h3 : t = 73 := by
     rcases j with _ | j
     . simpa using ht.symm
     . simp at ht
    subst h3
    exact (show Tryz.prog.wantsStandIn 73 = false by kernel_rfl)⟩)
  txns_c3
end Go.Proofs.YtemondlgcmpbbaaGreatDoor
