/- Walks: what an empty transaction shows: All, Scan at no tree. -/
import Derived.Test.YtemondlgcmpbbaaGreatDoorMH08
import Derived.RangeFuncFrom
import Derived.RangeFuncNested
import Derived.RangeFuncBound
import Derived.RangeFuncCalls
import Derived.RangeFuncLeaves
import Derived.Shelf.Abstract
import Derived.Shelf.RegionOpen
import Derived.OwnWalkIn
import Derived.TacticsInMore
import Derived.LoopNIn
import Derived.LoopIn
namespace Go.Proofs.YtemondlgcmpbbaaGreatDoor
open Go.RowKit Go.Shelf

theorem Only.back {x : Nat} {T : TypeId} {cs : Array Value} {w w' : World} (h : Only (· = x) w w') (a : Blk w x T cs) (b : Blk w' x T cs) : Below w.heap.size w w' :=
  ⟨h.os, h.tape, h.output, h.size, fun y hy => by
    by_cases e : y = x
    · subst e; exact b.trans a.symm
    · exact h.block y hy e⟩
theorem Below.grown {w w' : World} (h : Below w.heap.size w w') : w.grownBy w' none := ⟨h.os, h.tape, h.output, h.size, fun k hk _ => h.block k hk⟩

theorem all_any (t : Nat) (lo hi : ByteArray) (w : World) :
    Calls Tryz.prog 102 #[.pointer (some ⟨t, 0, none⟩), .string lo, .string hi] w fun e w' => e = .returned (.func (.func 140) #[] #[.pointer (some ⟨w.heap.size, 0, none⟩), .pointer (some ⟨w.heap.size + 1, 0, none⟩), .pointer (some ⟨w.heap.size + 1 + 1, 0, none⟩)]) ∧
      w' = ((w.alloc (.cells #[.pointer (some ⟨t, 0, none⟩)] 29)).alloc (.cells #[.string lo] 9)).alloc (.cells #[.string hi] 9) := by
  have hmf : ∀ (fn : Fn) (first cap : Array Value) (w : World), (Instr.makeFunc fn first cap).run Tryz.prog w = .ok (.func fn first cap) w := fun _ _ _ _ => rfl
  go_enter Tryz.func102, Tryz.ntmps102
  go_wp2
  go_ret
  exact ⟨rfl, rfl⟩

attribute [local go_sem] Oper.semAt_some

end Go.Proofs.YtemondlgcmpbbaaGreatDoor
