/- Walks: Scan over a tree. -/
import Derived.Test.YtemondlgcmpbbaaGreatDoorMV21
import Derived.Maps.OwnIn
namespace Go.Proofs.YtemondlgcmpbbaaGreatDoor
open Go.RowKit Go.Shelf
set_option maxRecDepth 100000
attribute [local go_sem] Oper.semAt_some
def zbu (l : List (Str × Str)) : List Value := l.flatMap fun x => [.string x.1, .string x.2]
theorem zca (l : List (Str × Str)) (x : Str × Str) : zbu (l ++ [x]) = zbu l ++ [.string x.1, .string x.2] := by simp [zbu]
theorem zgx {W : World} {base size n : Nat} {e : TypeId} {v : Value} {xs : List Value} (h : W.ownsRow base e size v n xs) {p : Addr} (hp : p.block < base) (u : Value) : (W.setCell p u).ownsRow base e size v n xs := by
 refine ⟨h.1, ?_⟩
 rcases h.2 with h0 | ⟨g', cap, cur, hv, hb, hgk, hrd⟩
 . exact .inl h0
 . exact .inr ⟨g', cap, cur, hv, hb, Blk.far (t := e) hgk (fun e => by omega) u, hrd⟩
theorem KeepsOthers.grown {W W' : World} {row : Option Nat} (hg : W.grownBy W' row) (hr : ∀ j o, row = some j -> W.heap[j]? = some o -> o.isCells = true) : KeepsOthers W W' :=
 ⟨hg.size, fun k o hk ho => (hg.block k (Array.getElem?_eq_some_iff.1 hk).1 (fun e => by have := hr k o e.symm hk; rw [ho] at this; cases this)).trans hk⟩
end Go.Proofs.YtemondlgcmpbbaaGreatDoor
