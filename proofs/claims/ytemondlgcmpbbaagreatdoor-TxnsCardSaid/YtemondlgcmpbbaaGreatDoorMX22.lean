/- Walks: Scan over a tree. -/
import Derived.Test.YtemondlgcmpbbaaGreatDoorMX21
import Derived.Maps.OwnIn
namespace Go.Proofs.YtemondlgcmpbbaaGreatDoor
open Go.RowKit Go.Shelf
set_option maxRecDepth 100000
attribute [local go_sem] Oper.semAt_some
def zaf (l : List (Str × Str)) : List Value := l.flatMap fun x => [.string x.1, .string x.2]
theorem za1 (l : List (Str × Str)) (x : Str × Str) : zaf (l ++ [x]) = zaf l ++ [.string x.1, .string x.2] := by simp [zaf]
theorem zaq {W W' : World} {row : Option Nat} {y : Nat} {T : TypeId} {cs : Array Value} (h : Blk W y T cs) (hg : W.grownBy W' row) (hr : ∀ r, row = some r -> ∃ o : Obj, W.heap[r]? = some o /\ o.isCells = false) : Blk W' y T cs := by
 have hne : row ≠ some y := fun e => by
  obtain ⟨o, ho, hc⟩ := hr y e
  have hy : W.heap[y]? = some (.cells cs T) := h
  rw [ho] at hy
  cases hy
  cases hc
 exact (hg.block y h.lt (fun e => hne e.symm)).trans h
theorem zbg {W W' : World} {row : Option Nat} {base size n : Nat} {e : TypeId} {v : Value} {xs : List Value} (h : W.ownsRow base e size v n xs) (hg : W.grownBy W' row) (hr : ∀ r, row = some r -> ∃ o : Obj, W.heap[r]? = some o /\ o.isCells = false) : W'.ownsRow base e size v n xs := by
 refine ⟨h.1, ?_⟩
 rcases h.2 with h0 | ⟨g', cap, cur, hv, hb, hgk, hrd⟩
 . exact .inl h0
 . exact .inr ⟨g', cap, cur, hv, hb, zaq (T := e) hgk hg hr, hrd⟩
theorem zbh {W : World} {base size n : Nat} {e : TypeId} {v : Value} {xs : List Value} (h : W.ownsRow base e size v n xs) {p : Addr} (hp : p.block < base) (u : Value) : (W.setCell p u).ownsRow base e size v n xs := by
 refine ⟨h.1, ?_⟩
 rcases h.2 with h0 | ⟨g', cap, cur, hv, hb, hgk, hrd⟩
 . exact .inl h0
 . exact .inr ⟨g', cap, cur, hv, hb, Blk.far (t := e) hgk (fun e => by omega) u, hrd⟩
theorem KeepsOthers.grown {W W' : World} {row : Option Nat} (hg : W.grownBy W' row) (hr : ∀ j o, row = some j -> W.heap[j]? = some o -> o.isCells = true) : KeepsOthers W W' :=
 ⟨hg.size, fun k o hk ho => (hg.block k (Array.getElem?_eq_some_iff.1 hk).1 (fun e => by have := hr k o e.symm hk; rw [ho] at this; cases this)).trans hk⟩
end Go.Proofs.YtemondlgcmpbbaaGreatDoor
