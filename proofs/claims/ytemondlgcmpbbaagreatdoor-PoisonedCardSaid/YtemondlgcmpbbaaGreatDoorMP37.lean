/- For the cards of the laws whose arguments are numbers: the laid variable; the world that meets the condition. -/
import Derived.Test.YtemondlgcmpbbaaGreatDoorRows
import Derived.Test.YtemondlgcmpbbaaGreatDoorMP06
import Derived.ChangeSame
import Derived.ChangeVars
import Derived.JoinedOf
import Derived.RowKit
import Derived.RowKitTokens
import Derived.LaidLaws
import Derived.LaidHandle
import Derived.Stop.Joined
import Derived.Carry
import Derived.Deep.Slices
import Derived.ProofKit
namespace Go.Proofs.YtemondlgcmpbbaaGreatDoor
open Go.ChangeShapes Go.WideShapes Go.RowKit Go.Deep
set_option maxRecDepth 100000
theorem z3j : ownKnob Tryz.prog.godebug = none := by kernel_rfl
theorem tEt : Tryz.prog.globalNamed "errors.errorType" = some 0 := by kernel_rfl
theorem tRt : (Tryz.prog.cutTypes.find? (·.1 == "internal/reflectlite.rtype")).map (·.2) = some 214 := by kernel_rfl
theorem z3b : Tryz.prog.types.size = 331 := by kernel_rfl
theorem zz9 : ((List.range 331).filter fun t => Tryz.prog.rowNamed t [101, 114, 114, 111, 114]) = [31] := by kernel_rfl
theorem zye : laidOutB Tryz.prog = true := by kernel_rfl
def zju : List (String × DataW Unit) := [("errors.errorType", Rows.laid_errors_errorType)]
theorem zq0 {W : World} (h : laidMetH Tryz.prog zju W) : Glob W := by
 have h' : laidMet Tryz.prog [] W /\ handlesMet Tryz.prog zju W := h
 obtain ⟨name, u, ty, e1, e2, e3, e4, e5⟩ := h'.2 _ (List.mem_singleton.2 rfl)
 have en : name = [101, 114, 114, 111, 114] := (Option.some.inj e1).symm
 subst en
 obtain rfl := Option.some.inj (tRt.symm.trans e2)
 have hm : ty ∈ (List.range 331).filter fun t => Tryz.prog.rowNamed t [101, 114, 114, 111, 114] := List.mem_filter.2 ⟨List.mem_range.2 (by rw [<- z3b]; exact e3), e4⟩
 rw [zz9] at hm
 obtain rfl := List.mem_singleton.1 hm
 have hh : typeHandle Tryz.prog 31 = .pointer (some ⟨1, 31, none⟩) := by kernel_rfl
 rw [hh] at e5
 unfold Glob
 simpa using World.var?_cell tEt e5 0
noncomputable def zod (os : Os) : World :=
 let w0 := World.holding Tryz.prog os ⟨#[], #[], []⟩
 { w0 with heap := w0.heap.modify 0 fun
  | .cells _ t frozen => .cells #[.iface 214 (.agg #[.pointer (some ⟨1, 31, none⟩)])] t frozen
  | o => o }
theorem zop (os : Os) (args : Array Value) : laidMetH Tryz.prog zju ((zod os).forCall (fun _ _ => 0) ⟨#[], args, []⟩).memory :=
 laidMetH_of_parts (laidMet_nil _ _) (by kernel_rfl)
theorem zf7 {n : Int} (h : (Lit.int .i64 n).wf = true) : I64 n := by
 simp only [Lit.wf, Bool.and_eq_true, IntKind.min, IntKind.max] at h
 exact ⟨by have := h.1; simpa [IntKind.signed, IntKind.bits] using this, by have := h.2; simpa [IntKind.signed, IntKind.bits] using this⟩
end Go.Proofs.YtemondlgcmpbbaaGreatDoor
