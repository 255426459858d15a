/- The lock's functions and types under this translation's numbers (laid by hand after the guide's tool). -/
import Derived.Test.YtemondlgcmpbbaaGreatDoorFr
import Derived.Conc.MuLone
import Derived.KernelRfl
namespace Go.Proofs.YtemondlgcmpbbaaGreatDoor
open Go.RowKit Go.Conc.Locks

abbrev muLink : MuLink := { lock := 51, unlock := 52, ilock := 78, iunlock := 79, lockSlow := 114, unlockSlow := 117, disable := 110, enable := 112, acquire := 113, relMerge := 115, cas32 := 111, add32 := 116, tMutex := 84, tIMutex := 82, tPMutex := 127, tPIMutex := 188, tPI32 := 190, tUP := 163, tNoCopy := 79, tU32 := 80 }
theorem muLib : MuLib Tryz.prog muLink :=
  ⟨Tryz.func51, Tryz.func52, Tryz.func78, Tryz.func79, Tryz.func110, Tryz.func112, Tryz.func113, Tryz.func115, Tryz.func111, Tryz.func116, Tryz.underlying82, Tryz.runUnderlying82, Tryz.sizeOf82, Tryz.isAgg82, Tryz.zeroValue82, Tryz.underlying84, Tryz.runUnderlying84, Tryz.sizeOf84, Tryz.isAgg84, Tryz.zeroValue84, Tryz.underlying127, Tryz.runUnderlying127, Tryz.sizeOf127, Tryz.isAgg127, Tryz.zeroValue127, Tryz.underlying188, Tryz.runUnderlying188, Tryz.sizeOf188, Tryz.isAgg188, Tryz.zeroValue188, Tryz.underlying190, Tryz.runUnderlying190, Tryz.sizeOf190, Tryz.isAgg190, Tryz.zeroValue190, Tryz.underlying163, Tryz.runUnderlying163, Tryz.sizeOf163, Tryz.isAgg163, Tryz.zeroValue163, Tryz.underlying79, Tryz.runUnderlying79, Tryz.sizeOf79, Tryz.isAgg79, Tryz.zeroValue79, Tryz.underlying21, Tryz.runUnderlying21, Tryz.sizeOf21, Tryz.isAgg21, Tryz.zeroValue21, (by kernel_rfl)⟩
end Go.Proofs.YtemondlgcmpbbaaGreatDoor
