/-
  NARROWER THAN 'FOR EVERY INPUT', by the rows' own cells (each row's printed sentence says how): Cheap: laid · Spare: laid · Shots: laid · Aborted: laid · Durable: laid · Either: laid · Flipped: laid · Poisoned: laid · Steps: laid · Opens: laid · Txns: laid · Moves: laid · Commits: laid · Crashes: laid · Faults: laid.
  DERIVED. THE GIVEN ROWS OF THIS SEAT. 15 by the template 'for every input the law returns true; each argument reads behind the call as it read before'; 0 by the template 'total and deterministic' (their statements: YtemondlgcmpbbaaGreatDoorTotals.lean).
  GIVEN WITH THE SEED: the statements are not yours to turn. If you find one false, say at which input.
  Laid BY PROGRAM, IN A SANDBOX (cutbox-rows.mjs): the forced cells as the released guide's own fill.sh prints them over the translation fee752401cd97699… (all of the seat's roots in one cut). By AI agents, Wed Nov 11 2026. No macro, syntax, notation, axiom, sorry.
-/
import Derived.Test.YtemondlgcmpbbaaGreatDoorChecked
import GoSem.Claim
import GoSem.ClaimJoined
import GoSem.ClaimMapViews
import Derived.JoinedTies
import Derived.KernelRfl
namespace Go.Proofs.YtemondlgcmpbbaaGreatDoor
/- THE CELL 'sum', in the pinned program and in every row, IS THE sha256 OF THE DUMP (.gsa) THAT YtemondlgcmpbbaaGreatDoorProg.lean LOADS. Nothing in Lean hashes anything: it is a label: what it is worth is what the hold of that sum in a sandbox is worth. -/
noncomputable def Tryz.pinned : Pinned := { name := "ytemondlgcmpbbaagreatdoor", sum := "fee752401cd97699cc8fbc5f4e2f02b7e5a3aebc96d9c7bfa7dd32aa64237e00", checked := Tryz.checked }
namespace Rows
def none {H : Type} : Left H := { results := [], args := [] }

/- WHAT THE LISTED PACKAGE-LEVEL VARIABLES READ AS WHEN THE CALL BEGINS. Each datum BY PROGRAM (the guide's laid-datum.mjs) off the statement by which the dump's own 'gosem.cut.vars' lays the variable. In a bare row this is a premise. The card (YtemondlgcmpbbaaGreatDoorCards.lean) ties it to the program's text. -/
def laid_errors_errorType {H : Type} : DataW H := .iface "internal/reflectlite.rtype" (.agg [.ptr (.lit (.string [101, 114, 114, 111, 114]))])

/-- 'shadowkeep.Cheap': WHATEVER THE INPUT: true; the input reads as it did. -/
def cheapSpec : ChangeSpec := { name := "cheap", fn := fun _ => fun
  | [d1, d2] => { results := [.lit (.bool true)], args := [d1, d2] }
  | _ => none }
def cheapRow : OpenClaim := { program := "ytemondlgcmpbbaagreatdoor", sum := "fee752401cd97699cc8fbc5f4e2f02b7e5a3aebc96d9c7bfa7dd32aa64237e00", func := "shadow/shadowkeep.Cheap", spec := "cheap", inPlace := ["internal/reflectlite.ValueOf", "(internal/reflectlite.Value).Type", "(internal/reflectlite.Value).IsNil", "internal/reflectlite.TypeOf", "(internal/reflectlite.Value).Elem", "(internal/reflectlite.Value).Set", "(*internal/sync.Mutex).Lock", "internal/race.Disable", "sync/atomic.CompareAndSwapInt32", "internal/race.Enable", "internal/race.Acquire", "(*internal/sync.Mutex).lockSlow", "internal/sync.runtime_canSpin", "internal/sync.runtime_doSpin", "internal/sync.throw", "internal/sync.runtime_nanotime", "internal/sync.runtime_SemacquireMutex", "sync/atomic.AddInt32", "(*internal/sync.Mutex).Unlock", "internal/race.ReleaseMerge", "(*internal/sync.Mutex).unlockSlow", "internal/sync.fatal", "internal/sync.runtime_Semrelease", "slices.overlaps[shadow/api.Pair]", "slices.overlaps[shadow/node.Kid]"], unfollowed := true, recurses := true, named := ["errors.errorType"], apart := false, laid := [("errors.errorType", laid_errors_errorType)] }
def CheapSaid : Prop := cheapRow.holds Tryz.pinned (OpenSpec.ofChange cheapSpec)

/-- ITS FALSE NEIGHBOUR: 'it returns false'. Refute it at one input. -/
def cheapWrong : ChangeSpec := { name := "cheap", fn := fun _ => fun
  | [d1, d2] => { results := [.lit (.bool false)], args := [d1, d2] }
  | _ => none }
def CheapWrongFalsely : Prop := cheapRow.holds Tryz.pinned (OpenSpec.ofChange cheapWrong)

/-- 'shadowkeep.Spare': WHATEVER THE INPUT: true; the input reads as it did. -/
def spareSpec : ChangeSpec := { name := "spare", fn := fun _ => fun
  | [d1, d2] => { results := [.lit (.bool true)], args := [d1, d2] }
  | _ => none }
def spareRow : OpenClaim := { program := "ytemondlgcmpbbaagreatdoor", sum := "fee752401cd97699cc8fbc5f4e2f02b7e5a3aebc96d9c7bfa7dd32aa64237e00", func := "shadow/shadowkeep.Spare", spec := "spare", inPlace := ["internal/reflectlite.ValueOf", "(internal/reflectlite.Value).Type", "(internal/reflectlite.Value).IsNil", "internal/reflectlite.TypeOf", "(internal/reflectlite.Value).Elem", "(internal/reflectlite.Value).Set", "(*internal/sync.Mutex).Lock", "internal/race.Disable", "sync/atomic.CompareAndSwapInt32", "internal/race.Enable", "internal/race.Acquire", "(*internal/sync.Mutex).lockSlow", "internal/sync.runtime_canSpin", "internal/sync.runtime_doSpin", "internal/sync.throw", "internal/sync.runtime_nanotime", "internal/sync.runtime_SemacquireMutex", "sync/atomic.AddInt32", "(*internal/sync.Mutex).Unlock", "internal/race.ReleaseMerge", "(*internal/sync.Mutex).unlockSlow", "internal/sync.fatal", "internal/sync.runtime_Semrelease", "slices.overlaps[shadow/api.Pair]", "slices.overlaps[shadow/node.Kid]"], unfollowed := true, recurses := true, named := ["errors.errorType"], apart := false, laid := [("errors.errorType", laid_errors_errorType)] }
def SpareSaid : Prop := spareRow.holds Tryz.pinned (OpenSpec.ofChange spareSpec)

/-- ITS FALSE NEIGHBOUR: 'it returns false'. Refute it at one input. -/
def spareWrong : ChangeSpec := { name := "spare", fn := fun _ => fun
  | [d1, d2] => { results := [.lit (.bool false)], args := [d1, d2] }
  | _ => none }
def SpareWrongFalsely : Prop := spareRow.holds Tryz.pinned (OpenSpec.ofChange spareWrong)

/-- 'shadowkeep.Shots': WHATEVER THE INPUT: true; the input reads as it did. -/
def shotsSpec : ChangeSpec := { name := "shots", fn := fun _ => fun
  | [d1, d2, d3] => { results := [.lit (.bool true)], args := [d1, d2, d3] }
  | _ => none }
def shotsRow : OpenClaim := { program := "ytemondlgcmpbbaagreatdoor", sum := "fee752401cd97699cc8fbc5f4e2f02b7e5a3aebc96d9c7bfa7dd32aa64237e00", func := "shadow/shadowkeep.Shots", spec := "shots", inPlace := ["internal/reflectlite.ValueOf", "(internal/reflectlite.Value).Type", "(internal/reflectlite.Value).IsNil", "internal/reflectlite.TypeOf", "(internal/reflectlite.Value).Elem", "(internal/reflectlite.Value).Set", "(*internal/sync.Mutex).Lock", "internal/race.Disable", "sync/atomic.CompareAndSwapInt32", "internal/race.Enable", "internal/race.Acquire", "(*internal/sync.Mutex).lockSlow", "internal/sync.runtime_canSpin", "internal/sync.runtime_doSpin", "internal/sync.throw", "internal/sync.runtime_nanotime", "internal/sync.runtime_SemacquireMutex", "sync/atomic.AddInt32", "(*internal/sync.Mutex).Unlock", "internal/race.ReleaseMerge", "(*internal/sync.Mutex).unlockSlow", "internal/sync.fatal", "internal/sync.runtime_Semrelease", "slices.overlaps[shadow/node.Kid]", "slices.overlaps[shadow/api.Pair]"], unfollowed := true, recurses := true, named := ["errors.errorType"], apart := false, laid := [("errors.errorType", laid_errors_errorType)] }
def ShotsSaid : Prop := shotsRow.holds Tryz.pinned (OpenSpec.ofChange shotsSpec)

/-- ITS FALSE NEIGHBOUR: 'it returns false'. Refute it at one input. -/
def shotsWrong : ChangeSpec := { name := "shots", fn := fun _ => fun
  | [d1, d2, d3] => { results := [.lit (.bool false)], args := [d1, d2, d3] }
  | _ => none }
def ShotsWrongFalsely : Prop := shotsRow.holds Tryz.pinned (OpenSpec.ofChange shotsWrong)

/-- 'shadowkeep.Aborted': WHATEVER THE INPUT: true; the input reads as it did. -/
def abortedSpec : ChangeSpec := { name := "aborted", fn := fun _ => fun
  | [d1, d2] => { results := [.lit (.bool true)], args := [d1, d2] }
  | _ => none }
def abortedRow : OpenClaim := { program := "ytemondlgcmpbbaagreatdoor", sum := "fee752401cd97699cc8fbc5f4e2f02b7e5a3aebc96d9c7bfa7dd32aa64237e00", func := "shadow/shadowkeep.Aborted", spec := "aborted", inPlace := ["internal/reflectlite.ValueOf", "(internal/reflectlite.Value).Type", "(internal/reflectlite.Value).IsNil", "internal/reflectlite.TypeOf", "(internal/reflectlite.Value).Elem", "(internal/reflectlite.Value).Set", "(*internal/sync.Mutex).Lock", "internal/race.Disable", "sync/atomic.CompareAndSwapInt32", "internal/race.Enable", "internal/race.Acquire", "(*internal/sync.Mutex).lockSlow", "internal/sync.runtime_canSpin", "internal/sync.runtime_doSpin", "internal/sync.throw", "internal/sync.runtime_nanotime", "internal/sync.runtime_SemacquireMutex", "sync/atomic.AddInt32", "(*internal/sync.Mutex).Unlock", "internal/race.ReleaseMerge", "(*internal/sync.Mutex).unlockSlow", "internal/sync.fatal", "internal/sync.runtime_Semrelease", "slices.overlaps[shadow/node.Kid]", "slices.overlaps[shadow/api.Pair]"], unfollowed := true, recurses := true, named := ["errors.errorType"], apart := false, laid := [("errors.errorType", laid_errors_errorType)] }
def AbortedSaid : Prop := abortedRow.holds Tryz.pinned (OpenSpec.ofChange abortedSpec)

/-- ITS FALSE NEIGHBOUR: 'it returns false'. Refute it at one input. -/
def abortedWrong : ChangeSpec := { name := "aborted", fn := fun _ => fun
  | [d1, d2] => { results := [.lit (.bool false)], args := [d1, d2] }
  | _ => none }
def AbortedWrongFalsely : Prop := abortedRow.holds Tryz.pinned (OpenSpec.ofChange abortedWrong)

/-- 'shadowkeep.Durable': WHATEVER THE INPUT: true; the input reads as it did. -/
def durableSpec : ChangeSpec := { name := "durable", fn := fun _ => fun
  | [d1, d2, d3] => { results := [.lit (.bool true)], args := [d1, d2, d3] }
  | _ => none }
def durableRow : OpenClaim := { program := "ytemondlgcmpbbaagreatdoor", sum := "fee752401cd97699cc8fbc5f4e2f02b7e5a3aebc96d9c7bfa7dd32aa64237e00", func := "shadow/shadowkeep.Durable", spec := "durable", inPlace := ["internal/reflectlite.ValueOf", "(internal/reflectlite.Value).Type", "(internal/reflectlite.Value).IsNil", "internal/reflectlite.TypeOf", "(internal/reflectlite.Value).Elem", "(internal/reflectlite.Value).Set", "(*internal/sync.Mutex).Lock", "internal/race.Disable", "sync/atomic.CompareAndSwapInt32", "internal/race.Enable", "internal/race.Acquire", "(*internal/sync.Mutex).lockSlow", "internal/sync.runtime_canSpin", "internal/sync.runtime_doSpin", "internal/sync.throw", "internal/sync.runtime_nanotime", "internal/sync.runtime_SemacquireMutex", "sync/atomic.AddInt32", "(*internal/sync.Mutex).Unlock", "internal/race.ReleaseMerge", "(*internal/sync.Mutex).unlockSlow", "internal/sync.fatal", "internal/sync.runtime_Semrelease", "slices.overlaps[shadow/node.Kid]", "slices.overlaps[shadow/api.Pair]"], unfollowed := true, recurses := true, named := ["errors.errorType"], apart := false, laid := [("errors.errorType", laid_errors_errorType)] }
def DurableSaid : Prop := durableRow.holds Tryz.pinned (OpenSpec.ofChange durableSpec)

/-- ITS FALSE NEIGHBOUR: 'it returns false'. Refute it at one input. -/
def durableWrong : ChangeSpec := { name := "durable", fn := fun _ => fun
  | [d1, d2, d3] => { results := [.lit (.bool false)], args := [d1, d2, d3] }
  | _ => none }
def DurableWrongFalsely : Prop := durableRow.holds Tryz.pinned (OpenSpec.ofChange durableWrong)

/-- 'shadowkeep.Either': WHATEVER THE INPUT: true; the input reads as it did. -/
def eitherSpec : ChangeSpec := { name := "either", fn := fun _ => fun
  | [d1, d2, d3, d4, d5] => { results := [.lit (.bool true)], args := [d1, d2, d3, d4, d5] }
  | _ => none }
def eitherRow : OpenClaim := { program := "ytemondlgcmpbbaagreatdoor", sum := "fee752401cd97699cc8fbc5f4e2f02b7e5a3aebc96d9c7bfa7dd32aa64237e00", func := "shadow/shadowkeep.Either", spec := "either", inPlace := ["internal/reflectlite.ValueOf", "(internal/reflectlite.Value).Type", "(internal/reflectlite.Value).IsNil", "internal/reflectlite.TypeOf", "(internal/reflectlite.Value).Elem", "(internal/reflectlite.Value).Set", "(*internal/sync.Mutex).Lock", "internal/race.Disable", "sync/atomic.CompareAndSwapInt32", "internal/race.Enable", "internal/race.Acquire", "(*internal/sync.Mutex).lockSlow", "internal/sync.runtime_canSpin", "internal/sync.runtime_doSpin", "internal/sync.throw", "internal/sync.runtime_nanotime", "internal/sync.runtime_SemacquireMutex", "sync/atomic.AddInt32", "(*internal/sync.Mutex).Unlock", "internal/race.ReleaseMerge", "(*internal/sync.Mutex).unlockSlow", "internal/sync.fatal", "internal/sync.runtime_Semrelease", "slices.overlaps[shadow/node.Kid]", "slices.overlaps[shadow/api.Pair]"], unfollowed := true, recurses := true, named := ["errors.errorType"], apart := false, laid := [("errors.errorType", laid_errors_errorType)] }
def EitherSaid : Prop := eitherRow.holds Tryz.pinned (OpenSpec.ofChange eitherSpec)

/-- ITS FALSE NEIGHBOUR: 'it returns false'. Refute it at one input. -/
def eitherWrong : ChangeSpec := { name := "either", fn := fun _ => fun
  | [d1, d2, d3, d4, d5] => { results := [.lit (.bool false)], args := [d1, d2, d3, d4, d5] }
  | _ => none }
def EitherWrongFalsely : Prop := eitherRow.holds Tryz.pinned (OpenSpec.ofChange eitherWrong)

/-- 'shadowkeep.Flipped': WHATEVER THE INPUT: true; the input reads as it did. -/
def flippedSpec : ChangeSpec := { name := "flipped", fn := fun _ => fun
  | [d1, d2, d3] => { results := [.lit (.bool true)], args := [d1, d2, d3] }
  | _ => none }
def flippedRow : OpenClaim := { program := "ytemondlgcmpbbaagreatdoor", sum := "fee752401cd97699cc8fbc5f4e2f02b7e5a3aebc96d9c7bfa7dd32aa64237e00", func := "shadow/shadowkeep.Flipped", spec := "flipped", inPlace := ["internal/reflectlite.ValueOf", "(internal/reflectlite.Value).Type", "(internal/reflectlite.Value).IsNil", "internal/reflectlite.TypeOf", "(internal/reflectlite.Value).Elem", "(internal/reflectlite.Value).Set", "(*internal/sync.Mutex).Lock", "internal/race.Disable", "sync/atomic.CompareAndSwapInt32", "internal/race.Enable", "internal/race.Acquire", "(*internal/sync.Mutex).lockSlow", "internal/sync.runtime_canSpin", "internal/sync.runtime_doSpin", "internal/sync.throw", "internal/sync.runtime_nanotime", "internal/sync.runtime_SemacquireMutex", "sync/atomic.AddInt32", "(*internal/sync.Mutex).Unlock", "internal/race.ReleaseMerge", "(*internal/sync.Mutex).unlockSlow", "internal/sync.fatal", "internal/sync.runtime_Semrelease", "slices.overlaps[shadow/node.Kid]", "slices.overlaps[shadow/api.Pair]"], unfollowed := true, recurses := true, named := ["errors.errorType"], apart := false, laid := [("errors.errorType", laid_errors_errorType)] }
def FlippedSaid : Prop := flippedRow.holds Tryz.pinned (OpenSpec.ofChange flippedSpec)

/-- ITS FALSE NEIGHBOUR: 'it returns false'. Refute it at one input. -/
def flippedWrong : ChangeSpec := { name := "flipped", fn := fun _ => fun
  | [d1, d2, d3] => { results := [.lit (.bool false)], args := [d1, d2, d3] }
  | _ => none }
def FlippedWrongFalsely : Prop := flippedRow.holds Tryz.pinned (OpenSpec.ofChange flippedWrong)

/-- 'shadowkeep.Poisoned': WHATEVER THE INPUT: true; the input reads as it did. -/
def poisonedSpec : ChangeSpec := { name := "poisoned", fn := fun _ => fun
  | [d1, d2, d3, d4, d5] => { results := [.lit (.bool true)], args := [d1, d2, d3, d4, d5] }
  | _ => none }
def poisonedRow : OpenClaim := { program := "ytemondlgcmpbbaagreatdoor", sum := "fee752401cd97699cc8fbc5f4e2f02b7e5a3aebc96d9c7bfa7dd32aa64237e00", func := "shadow/shadowkeep.Poisoned", spec := "poisoned", inPlace := ["internal/reflectlite.ValueOf", "(internal/reflectlite.Value).Type", "(internal/reflectlite.Value).IsNil", "internal/reflectlite.TypeOf", "(internal/reflectlite.Value).Elem", "(internal/reflectlite.Value).Set", "(*internal/sync.Mutex).Lock", "internal/race.Disable", "sync/atomic.CompareAndSwapInt32", "internal/race.Enable", "internal/race.Acquire", "(*internal/sync.Mutex).lockSlow", "internal/sync.runtime_canSpin", "internal/sync.runtime_doSpin", "internal/sync.throw", "internal/sync.runtime_nanotime", "internal/sync.runtime_SemacquireMutex", "sync/atomic.AddInt32", "(*internal/sync.Mutex).Unlock", "internal/race.ReleaseMerge", "(*internal/sync.Mutex).unlockSlow", "internal/sync.fatal", "internal/sync.runtime_Semrelease", "slices.overlaps[shadow/node.Kid]", "slices.overlaps[shadow/api.Pair]"], unfollowed := true, recurses := true, named := ["errors.errorType"], apart := false, laid := [("errors.errorType", laid_errors_errorType)] }
def PoisonedSaid : Prop := poisonedRow.holds Tryz.pinned (OpenSpec.ofChange poisonedSpec)

/-- ITS FALSE NEIGHBOUR: 'it returns false'. Refute it at one input. -/
def poisonedWrong : ChangeSpec := { name := "poisoned", fn := fun _ => fun
  | [d1, d2, d3, d4, d5] => { results := [.lit (.bool false)], args := [d1, d2, d3, d4, d5] }
  | _ => none }
def PoisonedWrongFalsely : Prop := poisonedRow.holds Tryz.pinned (OpenSpec.ofChange poisonedWrong)

/-- 'shadowkeep.Steps': WHATEVER THE INPUT: true; the input reads as it did. -/
def stepsSpec : ChangeSpec := { name := "steps", fn := fun _ => fun
  | [d1, d2, d3] => { results := [.lit (.bool true)], args := [d1, d2, d3] }
  | _ => none }
def stepsRow : OpenClaim := { program := "ytemondlgcmpbbaagreatdoor", sum := "fee752401cd97699cc8fbc5f4e2f02b7e5a3aebc96d9c7bfa7dd32aa64237e00", func := "shadow/shadowkeep.Steps", spec := "steps", inPlace := ["internal/reflectlite.ValueOf", "(internal/reflectlite.Value).Type", "(internal/reflectlite.Value).IsNil", "internal/reflectlite.TypeOf", "(internal/reflectlite.Value).Elem", "(internal/reflectlite.Value).Set", "(*internal/sync.Mutex).Lock", "internal/race.Disable", "sync/atomic.CompareAndSwapInt32", "internal/race.Enable", "internal/race.Acquire", "(*internal/sync.Mutex).lockSlow", "internal/sync.runtime_canSpin", "internal/sync.runtime_doSpin", "internal/sync.throw", "internal/sync.runtime_nanotime", "internal/sync.runtime_SemacquireMutex", "sync/atomic.AddInt32", "(*internal/sync.Mutex).Unlock", "internal/race.ReleaseMerge", "(*internal/sync.Mutex).unlockSlow", "internal/sync.fatal", "internal/sync.runtime_Semrelease", "slices.overlaps[shadow/node.Kid]", "slices.overlaps[shadow/api.Pair]"], unfollowed := true, recurses := true, named := ["errors.errorType"], apart := false, laid := [("errors.errorType", laid_errors_errorType)] }
def StepsSaid : Prop := stepsRow.holds Tryz.pinned (OpenSpec.ofChange stepsSpec)

/-- ITS FALSE NEIGHBOUR: 'it returns false'. Refute it at one input. -/
def stepsWrong : ChangeSpec := { name := "steps", fn := fun _ => fun
  | [d1, d2, d3] => { results := [.lit (.bool false)], args := [d1, d2, d3] }
  | _ => none }
def StepsWrongFalsely : Prop := stepsRow.holds Tryz.pinned (OpenSpec.ofChange stepsWrong)

/-- 'shadowlaw.Opens': WHATEVER THE INPUT: true; the input reads as it did. -/
def opensSpec : ChangeSpec := { name := "opens", fn := fun _ => fun
  | [d] => { results := [.lit (.bool true)], args := [d] }
  | _ => none }
def opensRow : OpenClaim := { program := "ytemondlgcmpbbaagreatdoor", sum := "fee752401cd97699cc8fbc5f4e2f02b7e5a3aebc96d9c7bfa7dd32aa64237e00", func := "shadow/shadowlaw.Opens", spec := "opens", inPlace := ["internal/reflectlite.ValueOf", "(internal/reflectlite.Value).Type", "(internal/reflectlite.Value).IsNil", "internal/reflectlite.TypeOf", "(internal/reflectlite.Value).Elem", "(internal/reflectlite.Value).Set", "(*internal/sync.Mutex).Lock", "internal/race.Disable", "sync/atomic.CompareAndSwapInt32", "internal/race.Enable", "internal/race.Acquire", "(*internal/sync.Mutex).lockSlow", "internal/sync.runtime_canSpin", "internal/sync.runtime_doSpin", "internal/sync.throw", "internal/sync.runtime_nanotime", "internal/sync.runtime_SemacquireMutex", "sync/atomic.AddInt32", "(*internal/sync.Mutex).Unlock", "internal/race.ReleaseMerge", "(*internal/sync.Mutex).unlockSlow", "internal/sync.fatal", "internal/sync.runtime_Semrelease", "slices.overlaps[shadow/node.Kid]", "slices.overlaps[shadow/api.Pair]"], unfollowed := true, recurses := true, named := ["errors.errorType"], apart := false, laid := [("errors.errorType", laid_errors_errorType)] }
def OpensSaid : Prop := opensRow.holds Tryz.pinned (OpenSpec.ofChange opensSpec)

/-- ITS FALSE NEIGHBOUR: 'it returns false'. Refute it at one input. -/
def opensWrong : ChangeSpec := { name := "opens", fn := fun _ => fun
  | [d] => { results := [.lit (.bool false)], args := [d] }
  | _ => none }
def OpensWrongFalsely : Prop := opensRow.holds Tryz.pinned (OpenSpec.ofChange opensWrong)

/-- 'shadowlaw.Txns': WHATEVER THE INPUT: true; the input reads as it did. -/
def txnsSpec : ChangeSpec := { name := "txns", fn := fun _ => fun
  | [d] => { results := [.lit (.bool true)], args := [d] }
  | _ => none }
def txnsRow : OpenClaim := { program := "ytemondlgcmpbbaagreatdoor", sum := "fee752401cd97699cc8fbc5f4e2f02b7e5a3aebc96d9c7bfa7dd32aa64237e00", func := "shadow/shadowlaw.Txns", spec := "txns", inPlace := ["internal/reflectlite.ValueOf", "(internal/reflectlite.Value).Type", "(internal/reflectlite.Value).IsNil", "internal/reflectlite.TypeOf", "(internal/reflectlite.Value).Elem", "(internal/reflectlite.Value).Set", "(*internal/sync.Mutex).Lock", "internal/race.Disable", "sync/atomic.CompareAndSwapInt32", "internal/race.Enable", "internal/race.Acquire", "(*internal/sync.Mutex).lockSlow", "internal/sync.runtime_canSpin", "internal/sync.runtime_doSpin", "internal/sync.throw", "internal/sync.runtime_nanotime", "internal/sync.runtime_SemacquireMutex", "sync/atomic.AddInt32", "(*internal/sync.Mutex).Unlock", "internal/race.ReleaseMerge", "(*internal/sync.Mutex).unlockSlow", "internal/sync.fatal", "internal/sync.runtime_Semrelease", "slices.overlaps[shadow/node.Kid]", "slices.overlaps[shadow/api.Pair]"], unfollowed := true, recurses := true, named := ["errors.errorType"], apart := false, laid := [("errors.errorType", laid_errors_errorType)] }
def TxnsSaid : Prop := txnsRow.holds Tryz.pinned (OpenSpec.ofChange txnsSpec)

/-- ITS FALSE NEIGHBOUR: 'it returns false'. Refute it at one input. -/
def txnsWrong : ChangeSpec := { name := "txns", fn := fun _ => fun
  | [d] => { results := [.lit (.bool false)], args := [d] }
  | _ => none }
def TxnsWrongFalsely : Prop := txnsRow.holds Tryz.pinned (OpenSpec.ofChange txnsWrong)

/-- 'shadowlaw.Moves': WHATEVER THE INPUT: true; the input reads as it did. -/
def movesSpec : ChangeSpec := { name := "moves", fn := fun _ => fun
  | [d] => { results := [.lit (.bool true)], args := [d] }
  | _ => none }
def movesRow : OpenClaim := { program := "ytemondlgcmpbbaagreatdoor", sum := "fee752401cd97699cc8fbc5f4e2f02b7e5a3aebc96d9c7bfa7dd32aa64237e00", func := "shadow/shadowlaw.Moves", spec := "moves", inPlace := ["internal/reflectlite.ValueOf", "(internal/reflectlite.Value).Type", "(internal/reflectlite.Value).IsNil", "internal/reflectlite.TypeOf", "(internal/reflectlite.Value).Elem", "(internal/reflectlite.Value).Set", "(*internal/sync.Mutex).Lock", "internal/race.Disable", "sync/atomic.CompareAndSwapInt32", "internal/race.Enable", "internal/race.Acquire", "(*internal/sync.Mutex).lockSlow", "internal/sync.runtime_canSpin", "internal/sync.runtime_doSpin", "internal/sync.throw", "internal/sync.runtime_nanotime", "internal/sync.runtime_SemacquireMutex", "sync/atomic.AddInt32", "(*internal/sync.Mutex).Unlock", "internal/race.ReleaseMerge", "(*internal/sync.Mutex).unlockSlow", "internal/sync.fatal", "internal/sync.runtime_Semrelease", "slices.overlaps[shadow/node.Kid]", "slices.overlaps[shadow/api.Pair]"], unfollowed := true, recurses := true, named := ["errors.errorType"], apart := false, laid := [("errors.errorType", laid_errors_errorType)] }
def MovesSaid : Prop := movesRow.holds Tryz.pinned (OpenSpec.ofChange movesSpec)

/-- ITS FALSE NEIGHBOUR: 'it returns false'. Refute it at one input. -/
def movesWrong : ChangeSpec := { name := "moves", fn := fun _ => fun
  | [d] => { results := [.lit (.bool false)], args := [d] }
  | _ => none }
def MovesWrongFalsely : Prop := movesRow.holds Tryz.pinned (OpenSpec.ofChange movesWrong)

/-- 'shadowlaw.Commits': WHATEVER THE INPUT: true; the input reads as it did. -/
def commitsSpec : ChangeSpec := { name := "commits", fn := fun _ => fun
  | [d] => { results := [.lit (.bool true)], args := [d] }
  | _ => none }
def commitsRow : OpenClaim := { program := "ytemondlgcmpbbaagreatdoor", sum := "fee752401cd97699cc8fbc5f4e2f02b7e5a3aebc96d9c7bfa7dd32aa64237e00", func := "shadow/shadowlaw.Commits", spec := "commits", inPlace := ["internal/reflectlite.ValueOf", "(internal/reflectlite.Value).Type", "(internal/reflectlite.Value).IsNil", "internal/reflectlite.TypeOf", "(internal/reflectlite.Value).Elem", "(internal/reflectlite.Value).Set", "(*internal/sync.Mutex).Lock", "internal/race.Disable", "sync/atomic.CompareAndSwapInt32", "internal/race.Enable", "internal/race.Acquire", "(*internal/sync.Mutex).lockSlow", "internal/sync.runtime_canSpin", "internal/sync.runtime_doSpin", "internal/sync.throw", "internal/sync.runtime_nanotime", "internal/sync.runtime_SemacquireMutex", "sync/atomic.AddInt32", "(*internal/sync.Mutex).Unlock", "internal/race.ReleaseMerge", "(*internal/sync.Mutex).unlockSlow", "internal/sync.fatal", "internal/sync.runtime_Semrelease", "slices.overlaps[shadow/node.Kid]", "slices.overlaps[shadow/api.Pair]"], unfollowed := true, recurses := true, named := ["errors.errorType"], apart := false, laid := [("errors.errorType", laid_errors_errorType)] }
def CommitsSaid : Prop := commitsRow.holds Tryz.pinned (OpenSpec.ofChange commitsSpec)

/-- ITS FALSE NEIGHBOUR: 'it returns false'. Refute it at one input. -/
def commitsWrong : ChangeSpec := { name := "commits", fn := fun _ => fun
  | [d] => { results := [.lit (.bool false)], args := [d] }
  | _ => none }
def CommitsWrongFalsely : Prop := commitsRow.holds Tryz.pinned (OpenSpec.ofChange commitsWrong)

/-- 'shadowlaw.Crashes': WHATEVER THE INPUT: true; the input reads as it did. -/
def crashesSpec : ChangeSpec := { name := "crashes", fn := fun _ => fun
  | [d] => { results := [.lit (.bool true)], args := [d] }
  | _ => none }
def crashesRow : OpenClaim := { program := "ytemondlgcmpbbaagreatdoor", sum := "fee752401cd97699cc8fbc5f4e2f02b7e5a3aebc96d9c7bfa7dd32aa64237e00", func := "shadow/shadowlaw.Crashes", spec := "crashes", inPlace := ["internal/reflectlite.ValueOf", "(internal/reflectlite.Value).Type", "(internal/reflectlite.Value).IsNil", "internal/reflectlite.TypeOf", "(internal/reflectlite.Value).Elem", "(internal/reflectlite.Value).Set", "(*internal/sync.Mutex).Lock", "internal/race.Disable", "sync/atomic.CompareAndSwapInt32", "internal/race.Enable", "internal/race.Acquire", "(*internal/sync.Mutex).lockSlow", "internal/sync.runtime_canSpin", "internal/sync.runtime_doSpin", "internal/sync.throw", "internal/sync.runtime_nanotime", "internal/sync.runtime_SemacquireMutex", "sync/atomic.AddInt32", "(*internal/sync.Mutex).Unlock", "internal/race.ReleaseMerge", "(*internal/sync.Mutex).unlockSlow", "internal/sync.fatal", "internal/sync.runtime_Semrelease", "slices.overlaps[shadow/node.Kid]", "slices.overlaps[shadow/api.Pair]"], unfollowed := true, recurses := true, named := ["errors.errorType"], apart := false, laid := [("errors.errorType", laid_errors_errorType)] }
def CrashesSaid : Prop := crashesRow.holds Tryz.pinned (OpenSpec.ofChange crashesSpec)

/-- ITS FALSE NEIGHBOUR: 'it returns false'. Refute it at one input. -/
def crashesWrong : ChangeSpec := { name := "crashes", fn := fun _ => fun
  | [d] => { results := [.lit (.bool false)], args := [d] }
  | _ => none }
def CrashesWrongFalsely : Prop := crashesRow.holds Tryz.pinned (OpenSpec.ofChange crashesWrong)

/-- 'shadowlaw.Faults': WHATEVER THE INPUT: true; the input reads as it did. -/
def faultsSpec : ChangeSpec := { name := "faults", fn := fun _ => fun
  | [d] => { results := [.lit (.bool true)], args := [d] }
  | _ => none }
def faultsRow : OpenClaim := { program := "ytemondlgcmpbbaagreatdoor", sum := "fee752401cd97699cc8fbc5f4e2f02b7e5a3aebc96d9c7bfa7dd32aa64237e00", func := "shadow/shadowlaw.Faults", spec := "faults", inPlace := ["internal/reflectlite.ValueOf", "(internal/reflectlite.Value).Type", "(internal/reflectlite.Value).IsNil", "internal/reflectlite.TypeOf", "(internal/reflectlite.Value).Elem", "(internal/reflectlite.Value).Set", "(*internal/sync.Mutex).Lock", "internal/race.Disable", "sync/atomic.CompareAndSwapInt32", "internal/race.Enable", "internal/race.Acquire", "(*internal/sync.Mutex).lockSlow", "internal/sync.runtime_canSpin", "internal/sync.runtime_doSpin", "internal/sync.throw", "internal/sync.runtime_nanotime", "internal/sync.runtime_SemacquireMutex", "sync/atomic.AddInt32", "(*internal/sync.Mutex).Unlock", "internal/race.ReleaseMerge", "(*internal/sync.Mutex).unlockSlow", "internal/sync.fatal", "internal/sync.runtime_Semrelease", "slices.overlaps[shadow/node.Kid]", "slices.overlaps[shadow/api.Pair]"], unfollowed := true, recurses := true, named := ["errors.errorType"], apart := false, laid := [("errors.errorType", laid_errors_errorType)] }
def FaultsSaid : Prop := faultsRow.holds Tryz.pinned (OpenSpec.ofChange faultsSpec)

/-- ITS FALSE NEIGHBOUR: 'it returns false'. Refute it at one input. -/
def faultsWrong : ChangeSpec := { name := "faults", fn := fun _ => fun
  | [d] => { results := [.lit (.bool false)], args := [d] }
  | _ => none }
def FaultsWrongFalsely : Prop := faultsRow.holds Tryz.pinned (OpenSpec.ofChange faultsWrong)

/- THE SECOND FORM. 'bulk': how many values and letters a reading holds, each counted each time it is reached (what is shared counts as often as it is met; a slice's spare places count too). A statement '..UptoSaid' is the law's where the arguments, and the package variables that the reading takes, are together of bulk at most 1048576: NARROWER than '..Said'. Prove '..Said' where nothing that the law and all that it calls make is longer than what came in: it says more and counts as full. Else prove '..UptoSaid'. A law counts once. -/
mutual
def uptoBulk {H : Type} : DataW H → Nat
  | .lit (.string bytes) => bytes.length + 1
  | .lit _ => 1
  | .nil => 1
  | .ptr d => uptoBulk d + 1
  | .slice elems spare => uptoBulkAll elems + uptoBulkAll spare + 1
  | .agg parts => uptoBulkAll parts + 1
  | .iface _ d => uptoBulk d + 1
  | .map entries => uptoBulkEntries entries + 1
  | .held _ => 1
def uptoBulkAll {H : Type} : List (DataW H) → Nat
  | [] => 0
  | d :: r => uptoBulk d + uptoBulkAll r
def uptoBulkEntries {H : Type} : List (Lit × DataW H) → Nat
  | [] => 0
  | x :: r => uptoBulkEntry x + uptoBulkEntries r
def uptoBulkEntry {H : Type} : Lit × DataW H → Nat
  | (.string bytes, d) => bytes.length + uptoBulk d + 1
  | (_, d) => uptoBulk d + 1
 end
def uptoSmall : (H : Type) → List (DataW H) → Bool := fun _ ds => decide (uptoBulkAll ds ≤ 1048576)
def OpenSpec.upto (s : _root_.Go.ChangeSpec) : _root_.Go.OpenSpec := { _root_.Go.OpenSpec.ofChange s with cond := some uptoSmall }

/-- 'shadowkeep.Cheap', WHERE WHAT IT READS IS OF BULK AT MOST 1048576: true; the input reads as it did. -/
def cheapUptoRow : OpenClaim := { program := "ytemondlgcmpbbaagreatdoor", sum := "fee752401cd97699cc8fbc5f4e2f02b7e5a3aebc96d9c7bfa7dd32aa64237e00", func := "shadow/shadowkeep.Cheap", spec := "cheap", inPlace := ["internal/reflectlite.ValueOf", "(internal/reflectlite.Value).Type", "(internal/reflectlite.Value).IsNil", "internal/reflectlite.TypeOf", "(internal/reflectlite.Value).Elem", "(internal/reflectlite.Value).Set", "(*internal/sync.Mutex).Lock", "internal/race.Disable", "sync/atomic.CompareAndSwapInt32", "internal/race.Enable", "internal/race.Acquire", "(*internal/sync.Mutex).lockSlow", "internal/sync.runtime_canSpin", "internal/sync.runtime_doSpin", "internal/sync.throw", "internal/sync.runtime_nanotime", "internal/sync.runtime_SemacquireMutex", "sync/atomic.AddInt32", "(*internal/sync.Mutex).Unlock", "internal/race.ReleaseMerge", "(*internal/sync.Mutex).unlockSlow", "internal/sync.fatal", "internal/sync.runtime_Semrelease", "slices.overlaps[shadow/api.Pair]", "slices.overlaps[shadow/node.Kid]"], unfollowed := true, recurses := true, named := ["errors.errorType"], apart := false, laid := [("errors.errorType", laid_errors_errorType)], narrowed := true }
def CheapUptoSaid : Prop := cheapUptoRow.holds Tryz.pinned (OpenSpec.upto cheapSpec)

/-- 'shadowkeep.Spare', WHERE WHAT IT READS IS OF BULK AT MOST 1048576: true; the input reads as it did. -/
def spareUptoRow : OpenClaim := { program := "ytemondlgcmpbbaagreatdoor", sum := "fee752401cd97699cc8fbc5f4e2f02b7e5a3aebc96d9c7bfa7dd32aa64237e00", func := "shadow/shadowkeep.Spare", spec := "spare", inPlace := ["internal/reflectlite.ValueOf", "(internal/reflectlite.Value).Type", "(internal/reflectlite.Value).IsNil", "internal/reflectlite.TypeOf", "(internal/reflectlite.Value).Elem", "(internal/reflectlite.Value).Set", "(*internal/sync.Mutex).Lock", "internal/race.Disable", "sync/atomic.CompareAndSwapInt32", "internal/race.Enable", "internal/race.Acquire", "(*internal/sync.Mutex).lockSlow", "internal/sync.runtime_canSpin", "internal/sync.runtime_doSpin", "internal/sync.throw", "internal/sync.runtime_nanotime", "internal/sync.runtime_SemacquireMutex", "sync/atomic.AddInt32", "(*internal/sync.Mutex).Unlock", "internal/race.ReleaseMerge", "(*internal/sync.Mutex).unlockSlow", "internal/sync.fatal", "internal/sync.runtime_Semrelease", "slices.overlaps[shadow/api.Pair]", "slices.overlaps[shadow/node.Kid]"], unfollowed := true, recurses := true, named := ["errors.errorType"], apart := false, laid := [("errors.errorType", laid_errors_errorType)], narrowed := true }
def SpareUptoSaid : Prop := spareUptoRow.holds Tryz.pinned (OpenSpec.upto spareSpec)

/-- 'shadowkeep.Shots', WHERE WHAT IT READS IS OF BULK AT MOST 1048576: true; the input reads as it did. -/
def shotsUptoRow : OpenClaim := { program := "ytemondlgcmpbbaagreatdoor", sum := "fee752401cd97699cc8fbc5f4e2f02b7e5a3aebc96d9c7bfa7dd32aa64237e00", func := "shadow/shadowkeep.Shots", spec := "shots", inPlace := ["internal/reflectlite.ValueOf", "(internal/reflectlite.Value).Type", "(internal/reflectlite.Value).IsNil", "internal/reflectlite.TypeOf", "(internal/reflectlite.Value).Elem", "(internal/reflectlite.Value).Set", "(*internal/sync.Mutex).Lock", "internal/race.Disable", "sync/atomic.CompareAndSwapInt32", "internal/race.Enable", "internal/race.Acquire", "(*internal/sync.Mutex).lockSlow", "internal/sync.runtime_canSpin", "internal/sync.runtime_doSpin", "internal/sync.throw", "internal/sync.runtime_nanotime", "internal/sync.runtime_SemacquireMutex", "sync/atomic.AddInt32", "(*internal/sync.Mutex).Unlock", "internal/race.ReleaseMerge", "(*internal/sync.Mutex).unlockSlow", "internal/sync.fatal", "internal/sync.runtime_Semrelease", "slices.overlaps[shadow/node.Kid]", "slices.overlaps[shadow/api.Pair]"], unfollowed := true, recurses := true, named := ["errors.errorType"], apart := false, laid := [("errors.errorType", laid_errors_errorType)], narrowed := true }
def ShotsUptoSaid : Prop := shotsUptoRow.holds Tryz.pinned (OpenSpec.upto shotsSpec)

/-- 'shadowkeep.Aborted', WHERE WHAT IT READS IS OF BULK AT MOST 1048576: true; the input reads as it did. -/
def abortedUptoRow : OpenClaim := { program := "ytemondlgcmpbbaagreatdoor", sum := "fee752401cd97699cc8fbc5f4e2f02b7e5a3aebc96d9c7bfa7dd32aa64237e00", func := "shadow/shadowkeep.Aborted", spec := "aborted", inPlace := ["internal/reflectlite.ValueOf", "(internal/reflectlite.Value).Type", "(internal/reflectlite.Value).IsNil", "internal/reflectlite.TypeOf", "(internal/reflectlite.Value).Elem", "(internal/reflectlite.Value).Set", "(*internal/sync.Mutex).Lock", "internal/race.Disable", "sync/atomic.CompareAndSwapInt32", "internal/race.Enable", "internal/race.Acquire", "(*internal/sync.Mutex).lockSlow", "internal/sync.runtime_canSpin", "internal/sync.runtime_doSpin", "internal/sync.throw", "internal/sync.runtime_nanotime", "internal/sync.runtime_SemacquireMutex", "sync/atomic.AddInt32", "(*internal/sync.Mutex).Unlock", "internal/race.ReleaseMerge", "(*internal/sync.Mutex).unlockSlow", "internal/sync.fatal", "internal/sync.runtime_Semrelease", "slices.overlaps[shadow/node.Kid]", "slices.overlaps[shadow/api.Pair]"], unfollowed := true, recurses := true, named := ["errors.errorType"], apart := false, laid := [("errors.errorType", laid_errors_errorType)], narrowed := true }
def AbortedUptoSaid : Prop := abortedUptoRow.holds Tryz.pinned (OpenSpec.upto abortedSpec)

/-- 'shadowkeep.Durable', WHERE WHAT IT READS IS OF BULK AT MOST 1048576: true; the input reads as it did. -/
def durableUptoRow : OpenClaim := { program := "ytemondlgcmpbbaagreatdoor", sum := "fee752401cd97699cc8fbc5f4e2f02b7e5a3aebc96d9c7bfa7dd32aa64237e00", func := "shadow/shadowkeep.Durable", spec := "durable", inPlace := ["internal/reflectlite.ValueOf", "(internal/reflectlite.Value).Type", "(internal/reflectlite.Value).IsNil", "internal/reflectlite.TypeOf", "(internal/reflectlite.Value).Elem", "(internal/reflectlite.Value).Set", "(*internal/sync.Mutex).Lock", "internal/race.Disable", "sync/atomic.CompareAndSwapInt32", "internal/race.Enable", "internal/race.Acquire", "(*internal/sync.Mutex).lockSlow", "internal/sync.runtime_canSpin", "internal/sync.runtime_doSpin", "internal/sync.throw", "internal/sync.runtime_nanotime", "internal/sync.runtime_SemacquireMutex", "sync/atomic.AddInt32", "(*internal/sync.Mutex).Unlock", "internal/race.ReleaseMerge", "(*internal/sync.Mutex).unlockSlow", "internal/sync.fatal", "internal/sync.runtime_Semrelease", "slices.overlaps[shadow/node.Kid]", "slices.overlaps[shadow/api.Pair]"], unfollowed := true, recurses := true, named := ["errors.errorType"], apart := false, laid := [("errors.errorType", laid_errors_errorType)], narrowed := true }
def DurableUptoSaid : Prop := durableUptoRow.holds Tryz.pinned (OpenSpec.upto durableSpec)

/-- 'shadowkeep.Either', WHERE WHAT IT READS IS OF BULK AT MOST 1048576: true; the input reads as it did. -/
def eitherUptoRow : OpenClaim := { program := "ytemondlgcmpbbaagreatdoor", sum := "fee752401cd97699cc8fbc5f4e2f02b7e5a3aebc96d9c7bfa7dd32aa64237e00", func := "shadow/shadowkeep.Either", spec := "either", inPlace := ["internal/reflectlite.ValueOf", "(internal/reflectlite.Value).Type", "(internal/reflectlite.Value).IsNil", "internal/reflectlite.TypeOf", "(internal/reflectlite.Value).Elem", "(internal/reflectlite.Value).Set", "(*internal/sync.Mutex).Lock", "internal/race.Disable", "sync/atomic.CompareAndSwapInt32", "internal/race.Enable", "internal/race.Acquire", "(*internal/sync.Mutex).lockSlow", "internal/sync.runtime_canSpin", "internal/sync.runtime_doSpin", "internal/sync.throw", "internal/sync.runtime_nanotime", "internal/sync.runtime_SemacquireMutex", "sync/atomic.AddInt32", "(*internal/sync.Mutex).Unlock", "internal/race.ReleaseMerge", "(*internal/sync.Mutex).unlockSlow", "internal/sync.fatal", "internal/sync.runtime_Semrelease", "slices.overlaps[shadow/node.Kid]", "slices.overlaps[shadow/api.Pair]"], unfollowed := true, recurses := true, named := ["errors.errorType"], apart := false, laid := [("errors.errorType", laid_errors_errorType)], narrowed := true }
def EitherUptoSaid : Prop := eitherUptoRow.holds Tryz.pinned (OpenSpec.upto eitherSpec)

/-- 'shadowkeep.Flipped', WHERE WHAT IT READS IS OF BULK AT MOST 1048576: true; the input reads as it did. -/
def flippedUptoRow : OpenClaim := { program := "ytemondlgcmpbbaagreatdoor", sum := "fee752401cd97699cc8fbc5f4e2f02b7e5a3aebc96d9c7bfa7dd32aa64237e00", func := "shadow/shadowkeep.Flipped", spec := "flipped", inPlace := ["internal/reflectlite.ValueOf", "(internal/reflectlite.Value).Type", "(internal/reflectlite.Value).IsNil", "internal/reflectlite.TypeOf", "(internal/reflectlite.Value).Elem", "(internal/reflectlite.Value).Set", "(*internal/sync.Mutex).Lock", "internal/race.Disable", "sync/atomic.CompareAndSwapInt32", "internal/race.Enable", "internal/race.Acquire", "(*internal/sync.Mutex).lockSlow", "internal/sync.runtime_canSpin", "internal/sync.runtime_doSpin", "internal/sync.throw", "internal/sync.runtime_nanotime", "internal/sync.runtime_SemacquireMutex", "sync/atomic.AddInt32", "(*internal/sync.Mutex).Unlock", "internal/race.ReleaseMerge", "(*internal/sync.Mutex).unlockSlow", "internal/sync.fatal", "internal/sync.runtime_Semrelease", "slices.overlaps[shadow/node.Kid]", "slices.overlaps[shadow/api.Pair]"], unfollowed := true, recurses := true, named := ["errors.errorType"], apart := false, laid := [("errors.errorType", laid_errors_errorType)], narrowed := true }
def FlippedUptoSaid : Prop := flippedUptoRow.holds Tryz.pinned (OpenSpec.upto flippedSpec)

/-- 'shadowkeep.Poisoned', WHERE WHAT IT READS IS OF BULK AT MOST 1048576: true; the input reads as it did. -/
def poisonedUptoRow : OpenClaim := { program := "ytemondlgcmpbbaagreatdoor", sum := "fee752401cd97699cc8fbc5f4e2f02b7e5a3aebc96d9c7bfa7dd32aa64237e00", func := "shadow/shadowkeep.Poisoned", spec := "poisoned", inPlace := ["internal/reflectlite.ValueOf", "(internal/reflectlite.Value).Type", "(internal/reflectlite.Value).IsNil", "internal/reflectlite.TypeOf", "(internal/reflectlite.Value).Elem", "(internal/reflectlite.Value).Set", "(*internal/sync.Mutex).Lock", "internal/race.Disable", "sync/atomic.CompareAndSwapInt32", "internal/race.Enable", "internal/race.Acquire", "(*internal/sync.Mutex).lockSlow", "internal/sync.runtime_canSpin", "internal/sync.runtime_doSpin", "internal/sync.throw", "internal/sync.runtime_nanotime", "internal/sync.runtime_SemacquireMutex", "sync/atomic.AddInt32", "(*internal/sync.Mutex).Unlock", "internal/race.ReleaseMerge", "(*internal/sync.Mutex).unlockSlow", "internal/sync.fatal", "internal/sync.runtime_Semrelease", "slices.overlaps[shadow/node.Kid]", "slices.overlaps[shadow/api.Pair]"], unfollowed := true, recurses := true, named := ["errors.errorType"], apart := false, laid := [("errors.errorType", laid_errors_errorType)], narrowed := true }
def PoisonedUptoSaid : Prop := poisonedUptoRow.holds Tryz.pinned (OpenSpec.upto poisonedSpec)

/-- 'shadowkeep.Steps', WHERE WHAT IT READS IS OF BULK AT MOST 1048576: true; the input reads as it did. -/
def stepsUptoRow : OpenClaim := { program := "ytemondlgcmpbbaagreatdoor", sum := "fee752401cd97699cc8fbc5f4e2f02b7e5a3aebc96d9c7bfa7dd32aa64237e00", func := "shadow/shadowkeep.Steps", spec := "steps", inPlace := ["internal/reflectlite.ValueOf", "(internal/reflectlite.Value).Type", "(internal/reflectlite.Value).IsNil", "internal/reflectlite.TypeOf", "(internal/reflectlite.Value).Elem", "(internal/reflectlite.Value).Set", "(*internal/sync.Mutex).Lock", "internal/race.Disable", "sync/atomic.CompareAndSwapInt32", "internal/race.Enable", "internal/race.Acquire", "(*internal/sync.Mutex).lockSlow", "internal/sync.runtime_canSpin", "internal/sync.runtime_doSpin", "internal/sync.throw", "internal/sync.runtime_nanotime", "internal/sync.runtime_SemacquireMutex", "sync/atomic.AddInt32", "(*internal/sync.Mutex).Unlock", "internal/race.ReleaseMerge", "(*internal/sync.Mutex).unlockSlow", "internal/sync.fatal", "internal/sync.runtime_Semrelease", "slices.overlaps[shadow/node.Kid]", "slices.overlaps[shadow/api.Pair]"], unfollowed := true, recurses := true, named := ["errors.errorType"], apart := false, laid := [("errors.errorType", laid_errors_errorType)], narrowed := true }
def StepsUptoSaid : Prop := stepsUptoRow.holds Tryz.pinned (OpenSpec.upto stepsSpec)

/-- 'shadowlaw.Opens', WHERE WHAT IT READS IS OF BULK AT MOST 1048576: true; the input reads as it did. -/
def opensUptoRow : OpenClaim := { program := "ytemondlgcmpbbaagreatdoor", sum := "fee752401cd97699cc8fbc5f4e2f02b7e5a3aebc96d9c7bfa7dd32aa64237e00", func := "shadow/shadowlaw.Opens", spec := "opens", inPlace := ["internal/reflectlite.ValueOf", "(internal/reflectlite.Value).Type", "(internal/reflectlite.Value).IsNil", "internal/reflectlite.TypeOf", "(internal/reflectlite.Value).Elem", "(internal/reflectlite.Value).Set", "(*internal/sync.Mutex).Lock", "internal/race.Disable", "sync/atomic.CompareAndSwapInt32", "internal/race.Enable", "internal/race.Acquire", "(*internal/sync.Mutex).lockSlow", "internal/sync.runtime_canSpin", "internal/sync.runtime_doSpin", "internal/sync.throw", "internal/sync.runtime_nanotime", "internal/sync.runtime_SemacquireMutex", "sync/atomic.AddInt32", "(*internal/sync.Mutex).Unlock", "internal/race.ReleaseMerge", "(*internal/sync.Mutex).unlockSlow", "internal/sync.fatal", "internal/sync.runtime_Semrelease", "slices.overlaps[shadow/node.Kid]", "slices.overlaps[shadow/api.Pair]"], unfollowed := true, recurses := true, named := ["errors.errorType"], apart := false, laid := [("errors.errorType", laid_errors_errorType)], narrowed := true }
def OpensUptoSaid : Prop := opensUptoRow.holds Tryz.pinned (OpenSpec.upto opensSpec)

/-- 'shadowlaw.Txns', WHERE WHAT IT READS IS OF BULK AT MOST 1048576: true; the input reads as it did. -/
def txnsUptoRow : OpenClaim := { program := "ytemondlgcmpbbaagreatdoor", sum := "fee752401cd97699cc8fbc5f4e2f02b7e5a3aebc96d9c7bfa7dd32aa64237e00", func := "shadow/shadowlaw.Txns", spec := "txns", inPlace := ["internal/reflectlite.ValueOf", "(internal/reflectlite.Value).Type", "(internal/reflectlite.Value).IsNil", "internal/reflectlite.TypeOf", "(internal/reflectlite.Value).Elem", "(internal/reflectlite.Value).Set", "(*internal/sync.Mutex).Lock", "internal/race.Disable", "sync/atomic.CompareAndSwapInt32", "internal/race.Enable", "internal/race.Acquire", "(*internal/sync.Mutex).lockSlow", "internal/sync.runtime_canSpin", "internal/sync.runtime_doSpin", "internal/sync.throw", "internal/sync.runtime_nanotime", "internal/sync.runtime_SemacquireMutex", "sync/atomic.AddInt32", "(*internal/sync.Mutex).Unlock", "internal/race.ReleaseMerge", "(*internal/sync.Mutex).unlockSlow", "internal/sync.fatal", "internal/sync.runtime_Semrelease", "slices.overlaps[shadow/node.Kid]", "slices.overlaps[shadow/api.Pair]"], unfollowed := true, recurses := true, named := ["errors.errorType"], apart := false, laid := [("errors.errorType", laid_errors_errorType)], narrowed := true }
def TxnsUptoSaid : Prop := txnsUptoRow.holds Tryz.pinned (OpenSpec.upto txnsSpec)

/-- 'shadowlaw.Moves', WHERE WHAT IT READS IS OF BULK AT MOST 1048576: true; the input reads as it did. -/
def movesUptoRow : OpenClaim := { program := "ytemondlgcmpbbaagreatdoor", sum := "fee752401cd97699cc8fbc5f4e2f02b7e5a3aebc96d9c7bfa7dd32aa64237e00", func := "shadow/shadowlaw.Moves", spec := "moves", inPlace := ["internal/reflectlite.ValueOf", "(internal/reflectlite.Value).Type", "(internal/reflectlite.Value).IsNil", "internal/reflectlite.TypeOf", "(internal/reflectlite.Value).Elem", "(internal/reflectlite.Value).Set", "(*internal/sync.Mutex).Lock", "internal/race.Disable", "sync/atomic.CompareAndSwapInt32", "internal/race.Enable", "internal/race.Acquire", "(*internal/sync.Mutex).lockSlow", "internal/sync.runtime_canSpin", "internal/sync.runtime_doSpin", "internal/sync.throw", "internal/sync.runtime_nanotime", "internal/sync.runtime_SemacquireMutex", "sync/atomic.AddInt32", "(*internal/sync.Mutex).Unlock", "internal/race.ReleaseMerge", "(*internal/sync.Mutex).unlockSlow", "internal/sync.fatal", "internal/sync.runtime_Semrelease", "slices.overlaps[shadow/node.Kid]", "slices.overlaps[shadow/api.Pair]"], unfollowed := true, recurses := true, named := ["errors.errorType"], apart := false, laid := [("errors.errorType", laid_errors_errorType)], narrowed := true }
def MovesUptoSaid : Prop := movesUptoRow.holds Tryz.pinned (OpenSpec.upto movesSpec)

/-- 'shadowlaw.Commits', WHERE WHAT IT READS IS OF BULK AT MOST 1048576: true; the input reads as it did. -/
def commitsUptoRow : OpenClaim := { program := "ytemondlgcmpbbaagreatdoor", sum := "fee752401cd97699cc8fbc5f4e2f02b7e5a3aebc96d9c7bfa7dd32aa64237e00", func := "shadow/shadowlaw.Commits", spec := "commits", inPlace := ["internal/reflectlite.ValueOf", "(internal/reflectlite.Value).Type", "(internal/reflectlite.Value).IsNil", "internal/reflectlite.TypeOf", "(internal/reflectlite.Value).Elem", "(internal/reflectlite.Value).Set", "(*internal/sync.Mutex).Lock", "internal/race.Disable", "sync/atomic.CompareAndSwapInt32", "internal/race.Enable", "internal/race.Acquire", "(*internal/sync.Mutex).lockSlow", "internal/sync.runtime_canSpin", "internal/sync.runtime_doSpin", "internal/sync.throw", "internal/sync.runtime_nanotime", "internal/sync.runtime_SemacquireMutex", "sync/atomic.AddInt32", "(*internal/sync.Mutex).Unlock", "internal/race.ReleaseMerge", "(*internal/sync.Mutex).unlockSlow", "internal/sync.fatal", "internal/sync.runtime_Semrelease", "slices.overlaps[shadow/node.Kid]", "slices.overlaps[shadow/api.Pair]"], unfollowed := true, recurses := true, named := ["errors.errorType"], apart := false, laid := [("errors.errorType", laid_errors_errorType)], narrowed := true }
def CommitsUptoSaid : Prop := commitsUptoRow.holds Tryz.pinned (OpenSpec.upto commitsSpec)

/-- 'shadowlaw.Crashes', WHERE WHAT IT READS IS OF BULK AT MOST 1048576: true; the input reads as it did. -/
def crashesUptoRow : OpenClaim := { program := "ytemondlgcmpbbaagreatdoor", sum := "fee752401cd97699cc8fbc5f4e2f02b7e5a3aebc96d9c7bfa7dd32aa64237e00", func := "shadow/shadowlaw.Crashes", spec := "crashes", inPlace := ["internal/reflectlite.ValueOf", "(internal/reflectlite.Value).Type", "(internal/reflectlite.Value).IsNil", "internal/reflectlite.TypeOf", "(internal/reflectlite.Value).Elem", "(internal/reflectlite.Value).Set", "(*internal/sync.Mutex).Lock", "internal/race.Disable", "sync/atomic.CompareAndSwapInt32", "internal/race.Enable", "internal/race.Acquire", "(*internal/sync.Mutex).lockSlow", "internal/sync.runtime_canSpin", "internal/sync.runtime_doSpin", "internal/sync.throw", "internal/sync.runtime_nanotime", "internal/sync.runtime_SemacquireMutex", "sync/atomic.AddInt32", "(*internal/sync.Mutex).Unlock", "internal/race.ReleaseMerge", "(*internal/sync.Mutex).unlockSlow", "internal/sync.fatal", "internal/sync.runtime_Semrelease", "slices.overlaps[shadow/node.Kid]", "slices.overlaps[shadow/api.Pair]"], unfollowed := true, recurses := true, named := ["errors.errorType"], apart := false, laid := [("errors.errorType", laid_errors_errorType)], narrowed := true }
def CrashesUptoSaid : Prop := crashesUptoRow.holds Tryz.pinned (OpenSpec.upto crashesSpec)

/-- 'shadowlaw.Faults', WHERE WHAT IT READS IS OF BULK AT MOST 1048576: true; the input reads as it did. -/
def faultsUptoRow : OpenClaim := { program := "ytemondlgcmpbbaagreatdoor", sum := "fee752401cd97699cc8fbc5f4e2f02b7e5a3aebc96d9c7bfa7dd32aa64237e00", func := "shadow/shadowlaw.Faults", spec := "faults", inPlace := ["internal/reflectlite.ValueOf", "(internal/reflectlite.Value).Type", "(internal/reflectlite.Value).IsNil", "internal/reflectlite.TypeOf", "(internal/reflectlite.Value).Elem", "(internal/reflectlite.Value).Set", "(*internal/sync.Mutex).Lock", "internal/race.Disable", "sync/atomic.CompareAndSwapInt32", "internal/race.Enable", "internal/race.Acquire", "(*internal/sync.Mutex).lockSlow", "internal/sync.runtime_canSpin", "internal/sync.runtime_doSpin", "internal/sync.throw", "internal/sync.runtime_nanotime", "internal/sync.runtime_SemacquireMutex", "sync/atomic.AddInt32", "(*internal/sync.Mutex).Unlock", "internal/race.ReleaseMerge", "(*internal/sync.Mutex).unlockSlow", "internal/sync.fatal", "internal/sync.runtime_Semrelease", "slices.overlaps[shadow/node.Kid]", "slices.overlaps[shadow/api.Pair]"], unfollowed := true, recurses := true, named := ["errors.errorType"], apart := false, laid := [("errors.errorType", laid_errors_errorType)], narrowed := true }
def FaultsUptoSaid : Prop := faultsUptoRow.holds Tryz.pinned (OpenSpec.upto faultsSpec)

end Rows
end Go.Proofs.YtemondlgcmpbbaaGreatDoor
