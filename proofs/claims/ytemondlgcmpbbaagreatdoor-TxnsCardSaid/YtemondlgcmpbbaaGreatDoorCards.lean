/-
  DERIVED. GIVEN WITH THE SEED: THE CARDS: each row of YtemondlgcmpbbaaGreatDoorRows.lean that lists a variable, with what it lists TIED to the program's text (the seventh form; the later family's looks); each row that meets fmt, with fmt's text TOLD by the authors' own Lean function (tested against real Go, not proved from fmt's source: count such statements apart). THE CARD IS WHAT COUNTS. Prove the row's statement (the work); the ties are given (YtemondlgcmpbbaaGreatDoorTie.lean); close each card by the builder's one call (the guide's Derived/Test/ToyasCard.lean, 'card_holds'). Laid BY PROGRAM, IN A SANDBOX (cutbox-door.mjs). By AI agents, Wed Nov 11 2026. No macro, syntax, notation, axiom, sorry.
-/
import Derived.Test.YtemondlgcmpbbaaGreatDoorRows
import GoSem.ClaimSeven
namespace Go.Proofs.YtemondlgcmpbbaaGreatDoor
namespace Rows

/-- THE TIED CARD OF 'shadowkeep.Cheap'. -/
def cheapCard : Claim7 := { stood := { row := cheapRow, standIns := [], harness := (true, "ae320e4bf0f7b8d4d2c2a269cb99056fd51e382485e5c7c9d04e9fc7751860b1"), looks := true }, kinds := [], alts := [], laidByText := true, laidKinds := [.handle], laidTests := true, laidLooks := .later }
def CheapCardSaid : Prop := Claim7.holds Tryz.pinned (.plain (OpenSpec.ofChange cheapSpec)) cheapCard

/-- THE TIED CARD OF 'shadowkeep.Spare'. -/
def spareCard : Claim7 := { stood := { row := spareRow, standIns := [], harness := (true, "ae320e4bf0f7b8d4d2c2a269cb99056fd51e382485e5c7c9d04e9fc7751860b1"), looks := true }, kinds := [], alts := [], laidByText := true, laidKinds := [.handle], laidTests := true, laidLooks := .later }
def SpareCardSaid : Prop := Claim7.holds Tryz.pinned (.plain (OpenSpec.ofChange spareSpec)) spareCard

/-- THE TIED CARD OF 'shadowkeep.Shots'. -/
def shotsCard : Claim7 := { stood := { row := shotsRow, standIns := [], harness := (true, "ae320e4bf0f7b8d4d2c2a269cb99056fd51e382485e5c7c9d04e9fc7751860b1"), looks := true }, kinds := [], alts := [], laidByText := true, laidKinds := [.handle], laidTests := true, laidLooks := .later }
def ShotsCardSaid : Prop := Claim7.holds Tryz.pinned (.plain (OpenSpec.ofChange shotsSpec)) shotsCard

/-- THE TIED CARD OF 'shadowkeep.Aborted'. -/
def abortedCard : Claim7 := { stood := { row := abortedRow, standIns := [], harness := (true, "ae320e4bf0f7b8d4d2c2a269cb99056fd51e382485e5c7c9d04e9fc7751860b1"), looks := true }, kinds := [], alts := [], laidByText := true, laidKinds := [.handle], laidTests := true, laidLooks := .later }
def AbortedCardSaid : Prop := Claim7.holds Tryz.pinned (.plain (OpenSpec.ofChange abortedSpec)) abortedCard

/-- THE TIED CARD OF 'shadowkeep.Durable'. -/
def durableCard : Claim7 := { stood := { row := durableRow, standIns := [], harness := (true, "ae320e4bf0f7b8d4d2c2a269cb99056fd51e382485e5c7c9d04e9fc7751860b1"), looks := true }, kinds := [], alts := [], laidByText := true, laidKinds := [.handle], laidTests := true, laidLooks := .later }
def DurableCardSaid : Prop := Claim7.holds Tryz.pinned (.plain (OpenSpec.ofChange durableSpec)) durableCard

/-- THE TIED CARD OF 'shadowkeep.Either'. -/
def eitherCard : Claim7 := { stood := { row := eitherRow, standIns := [], harness := (true, "ae320e4bf0f7b8d4d2c2a269cb99056fd51e382485e5c7c9d04e9fc7751860b1"), looks := true }, kinds := [], alts := [], laidByText := true, laidKinds := [.handle], laidTests := true, laidLooks := .later }
def EitherCardSaid : Prop := Claim7.holds Tryz.pinned (.plain (OpenSpec.ofChange eitherSpec)) eitherCard

/-- THE TIED CARD OF 'shadowkeep.Flipped'. -/
def flippedCard : Claim7 := { stood := { row := flippedRow, standIns := [], harness := (true, "ae320e4bf0f7b8d4d2c2a269cb99056fd51e382485e5c7c9d04e9fc7751860b1"), looks := true }, kinds := [], alts := [], laidByText := true, laidKinds := [.handle], laidTests := true, laidLooks := .later }
def FlippedCardSaid : Prop := Claim7.holds Tryz.pinned (.plain (OpenSpec.ofChange flippedSpec)) flippedCard

/-- THE TIED CARD OF 'shadowkeep.Poisoned'. -/
def poisonedCard : Claim7 := { stood := { row := poisonedRow, standIns := [], harness := (true, "ae320e4bf0f7b8d4d2c2a269cb99056fd51e382485e5c7c9d04e9fc7751860b1"), looks := true }, kinds := [], alts := [], laidByText := true, laidKinds := [.handle], laidTests := true, laidLooks := .later }
def PoisonedCardSaid : Prop := Claim7.holds Tryz.pinned (.plain (OpenSpec.ofChange poisonedSpec)) poisonedCard

/-- THE TIED CARD OF 'shadowkeep.Steps'. -/
def stepsCard : Claim7 := { stood := { row := stepsRow, standIns := [], harness := (true, "ae320e4bf0f7b8d4d2c2a269cb99056fd51e382485e5c7c9d04e9fc7751860b1"), looks := true }, kinds := [], alts := [], laidByText := true, laidKinds := [.handle], laidTests := true, laidLooks := .later }
def StepsCardSaid : Prop := Claim7.holds Tryz.pinned (.plain (OpenSpec.ofChange stepsSpec)) stepsCard

/-- THE TIED CARD OF 'shadowlaw.Opens'. -/
def opensCard : Claim7 := { stood := { row := opensRow, standIns := [], harness := (true, "ae320e4bf0f7b8d4d2c2a269cb99056fd51e382485e5c7c9d04e9fc7751860b1"), looks := true }, kinds := [], alts := [], laidByText := true, laidKinds := [.handle], laidTests := true, laidLooks := .later }
def OpensCardSaid : Prop := Claim7.holds Tryz.pinned (.plain (OpenSpec.ofChange opensSpec)) opensCard

/-- THE TIED CARD OF 'shadowlaw.Txns'. -/
def txnsCard : Claim7 := { stood := { row := txnsRow, standIns := [], harness := (true, "ae320e4bf0f7b8d4d2c2a269cb99056fd51e382485e5c7c9d04e9fc7751860b1"), looks := true }, kinds := [], alts := [], laidByText := true, laidKinds := [.handle], laidTests := true, laidLooks := .later }
def TxnsCardSaid : Prop := Claim7.holds Tryz.pinned (.plain (OpenSpec.ofChange txnsSpec)) txnsCard

/-- THE TIED CARD OF 'shadowlaw.Moves'. -/
def movesCard : Claim7 := { stood := { row := movesRow, standIns := [], harness := (true, "ae320e4bf0f7b8d4d2c2a269cb99056fd51e382485e5c7c9d04e9fc7751860b1"), looks := true }, kinds := [], alts := [], laidByText := true, laidKinds := [.handle], laidTests := true, laidLooks := .later }
def MovesCardSaid : Prop := Claim7.holds Tryz.pinned (.plain (OpenSpec.ofChange movesSpec)) movesCard

/-- THE TIED CARD OF 'shadowlaw.Commits'. -/
def commitsCard : Claim7 := { stood := { row := commitsRow, standIns := [], harness := (true, "ae320e4bf0f7b8d4d2c2a269cb99056fd51e382485e5c7c9d04e9fc7751860b1"), looks := true }, kinds := [], alts := [], laidByText := true, laidKinds := [.handle], laidTests := true, laidLooks := .later }
def CommitsCardSaid : Prop := Claim7.holds Tryz.pinned (.plain (OpenSpec.ofChange commitsSpec)) commitsCard

/-- THE TIED CARD OF 'shadowlaw.Crashes'. -/
def crashesCard : Claim7 := { stood := { row := crashesRow, standIns := [], harness := (true, "ae320e4bf0f7b8d4d2c2a269cb99056fd51e382485e5c7c9d04e9fc7751860b1"), looks := true }, kinds := [], alts := [], laidByText := true, laidKinds := [.handle], laidTests := true, laidLooks := .later }
def CrashesCardSaid : Prop := Claim7.holds Tryz.pinned (.plain (OpenSpec.ofChange crashesSpec)) crashesCard

/-- THE TIED CARD OF 'shadowlaw.Faults'. -/
def faultsCard : Claim7 := { stood := { row := faultsRow, standIns := [], harness := (true, "ae320e4bf0f7b8d4d2c2a269cb99056fd51e382485e5c7c9d04e9fc7751860b1"), looks := true }, kinds := [], alts := [], laidByText := true, laidKinds := [.handle], laidTests := true, laidLooks := .later }
def FaultsCardSaid : Prop := Claim7.holds Tryz.pinned (.plain (OpenSpec.ofChange faultsSpec)) faultsCard

/-- THE SECOND FORM's CARD OF 'shadowkeep.Cheap'. -/
def cheapUptoCard : Claim7 := { stood := { row := cheapUptoRow, standIns := [], harness := (true, "ae320e4bf0f7b8d4d2c2a269cb99056fd51e382485e5c7c9d04e9fc7751860b1"), looks := true }, kinds := [], alts := [], laidByText := true, laidKinds := [.handle], laidTests := true, laidLooks := .later }
def CheapUptoCardSaid : Prop := Claim7.holds Tryz.pinned (.plain (OpenSpec.upto cheapSpec)) cheapUptoCard

/-- THE SECOND FORM's CARD OF 'shadowkeep.Spare'. -/
def spareUptoCard : Claim7 := { stood := { row := spareUptoRow, standIns := [], harness := (true, "ae320e4bf0f7b8d4d2c2a269cb99056fd51e382485e5c7c9d04e9fc7751860b1"), looks := true }, kinds := [], alts := [], laidByText := true, laidKinds := [.handle], laidTests := true, laidLooks := .later }
def SpareUptoCardSaid : Prop := Claim7.holds Tryz.pinned (.plain (OpenSpec.upto spareSpec)) spareUptoCard

/-- THE SECOND FORM's CARD OF 'shadowkeep.Shots'. -/
def shotsUptoCard : Claim7 := { stood := { row := shotsUptoRow, standIns := [], harness := (true, "ae320e4bf0f7b8d4d2c2a269cb99056fd51e382485e5c7c9d04e9fc7751860b1"), looks := true }, kinds := [], alts := [], laidByText := true, laidKinds := [.handle], laidTests := true, laidLooks := .later }
def ShotsUptoCardSaid : Prop := Claim7.holds Tryz.pinned (.plain (OpenSpec.upto shotsSpec)) shotsUptoCard

/-- THE SECOND FORM's CARD OF 'shadowkeep.Aborted'. -/
def abortedUptoCard : Claim7 := { stood := { row := abortedUptoRow, standIns := [], harness := (true, "ae320e4bf0f7b8d4d2c2a269cb99056fd51e382485e5c7c9d04e9fc7751860b1"), looks := true }, kinds := [], alts := [], laidByText := true, laidKinds := [.handle], laidTests := true, laidLooks := .later }
def AbortedUptoCardSaid : Prop := Claim7.holds Tryz.pinned (.plain (OpenSpec.upto abortedSpec)) abortedUptoCard

/-- THE SECOND FORM's CARD OF 'shadowkeep.Durable'. -/
def durableUptoCard : Claim7 := { stood := { row := durableUptoRow, standIns := [], harness := (true, "ae320e4bf0f7b8d4d2c2a269cb99056fd51e382485e5c7c9d04e9fc7751860b1"), looks := true }, kinds := [], alts := [], laidByText := true, laidKinds := [.handle], laidTests := true, laidLooks := .later }
def DurableUptoCardSaid : Prop := Claim7.holds Tryz.pinned (.plain (OpenSpec.upto durableSpec)) durableUptoCard

/-- THE SECOND FORM's CARD OF 'shadowkeep.Either'. -/
def eitherUptoCard : Claim7 := { stood := { row := eitherUptoRow, standIns := [], harness := (true, "ae320e4bf0f7b8d4d2c2a269cb99056fd51e382485e5c7c9d04e9fc7751860b1"), looks := true }, kinds := [], alts := [], laidByText := true, laidKinds := [.handle], laidTests := true, laidLooks := .later }
def EitherUptoCardSaid : Prop := Claim7.holds Tryz.pinned (.plain (OpenSpec.upto eitherSpec)) eitherUptoCard

/-- THE SECOND FORM's CARD OF 'shadowkeep.Flipped'. -/
def flippedUptoCard : Claim7 := { stood := { row := flippedUptoRow, standIns := [], harness := (true, "ae320e4bf0f7b8d4d2c2a269cb99056fd51e382485e5c7c9d04e9fc7751860b1"), looks := true }, kinds := [], alts := [], laidByText := true, laidKinds := [.handle], laidTests := true, laidLooks := .later }
def FlippedUptoCardSaid : Prop := Claim7.holds Tryz.pinned (.plain (OpenSpec.upto flippedSpec)) flippedUptoCard

/-- THE SECOND FORM's CARD OF 'shadowkeep.Poisoned'. -/
def poisonedUptoCard : Claim7 := { stood := { row := poisonedUptoRow, standIns := [], harness := (true, "ae320e4bf0f7b8d4d2c2a269cb99056fd51e382485e5c7c9d04e9fc7751860b1"), looks := true }, kinds := [], alts := [], laidByText := true, laidKinds := [.handle], laidTests := true, laidLooks := .later }
def PoisonedUptoCardSaid : Prop := Claim7.holds Tryz.pinned (.plain (OpenSpec.upto poisonedSpec)) poisonedUptoCard

/-- THE SECOND FORM's CARD OF 'shadowkeep.Steps'. -/
def stepsUptoCard : Claim7 := { stood := { row := stepsUptoRow, standIns := [], harness := (true, "ae320e4bf0f7b8d4d2c2a269cb99056fd51e382485e5c7c9d04e9fc7751860b1"), looks := true }, kinds := [], alts := [], laidByText := true, laidKinds := [.handle], laidTests := true, laidLooks := .later }
def StepsUptoCardSaid : Prop := Claim7.holds Tryz.pinned (.plain (OpenSpec.upto stepsSpec)) stepsUptoCard

/-- THE SECOND FORM's CARD OF 'shadowlaw.Opens'. -/
def opensUptoCard : Claim7 := { stood := { row := opensUptoRow, standIns := [], harness := (true, "ae320e4bf0f7b8d4d2c2a269cb99056fd51e382485e5c7c9d04e9fc7751860b1"), looks := true }, kinds := [], alts := [], laidByText := true, laidKinds := [.handle], laidTests := true, laidLooks := .later }
def OpensUptoCardSaid : Prop := Claim7.holds Tryz.pinned (.plain (OpenSpec.upto opensSpec)) opensUptoCard

/-- THE SECOND FORM's CARD OF 'shadowlaw.Txns'. -/
def txnsUptoCard : Claim7 := { stood := { row := txnsUptoRow, standIns := [], harness := (true, "ae320e4bf0f7b8d4d2c2a269cb99056fd51e382485e5c7c9d04e9fc7751860b1"), looks := true }, kinds := [], alts := [], laidByText := true, laidKinds := [.handle], laidTests := true, laidLooks := .later }
def TxnsUptoCardSaid : Prop := Claim7.holds Tryz.pinned (.plain (OpenSpec.upto txnsSpec)) txnsUptoCard

/-- THE SECOND FORM's CARD OF 'shadowlaw.Moves'. -/
def movesUptoCard : Claim7 := { stood := { row := movesUptoRow, standIns := [], harness := (true, "ae320e4bf0f7b8d4d2c2a269cb99056fd51e382485e5c7c9d04e9fc7751860b1"), looks := true }, kinds := [], alts := [], laidByText := true, laidKinds := [.handle], laidTests := true, laidLooks := .later }
def MovesUptoCardSaid : Prop := Claim7.holds Tryz.pinned (.plain (OpenSpec.upto movesSpec)) movesUptoCard

/-- THE SECOND FORM's CARD OF 'shadowlaw.Commits'. -/
def commitsUptoCard : Claim7 := { stood := { row := commitsUptoRow, standIns := [], harness := (true, "ae320e4bf0f7b8d4d2c2a269cb99056fd51e382485e5c7c9d04e9fc7751860b1"), looks := true }, kinds := [], alts := [], laidByText := true, laidKinds := [.handle], laidTests := true, laidLooks := .later }
def CommitsUptoCardSaid : Prop := Claim7.holds Tryz.pinned (.plain (OpenSpec.upto commitsSpec)) commitsUptoCard

/-- THE SECOND FORM's CARD OF 'shadowlaw.Crashes'. -/
def crashesUptoCard : Claim7 := { stood := { row := crashesUptoRow, standIns := [], harness := (true, "ae320e4bf0f7b8d4d2c2a269cb99056fd51e382485e5c7c9d04e9fc7751860b1"), looks := true }, kinds := [], alts := [], laidByText := true, laidKinds := [.handle], laidTests := true, laidLooks := .later }
def CrashesUptoCardSaid : Prop := Claim7.holds Tryz.pinned (.plain (OpenSpec.upto crashesSpec)) crashesUptoCard

/-- THE SECOND FORM's CARD OF 'shadowlaw.Faults'. -/
def faultsUptoCard : Claim7 := { stood := { row := faultsUptoRow, standIns := [], harness := (true, "ae320e4bf0f7b8d4d2c2a269cb99056fd51e382485e5c7c9d04e9fc7751860b1"), looks := true }, kinds := [], alts := [], laidByText := true, laidKinds := [.handle], laidTests := true, laidLooks := .later }
def FaultsUptoCardSaid : Prop := Claim7.holds Tryz.pinned (.plain (OpenSpec.upto faultsSpec)) faultsUptoCard
end Rows
end Go.Proofs.YtemondlgcmpbbaaGreatDoor
