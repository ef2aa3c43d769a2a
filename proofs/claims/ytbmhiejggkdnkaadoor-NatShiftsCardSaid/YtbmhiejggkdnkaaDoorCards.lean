/-
  DERIVED. GIVEN WITH THE SEED: THE CARDS: each row of YtbmhiejggkdnkaaDoorRows.lean that lists a variable, with what it lists TIED to the program's text (the seventh form; the later family's looks); each row that meets fmt, with fmt's text TOLD by the authors' own Lean function (tested against real Go, not proved from fmt's source: count such statements apart). THE CARD IS WHAT COUNTS. Prove the row's statement (the work); the ties are given (YtbmhiejggkdnkaaDoorTie.lean); close each card by the builder's one call (the guide's Derived/Test/ToyasCard.lean, 'card_holds'). Laid BY PROGRAM, IN A SANDBOX (cutbox-door.mjs). By AI agents, Wed Nov 11 2026. No macro, syntax, notation, axiom, sorry.
-/
import Derived.Test.YtbmhiejggkdnkaaDoorRows
import GoSem.ClaimSeven
namespace Go.Proofs.YtbmhiejggkdnkaaDoor
namespace Rows

/-- THE TIED CARD OF 'ostiarylaw03.NatMonts'. -/
def natMontsCard : Claim7 := { stood := { row := natMontsRow, standIns := [], harness := (true, "9b890c28216f860316233a3c69f7a604648a608b9845308389f52b76858ac92a"), looks := true }, kinds := [], alts := [], laidByText := true, laidKinds := [.data, .pinned], laidTests := true, laidLooks := .later }
def NatMontsCardSaid : Prop := Claim7.holds Tryd.pinned (.plain (OpenSpec.ofChange natMontsSpec)) natMontsCard

/-- THE TIED CARD OF 'ostiarylaw03.NatRounds'. -/
def natRoundsCard : Claim7 := { stood := { row := natRoundsRow, standIns := [], harness := (true, "9b890c28216f860316233a3c69f7a604648a608b9845308389f52b76858ac92a"), looks := true }, kinds := [], alts := [], laidByText := true, laidKinds := [.data, .pinned], laidTests := true, laidLooks := .later }
def NatRoundsCardSaid : Prop := Claim7.holds Tryd.pinned (.plain (OpenSpec.ofChange natRoundsSpec)) natRoundsCard

/-- THE TIED CARD OF 'ostiarylaw03.NatExponents'. -/
def natExponentsCard : Claim7 := { stood := { row := natExponentsRow, standIns := [], harness := (true, "9b890c28216f860316233a3c69f7a604648a608b9845308389f52b76858ac92a"), looks := true }, kinds := [], alts := [], laidByText := true, laidKinds := [.data, .pinned], laidTests := true, laidLooks := .later }
def NatExponentsCardSaid : Prop := Claim7.holds Tryd.pinned (.plain (OpenSpec.ofChange natExponentsSpec)) natExponentsCard

/-- THE TIED CARD OF 'ostiarylaw03.NatForms'. -/
def natFormsCard : Claim7 := { stood := { row := natFormsRow, standIns := [], harness := (true, "9b890c28216f860316233a3c69f7a604648a608b9845308389f52b76858ac92a"), looks := true }, kinds := [], alts := [], laidByText := true, laidKinds := [.data, .pinned], laidTests := true, laidLooks := .later }
def NatFormsCardSaid : Prop := Claim7.holds Tryd.pinned (.plain (OpenSpec.ofChange natFormsSpec)) natFormsCard

/-- THE TIED CARD OF 'ostiarylaw03.NatOrders'. -/
def natOrdersCard : Claim7 := { stood := { row := natOrdersRow, standIns := [], harness := (true, "9b890c28216f860316233a3c69f7a604648a608b9845308389f52b76858ac92a"), looks := true }, kinds := [], alts := [], laidByText := true, laidKinds := [.data, .pinned], laidTests := true, laidLooks := .later }
def NatOrdersCardSaid : Prop := Claim7.holds Tryd.pinned (.plain (OpenSpec.ofChange natOrdersSpec)) natOrdersCard

/-- THE TIED CARD OF 'ostiarylaw03.NatRing'. -/
def natRingCard : Claim7 := { stood := { row := natRingRow, standIns := [], harness := (true, "9b890c28216f860316233a3c69f7a604648a608b9845308389f52b76858ac92a"), looks := true }, kinds := [], alts := [], laidByText := true, laidKinds := [.data, .pinned], laidTests := true, laidLooks := .later }
def NatRingCardSaid : Prop := Claim7.holds Tryd.pinned (.plain (OpenSpec.ofChange natRingSpec)) natRingCard

/-- THE TIED CARD OF 'ostiarylaw03.NatShifts'. -/
def natShiftsCard : Claim7 := { stood := { row := natShiftsRow, standIns := [], harness := (true, "9b890c28216f860316233a3c69f7a604648a608b9845308389f52b76858ac92a"), looks := true }, kinds := [], alts := [], laidByText := true, laidKinds := [.data, .pinned], laidTests := true, laidLooks := .later }
def NatShiftsCardSaid : Prop := Claim7.holds Tryd.pinned (.plain (OpenSpec.ofChange natShiftsSpec)) natShiftsCard

/-- THE SECOND FORM's CARD OF 'ostiarylaw03.NatMonts'. -/
def natMontsUptoCard : Claim7 := { stood := { row := natMontsUptoRow, standIns := [], harness := (true, "9b890c28216f860316233a3c69f7a604648a608b9845308389f52b76858ac92a"), looks := true }, kinds := [], alts := [], laidByText := true, laidKinds := [.data, .pinned], laidTests := true, laidLooks := .later }
def NatMontsUptoCardSaid : Prop := Claim7.holds Tryd.pinned (.plain (OpenSpec.upto natMontsSpec)) natMontsUptoCard

/-- THE SECOND FORM's CARD OF 'ostiarylaw03.NatRounds'. -/
def natRoundsUptoCard : Claim7 := { stood := { row := natRoundsUptoRow, standIns := [], harness := (true, "9b890c28216f860316233a3c69f7a604648a608b9845308389f52b76858ac92a"), looks := true }, kinds := [], alts := [], laidByText := true, laidKinds := [.data, .pinned], laidTests := true, laidLooks := .later }
def NatRoundsUptoCardSaid : Prop := Claim7.holds Tryd.pinned (.plain (OpenSpec.upto natRoundsSpec)) natRoundsUptoCard

/-- THE SECOND FORM's CARD OF 'ostiarylaw03.NatExponents'. -/
def natExponentsUptoCard : Claim7 := { stood := { row := natExponentsUptoRow, standIns := [], harness := (true, "9b890c28216f860316233a3c69f7a604648a608b9845308389f52b76858ac92a"), looks := true }, kinds := [], alts := [], laidByText := true, laidKinds := [.data, .pinned], laidTests := true, laidLooks := .later }
def NatExponentsUptoCardSaid : Prop := Claim7.holds Tryd.pinned (.plain (OpenSpec.upto natExponentsSpec)) natExponentsUptoCard

/-- THE SECOND FORM's CARD OF 'ostiarylaw03.NatForms'. -/
def natFormsUptoCard : Claim7 := { stood := { row := natFormsUptoRow, standIns := [], harness := (true, "9b890c28216f860316233a3c69f7a604648a608b9845308389f52b76858ac92a"), looks := true }, kinds := [], alts := [], laidByText := true, laidKinds := [.data, .pinned], laidTests := true, laidLooks := .later }
def NatFormsUptoCardSaid : Prop := Claim7.holds Tryd.pinned (.plain (OpenSpec.upto natFormsSpec)) natFormsUptoCard

/-- THE SECOND FORM's CARD OF 'ostiarylaw03.NatOrders'. -/
def natOrdersUptoCard : Claim7 := { stood := { row := natOrdersUptoRow, standIns := [], harness := (true, "9b890c28216f860316233a3c69f7a604648a608b9845308389f52b76858ac92a"), looks := true }, kinds := [], alts := [], laidByText := true, laidKinds := [.data, .pinned], laidTests := true, laidLooks := .later }
def NatOrdersUptoCardSaid : Prop := Claim7.holds Tryd.pinned (.plain (OpenSpec.upto natOrdersSpec)) natOrdersUptoCard

/-- THE SECOND FORM's CARD OF 'ostiarylaw03.NatRing'. -/
def natRingUptoCard : Claim7 := { stood := { row := natRingUptoRow, standIns := [], harness := (true, "9b890c28216f860316233a3c69f7a604648a608b9845308389f52b76858ac92a"), looks := true }, kinds := [], alts := [], laidByText := true, laidKinds := [.data, .pinned], laidTests := true, laidLooks := .later }
def NatRingUptoCardSaid : Prop := Claim7.holds Tryd.pinned (.plain (OpenSpec.upto natRingSpec)) natRingUptoCard

/-- THE SECOND FORM's CARD OF 'ostiarylaw03.NatShifts'. -/
def natShiftsUptoCard : Claim7 := { stood := { row := natShiftsUptoRow, standIns := [], harness := (true, "9b890c28216f860316233a3c69f7a604648a608b9845308389f52b76858ac92a"), looks := true }, kinds := [], alts := [], laidByText := true, laidKinds := [.data, .pinned], laidTests := true, laidLooks := .later }
def NatShiftsUptoCardSaid : Prop := Claim7.holds Tryd.pinned (.plain (OpenSpec.upto natShiftsSpec)) natShiftsUptoCard
end Rows
end Go.Proofs.YtbmhiejggkdnkaaDoor
