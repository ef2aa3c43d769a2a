/-
  DERIVED. GIVEN WITH THE SEED: THE CARDS: each row of YthpagppipifgeaaGreatDoorRows.lean that lists a variable, with what it lists TIED to the program's text (the seventh form; the later family's looks); each row that meets fmt, with fmt's text TOLD by the authors' own Lean function (tested against real Go, not proved from fmt's source: count such statements apart). THE CARD IS WHAT COUNTS. Prove the row's statement (the work); the ties are given (YthpagppipifgeaaGreatDoorTie.lean); close each card by the builder's one call (the guide's Derived/Test/ToyasCard.lean, 'card_holds'). Laid BY PROGRAM, IN A SANDBOX (cutbox-door.mjs). By AI agents, Wed Nov 11 2026. No macro, syntax, notation, axiom, sorry.
-/
import Derived.Test.YthpagppipifgeaaGreatDoorRows
import GoSem.ClaimSeven
namespace Go.Proofs.YthpagppipifgeaaGreatDoor
namespace Rows

/-- THE TIED CARD OF 'ostiarylaw20.PolicyTells'. -/
def policyTellsCard : Claim7 := { stood := { row := policyTellsRow, standIns := [], harness := (true, "237094fe8fd3e883a4d61e6724d07373aa8e7a8145ea9663878689ba3942b61c"), looks := true }, kinds := [], alts := [], laidByText := true, laidKinds := [.data, .pinned], laidTests := true, laidLooks := .later }
def PolicyTellsCardSaid : Prop := Claim7.holds Tryz.pinned (.plain (OpenSpec.ofChange policyTellsSpec)) policyTellsCard

/-- THE TIED CARD OF 'ostiarylaw20.PolicyReads'. -/
def policyReadsCard : Claim7 := { stood := { row := policyReadsRow, standIns := [], harness := (true, "237094fe8fd3e883a4d61e6724d07373aa8e7a8145ea9663878689ba3942b61c"), looks := true }, kinds := [], alts := [], laidByText := true, laidKinds := [.data, .pinned], laidTests := true, laidLooks := .later }
def PolicyReadsCardSaid : Prop := Claim7.holds Tryz.pinned (.plain (OpenSpec.ofChange policyReadsSpec)) policyReadsCard

/-- THE TIED CARD OF 'ostiarylaw20.PolicyBack'. -/
def policyBackCard : Claim7 := { stood := { row := policyBackRow, standIns := [], harness := (true, "237094fe8fd3e883a4d61e6724d07373aa8e7a8145ea9663878689ba3942b61c"), looks := true }, kinds := [], alts := [], laidByText := true, laidKinds := [.data, .pinned], laidTests := true, laidLooks := .later }
def PolicyBackCardSaid : Prop := Claim7.holds Tryz.pinned (.plain (OpenSpec.ofChange policyBackSpec)) policyBackCard

/-- THE TIED CARD OF 'ostiarylaw20.PolicyLogic'. -/
def policyLogicCard : Claim7 := { stood := { row := policyLogicRow, standIns := [], harness := (true, "237094fe8fd3e883a4d61e6724d07373aa8e7a8145ea9663878689ba3942b61c"), looks := true }, kinds := [], alts := [], laidByText := true, laidKinds := [.data, .pinned], laidTests := true, laidLooks := .later }
def PolicyLogicCardSaid : Prop := Claim7.holds Tryz.pinned (.plain (OpenSpec.ofChange policyLogicSpec)) policyLogicCard

/-- THE TIED CARD OF 'ostiarylaw20.PolicyBlind'. -/
def policyBlindCard : Claim7 := { stood := { row := policyBlindRow, standIns := [], harness := (true, "237094fe8fd3e883a4d61e6724d07373aa8e7a8145ea9663878689ba3942b61c"), looks := true }, kinds := [], alts := [], laidByText := true, laidKinds := [.data, .pinned], laidTests := true, laidLooks := .later }
def PolicyBlindCardSaid : Prop := Claim7.holds Tryz.pinned (.plain (OpenSpec.ofChange policyBlindSpec)) policyBlindCard

/-- THE TIED CARD OF 'ostiarylaw20.PolicyTurns'. -/
def policyTurnsCard : Claim7 := { stood := { row := policyTurnsRow, standIns := [], harness := (true, "237094fe8fd3e883a4d61e6724d07373aa8e7a8145ea9663878689ba3942b61c"), looks := true }, kinds := [], alts := [], laidByText := true, laidKinds := [.data, .pinned], laidTests := true, laidLooks := .later }
def PolicyTurnsCardSaid : Prop := Claim7.holds Tryz.pinned (.plain (OpenSpec.ofChange policyTurnsSpec)) policyTurnsCard

/-- THE SECOND FORM's CARD OF 'ostiarylaw20.PolicyTells'. -/
def policyTellsUptoCard : Claim7 := { stood := { row := policyTellsUptoRow, standIns := [], harness := (true, "237094fe8fd3e883a4d61e6724d07373aa8e7a8145ea9663878689ba3942b61c"), looks := true }, kinds := [], alts := [], laidByText := true, laidKinds := [.data, .pinned], laidTests := true, laidLooks := .later }
def PolicyTellsUptoCardSaid : Prop := Claim7.holds Tryz.pinned (.plain (OpenSpec.upto policyTellsSpec)) policyTellsUptoCard

/-- THE SECOND FORM's CARD OF 'ostiarylaw20.PolicyReads'. -/
def policyReadsUptoCard : Claim7 := { stood := { row := policyReadsUptoRow, standIns := [], harness := (true, "237094fe8fd3e883a4d61e6724d07373aa8e7a8145ea9663878689ba3942b61c"), looks := true }, kinds := [], alts := [], laidByText := true, laidKinds := [.data, .pinned], laidTests := true, laidLooks := .later }
def PolicyReadsUptoCardSaid : Prop := Claim7.holds Tryz.pinned (.plain (OpenSpec.upto policyReadsSpec)) policyReadsUptoCard

/-- THE SECOND FORM's CARD OF 'ostiarylaw20.PolicyBack'. -/
def policyBackUptoCard : Claim7 := { stood := { row := policyBackUptoRow, standIns := [], harness := (true, "237094fe8fd3e883a4d61e6724d07373aa8e7a8145ea9663878689ba3942b61c"), looks := true }, kinds := [], alts := [], laidByText := true, laidKinds := [.data, .pinned], laidTests := true, laidLooks := .later }
def PolicyBackUptoCardSaid : Prop := Claim7.holds Tryz.pinned (.plain (OpenSpec.upto policyBackSpec)) policyBackUptoCard

/-- THE SECOND FORM's CARD OF 'ostiarylaw20.PolicyLogic'. -/
def policyLogicUptoCard : Claim7 := { stood := { row := policyLogicUptoRow, standIns := [], harness := (true, "237094fe8fd3e883a4d61e6724d07373aa8e7a8145ea9663878689ba3942b61c"), looks := true }, kinds := [], alts := [], laidByText := true, laidKinds := [.data, .pinned], laidTests := true, laidLooks := .later }
def PolicyLogicUptoCardSaid : Prop := Claim7.holds Tryz.pinned (.plain (OpenSpec.upto policyLogicSpec)) policyLogicUptoCard

/-- THE SECOND FORM's CARD OF 'ostiarylaw20.PolicyBlind'. -/
def policyBlindUptoCard : Claim7 := { stood := { row := policyBlindUptoRow, standIns := [], harness := (true, "237094fe8fd3e883a4d61e6724d07373aa8e7a8145ea9663878689ba3942b61c"), looks := true }, kinds := [], alts := [], laidByText := true, laidKinds := [.data, .pinned], laidTests := true, laidLooks := .later }
def PolicyBlindUptoCardSaid : Prop := Claim7.holds Tryz.pinned (.plain (OpenSpec.upto policyBlindSpec)) policyBlindUptoCard

/-- THE SECOND FORM's CARD OF 'ostiarylaw20.PolicyTurns'. -/
def policyTurnsUptoCard : Claim7 := { stood := { row := policyTurnsUptoRow, standIns := [], harness := (true, "237094fe8fd3e883a4d61e6724d07373aa8e7a8145ea9663878689ba3942b61c"), looks := true }, kinds := [], alts := [], laidByText := true, laidKinds := [.data, .pinned], laidTests := true, laidLooks := .later }
def PolicyTurnsUptoCardSaid : Prop := Claim7.holds Tryz.pinned (.plain (OpenSpec.upto policyTurnsSpec)) policyTurnsUptoCard
end Rows
end Go.Proofs.YthpagppipifgeaaGreatDoor
