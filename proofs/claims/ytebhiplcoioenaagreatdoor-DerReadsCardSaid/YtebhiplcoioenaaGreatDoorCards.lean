/-
  DERIVED. GIVEN WITH THE SEED: THE CARDS: each row of YtebhiplcoioenaaGreatDoorRows.lean that lists a variable, with what it lists TIED to the program's text (the seventh form; the later family's looks); each row that meets fmt, with fmt's text TOLD by the authors' own Lean function (tested against real Go, not proved from fmt's source: count such statements apart). THE CARD IS WHAT COUNTS. Prove the row's statement (the work); the ties are given (YtebhiplcoioenaaGreatDoorTie.lean); close each card by the builder's one call (the guide's Derived/Test/ToyasCard.lean, 'card_holds'). Laid BY PROGRAM, IN A SANDBOX (cutbox-door.mjs). By AI agents, Wed Nov 11 2026. No macro, syntax, notation, axiom, sorry.
-/
import Derived.Test.YtebhiplcoioenaaGreatDoorRows
import GoSem.ClaimSeven
namespace Go.Proofs.YtebhiplcoioenaaGreatDoor
namespace Rows

/-- THE TIED CARD OF 'ostiarylaw06.DerReads'. -/
def derReadsCard : Claim7 := { stood := { row := derReadsRow, standIns := [], harness := (true, "bb3913d984058000999fc41a094ae939f99e32ff654df6fa7e3454c917589bc2"), looks := true }, kinds := [], alts := [], laidByText := true, laidKinds := [.data, .data, .data, .data, .handle, .pinned], laidTests := true, laidLooks := .later }
def DerReadsCardSaid : Prop := Claim7.holds Tryz.pinned (.plain (OpenSpec.ofChange derReadsSpec)) derReadsCard

/-- THE TIED CARD OF 'ostiarylaw06.DerBack'. -/
def derBackCard : Claim7 := { stood := { row := derBackRow, standIns := [], harness := (true, "bb3913d984058000999fc41a094ae939f99e32ff654df6fa7e3454c917589bc2"), looks := true }, kinds := [], alts := [], laidByText := true, laidKinds := [.data, .data, .data, .data, .handle, .pinned], laidTests := true, laidLooks := .later }
def DerBackCardSaid : Prop := Claim7.holds Tryz.pinned (.plain (OpenSpec.ofChange derBackSpec)) derBackCard

/-- THE TIED CARD OF 'ostiarylaw06.DerCuts'. -/
def derCutsCard : Claim7 := { stood := { row := derCutsRow, standIns := [], harness := (true, "bb3913d984058000999fc41a094ae939f99e32ff654df6fa7e3454c917589bc2"), looks := true }, kinds := [], alts := [], laidByText := true, laidKinds := [.data, .data, .data, .data, .handle, .pinned], laidTests := true, laidLooks := .later }
def DerCutsCardSaid : Prop := Claim7.holds Tryz.pinned (.plain (OpenSpec.ofChange derCutsSpec)) derCutsCard

/-- THE TIED CARD OF 'ostiarylaw06.DerOids'. -/
def derOidsCard : Claim7 := { stood := { row := derOidsRow, standIns := [], harness := (true, "bb3913d984058000999fc41a094ae939f99e32ff654df6fa7e3454c917589bc2"), looks := true }, kinds := [], alts := [], laidByText := true, laidKinds := [.data, .data, .data, .data, .handle, .pinned], laidTests := true, laidLooks := .later }
def DerOidsCardSaid : Prop := Claim7.holds Tryz.pinned (.plain (OpenSpec.ofChange derOidsSpec)) derOidsCard

/-- THE TIED CARD OF 'ostiarylaw06.DerTimes'. -/
def derTimesCard : Claim7 := { stood := { row := derTimesRow, standIns := [], harness := (true, "bb3913d984058000999fc41a094ae939f99e32ff654df6fa7e3454c917589bc2"), looks := true }, kinds := [], alts := [], laidByText := true, laidKinds := [.data, .data, .data, .data, .handle, .pinned], laidTests := true, laidLooks := .later }
def DerTimesCardSaid : Prop := Claim7.holds Tryz.pinned (.plain (OpenSpec.ofChange derTimesSpec)) derTimesCard

/-- THE TIED CARD OF 'ostiarylaw06.DerDeep'. -/
def derDeepCard : Claim7 := { stood := { row := derDeepRow, standIns := [], harness := (true, "bb3913d984058000999fc41a094ae939f99e32ff654df6fa7e3454c917589bc2"), looks := true }, kinds := [], alts := [], laidByText := true, laidKinds := [.data, .data, .data, .data, .handle, .pinned], laidTests := true, laidLooks := .later }
def DerDeepCardSaid : Prop := Claim7.holds Tryz.pinned (.plain (OpenSpec.ofChange derDeepSpec)) derDeepCard

/-- THE TIED CARD OF 'ostiarylaw06.DerNats'. -/
def derNatsCard : Claim7 := { stood := { row := derNatsRow, standIns := [], harness := (true, "bb3913d984058000999fc41a094ae939f99e32ff654df6fa7e3454c917589bc2"), looks := true }, kinds := [], alts := [], laidByText := true, laidKinds := [.data, .data, .data, .data, .handle, .pinned], laidTests := true, laidLooks := .later }
def DerNatsCardSaid : Prop := Claim7.holds Tryz.pinned (.plain (OpenSpec.ofChange derNatsSpec)) derNatsCard

/-- THE SECOND FORM's CARD OF 'ostiarylaw06.DerReads'. -/
def derReadsUptoCard : Claim7 := { stood := { row := derReadsUptoRow, standIns := [], harness := (true, "bb3913d984058000999fc41a094ae939f99e32ff654df6fa7e3454c917589bc2"), looks := true }, kinds := [], alts := [], laidByText := true, laidKinds := [.data, .data, .data, .data, .handle, .pinned], laidTests := true, laidLooks := .later }
def DerReadsUptoCardSaid : Prop := Claim7.holds Tryz.pinned (.plain (OpenSpec.upto derReadsSpec)) derReadsUptoCard

/-- THE SECOND FORM's CARD OF 'ostiarylaw06.DerBack'. -/
def derBackUptoCard : Claim7 := { stood := { row := derBackUptoRow, standIns := [], harness := (true, "bb3913d984058000999fc41a094ae939f99e32ff654df6fa7e3454c917589bc2"), looks := true }, kinds := [], alts := [], laidByText := true, laidKinds := [.data, .data, .data, .data, .handle, .pinned], laidTests := true, laidLooks := .later }
def DerBackUptoCardSaid : Prop := Claim7.holds Tryz.pinned (.plain (OpenSpec.upto derBackSpec)) derBackUptoCard

/-- THE SECOND FORM's CARD OF 'ostiarylaw06.DerCuts'. -/
def derCutsUptoCard : Claim7 := { stood := { row := derCutsUptoRow, standIns := [], harness := (true, "bb3913d984058000999fc41a094ae939f99e32ff654df6fa7e3454c917589bc2"), looks := true }, kinds := [], alts := [], laidByText := true, laidKinds := [.data, .data, .data, .data, .handle, .pinned], laidTests := true, laidLooks := .later }
def DerCutsUptoCardSaid : Prop := Claim7.holds Tryz.pinned (.plain (OpenSpec.upto derCutsSpec)) derCutsUptoCard

/-- THE SECOND FORM's CARD OF 'ostiarylaw06.DerOids'. -/
def derOidsUptoCard : Claim7 := { stood := { row := derOidsUptoRow, standIns := [], harness := (true, "bb3913d984058000999fc41a094ae939f99e32ff654df6fa7e3454c917589bc2"), looks := true }, kinds := [], alts := [], laidByText := true, laidKinds := [.data, .data, .data, .data, .handle, .pinned], laidTests := true, laidLooks := .later }
def DerOidsUptoCardSaid : Prop := Claim7.holds Tryz.pinned (.plain (OpenSpec.upto derOidsSpec)) derOidsUptoCard

/-- THE SECOND FORM's CARD OF 'ostiarylaw06.DerTimes'. -/
def derTimesUptoCard : Claim7 := { stood := { row := derTimesUptoRow, standIns := [], harness := (true, "bb3913d984058000999fc41a094ae939f99e32ff654df6fa7e3454c917589bc2"), looks := true }, kinds := [], alts := [], laidByText := true, laidKinds := [.data, .data, .data, .data, .handle, .pinned], laidTests := true, laidLooks := .later }
def DerTimesUptoCardSaid : Prop := Claim7.holds Tryz.pinned (.plain (OpenSpec.upto derTimesSpec)) derTimesUptoCard

/-- THE SECOND FORM's CARD OF 'ostiarylaw06.DerDeep'. -/
def derDeepUptoCard : Claim7 := { stood := { row := derDeepUptoRow, standIns := [], harness := (true, "bb3913d984058000999fc41a094ae939f99e32ff654df6fa7e3454c917589bc2"), looks := true }, kinds := [], alts := [], laidByText := true, laidKinds := [.data, .data, .data, .data, .handle, .pinned], laidTests := true, laidLooks := .later }
def DerDeepUptoCardSaid : Prop := Claim7.holds Tryz.pinned (.plain (OpenSpec.upto derDeepSpec)) derDeepUptoCard

/-- THE SECOND FORM's CARD OF 'ostiarylaw06.DerNats'. -/
def derNatsUptoCard : Claim7 := { stood := { row := derNatsUptoRow, standIns := [], harness := (true, "bb3913d984058000999fc41a094ae939f99e32ff654df6fa7e3454c917589bc2"), looks := true }, kinds := [], alts := [], laidByText := true, laidKinds := [.data, .data, .data, .data, .handle, .pinned], laidTests := true, laidLooks := .later }
def DerNatsUptoCardSaid : Prop := Claim7.holds Tryz.pinned (.plain (OpenSpec.upto derNatsSpec)) derNatsUptoCard
end Rows
end Go.Proofs.YtebhiplcoioenaaGreatDoor
