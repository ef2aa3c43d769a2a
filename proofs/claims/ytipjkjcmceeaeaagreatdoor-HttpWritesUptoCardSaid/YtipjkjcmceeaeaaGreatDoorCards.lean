/-
  DERIVED. GIVEN WITH THE SEED: THE CARDS: each row of YtipjkjcmceeaeaaGreatDoorRows.lean that lists a variable, with what it lists TIED to the program's text (the seventh form; the later family's looks); each row that meets fmt, with fmt's text TOLD by the authors' own Lean function (tested against real Go, not proved from fmt's source: count such statements apart). THE CARD IS WHAT COUNTS. Prove the row's statement (the work); the ties are given (YtipjkjcmceeaeaaGreatDoorTie.lean); close each card by the builder's one call (the guide's Derived/Test/ToyasCard.lean, 'card_holds'). Laid BY PROGRAM, IN A SANDBOX (cutbox-door.mjs). By AI agents, Wed Nov 11 2026. No macro, syntax, notation, axiom, sorry.
-/
import Derived.Test.YtipjkjcmceeaeaaGreatDoorRows
import GoSem.ClaimSeven
namespace Go.Proofs.YtipjkjcmceeaeaaGreatDoor
namespace Rows

/-- THE TIED CARD OF 'ostiarylaw15.HttpReads'. -/
def httpReadsCard : Claim7 := { stood := { row := httpReadsRow, standIns := [], harness := (true, "afe17ae1b83039780c4500b301c08084447ec8f9e78b41a839b2e4ef807066ff"), looks := true }, kinds := [], alts := [], laidByText := true, laidKinds := [.data, .data, .data, .data, .sentinel, .sentinel, .pinned], laidTests := true, laidLooks := .later }
def HttpReadsCardSaid : Prop := Claim7.holds Tryz.pinned (.plain (OpenSpec.ofChange httpReadsSpec)) httpReadsCard

/-- THE TIED CARD OF 'ostiarylaw15.HttpGrows'. -/
def httpGrowsCard : Claim7 := { stood := { row := httpGrowsRow, standIns := [], harness := (true, "afe17ae1b83039780c4500b301c08084447ec8f9e78b41a839b2e4ef807066ff"), looks := true }, kinds := [], alts := [], laidByText := true, laidKinds := [.data, .data, .data, .data, .sentinel, .sentinel, .pinned], laidTests := true, laidLooks := .later }
def HttpGrowsCardSaid : Prop := Claim7.holds Tryz.pinned (.plain (OpenSpec.ofChange httpGrowsSpec)) httpGrowsCard

/-- THE TIED CARD OF 'ostiarylaw15.HttpWrites'. -/
def httpWritesCard : Claim7 := { stood := { row := httpWritesRow, standIns := [], harness := (true, "afe17ae1b83039780c4500b301c08084447ec8f9e78b41a839b2e4ef807066ff"), looks := true }, kinds := [], alts := [], laidByText := true, laidKinds := [.data, .data, .data, .data, .sentinel, .sentinel, .pinned], laidTests := true, laidLooks := .later }
def HttpWritesCardSaid : Prop := Claim7.holds Tryz.pinned (.plain (OpenSpec.ofChange httpWritesSpec)) httpWritesCard

/-- THE TIED CARD OF 'ostiarylaw15.HttpBack'. -/
def httpBackCard : Claim7 := { stood := { row := httpBackRow, standIns := [], harness := (true, "afe17ae1b83039780c4500b301c08084447ec8f9e78b41a839b2e4ef807066ff"), looks := true }, kinds := [], alts := [], laidByText := true, laidKinds := [.data, .data, .data, .data, .sentinel, .sentinel, .pinned], laidTests := true, laidLooks := .later }
def HttpBackCardSaid : Prop := Claim7.holds Tryz.pinned (.plain (OpenSpec.ofChange httpBackSpec)) httpBackCard

/-- THE TIED CARD OF 'ostiarylaw15.HttpChunks'. -/
def httpChunksCard : Claim7 := { stood := { row := httpChunksRow, standIns := [], harness := (true, "afe17ae1b83039780c4500b301c08084447ec8f9e78b41a839b2e4ef807066ff"), looks := true }, kinds := [], alts := [], laidByText := true, laidKinds := [.data, .data, .data, .data, .sentinel, .sentinel, .pinned], laidTests := true, laidLooks := .later }
def HttpChunksCardSaid : Prop := Claim7.holds Tryz.pinned (.plain (OpenSpec.ofChange httpChunksSpec)) httpChunksCard

/-- THE TIED CARD OF 'ostiarylaw15.HttpPipes'. -/
def httpPipesCard : Claim7 := { stood := { row := httpPipesRow, standIns := [], harness := (true, "afe17ae1b83039780c4500b301c08084447ec8f9e78b41a839b2e4ef807066ff"), looks := true }, kinds := [], alts := [], laidByText := true, laidKinds := [.data, .data, .data, .data, .sentinel, .sentinel, .pinned], laidTests := true, laidLooks := .later }
def HttpPipesCardSaid : Prop := Claim7.holds Tryz.pinned (.plain (OpenSpec.ofChange httpPipesSpec)) httpPipesCard

/-- THE TIED CARD OF 'ostiarylaw15.HttpCases'. -/
def httpCasesCard : Claim7 := { stood := { row := httpCasesRow, standIns := [], harness := (true, "afe17ae1b83039780c4500b301c08084447ec8f9e78b41a839b2e4ef807066ff"), looks := true }, kinds := [], alts := [], laidByText := true, laidKinds := [.data, .data, .data, .data, .sentinel, .sentinel, .pinned], laidTests := true, laidLooks := .later }
def HttpCasesCardSaid : Prop := Claim7.holds Tryz.pinned (.plain (OpenSpec.ofChange httpCasesSpec)) httpCasesCard

/-- THE SECOND FORM's CARD OF 'ostiarylaw15.HttpReads'. -/
def httpReadsUptoCard : Claim7 := { stood := { row := httpReadsUptoRow, standIns := [], harness := (true, "afe17ae1b83039780c4500b301c08084447ec8f9e78b41a839b2e4ef807066ff"), looks := true }, kinds := [], alts := [], laidByText := true, laidKinds := [.data, .data, .data, .data, .sentinel, .sentinel, .pinned], laidTests := true, laidLooks := .later }
def HttpReadsUptoCardSaid : Prop := Claim7.holds Tryz.pinned (.plain (OpenSpec.upto httpReadsSpec)) httpReadsUptoCard

/-- THE SECOND FORM's CARD OF 'ostiarylaw15.HttpGrows'. -/
def httpGrowsUptoCard : Claim7 := { stood := { row := httpGrowsUptoRow, standIns := [], harness := (true, "afe17ae1b83039780c4500b301c08084447ec8f9e78b41a839b2e4ef807066ff"), looks := true }, kinds := [], alts := [], laidByText := true, laidKinds := [.data, .data, .data, .data, .sentinel, .sentinel, .pinned], laidTests := true, laidLooks := .later }
def HttpGrowsUptoCardSaid : Prop := Claim7.holds Tryz.pinned (.plain (OpenSpec.upto httpGrowsSpec)) httpGrowsUptoCard

/-- THE SECOND FORM's CARD OF 'ostiarylaw15.HttpWrites'. -/
def httpWritesUptoCard : Claim7 := { stood := { row := httpWritesUptoRow, standIns := [], harness := (true, "afe17ae1b83039780c4500b301c08084447ec8f9e78b41a839b2e4ef807066ff"), looks := true }, kinds := [], alts := [], laidByText := true, laidKinds := [.data, .data, .data, .data, .sentinel, .sentinel, .pinned], laidTests := true, laidLooks := .later }
def HttpWritesUptoCardSaid : Prop := Claim7.holds Tryz.pinned (.plain (OpenSpec.upto httpWritesSpec)) httpWritesUptoCard

/-- THE SECOND FORM's CARD OF 'ostiarylaw15.HttpBack'. -/
def httpBackUptoCard : Claim7 := { stood := { row := httpBackUptoRow, standIns := [], harness := (true, "afe17ae1b83039780c4500b301c08084447ec8f9e78b41a839b2e4ef807066ff"), looks := true }, kinds := [], alts := [], laidByText := true, laidKinds := [.data, .data, .data, .data, .sentinel, .sentinel, .pinned], laidTests := true, laidLooks := .later }
def HttpBackUptoCardSaid : Prop := Claim7.holds Tryz.pinned (.plain (OpenSpec.upto httpBackSpec)) httpBackUptoCard

/-- THE SECOND FORM's CARD OF 'ostiarylaw15.HttpChunks'. -/
def httpChunksUptoCard : Claim7 := { stood := { row := httpChunksUptoRow, standIns := [], harness := (true, "afe17ae1b83039780c4500b301c08084447ec8f9e78b41a839b2e4ef807066ff"), looks := true }, kinds := [], alts := [], laidByText := true, laidKinds := [.data, .data, .data, .data, .sentinel, .sentinel, .pinned], laidTests := true, laidLooks := .later }
def HttpChunksUptoCardSaid : Prop := Claim7.holds Tryz.pinned (.plain (OpenSpec.upto httpChunksSpec)) httpChunksUptoCard

/-- THE SECOND FORM's CARD OF 'ostiarylaw15.HttpPipes'. -/
def httpPipesUptoCard : Claim7 := { stood := { row := httpPipesUptoRow, standIns := [], harness := (true, "afe17ae1b83039780c4500b301c08084447ec8f9e78b41a839b2e4ef807066ff"), looks := true }, kinds := [], alts := [], laidByText := true, laidKinds := [.data, .data, .data, .data, .sentinel, .sentinel, .pinned], laidTests := true, laidLooks := .later }
def HttpPipesUptoCardSaid : Prop := Claim7.holds Tryz.pinned (.plain (OpenSpec.upto httpPipesSpec)) httpPipesUptoCard

/-- THE SECOND FORM's CARD OF 'ostiarylaw15.HttpCases'. -/
def httpCasesUptoCard : Claim7 := { stood := { row := httpCasesUptoRow, standIns := [], harness := (true, "afe17ae1b83039780c4500b301c08084447ec8f9e78b41a839b2e4ef807066ff"), looks := true }, kinds := [], alts := [], laidByText := true, laidKinds := [.data, .data, .data, .data, .sentinel, .sentinel, .pinned], laidTests := true, laidLooks := .later }
def HttpCasesUptoCardSaid : Prop := Claim7.holds Tryz.pinned (.plain (OpenSpec.upto httpCasesSpec)) httpCasesUptoCard
end Rows
end Go.Proofs.YtipjkjcmceeaeaaGreatDoor
