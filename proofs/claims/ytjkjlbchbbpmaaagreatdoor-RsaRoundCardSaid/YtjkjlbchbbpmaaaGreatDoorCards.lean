/-
  DERIVED. GIVEN WITH THE SEED: THE CARDS: each row of YtjkjlbchbbpmaaaGreatDoorRows.lean that lists a variable, with what it lists TIED to the program's text (the seventh form; the later family's looks); each row that meets fmt, with fmt's text TOLD by the authors' own Lean function (tested against real Go, not proved from fmt's source: count such statements apart). THE CARD IS WHAT COUNTS. Prove the row's statement (the work); the ties are given (YtjkjlbchbbpmaaaGreatDoorTie.lean); close each card by the builder's one call (the guide's Derived/Test/ToyasCard.lean, 'card_holds'). Laid BY PROGRAM, IN A SANDBOX (cutbox-door.mjs). By AI agents, Wed Nov 11 2026. No macro, syntax, notation, axiom, sorry.
-/
import Derived.Test.YtjkjlbchbbpmaaaGreatDoorRows
import GoSem.ClaimSeven
namespace Go.Proofs.YtjkjlbchbbpmaaaGreatDoor
namespace Rows

/-- THE TIED CARD OF 'ostiarylaw04.RsaKeys'. -/
def rsaKeysCard : Claim7 := { stood := { row := rsaKeysRow, standIns := [], harness := (true, "f7c3db9e2824d882ddc53ce87b40e7adf7e7dc9c6c3b0990bf5038f2bbd6f03e"), looks := true }, kinds := [], alts := [], laidByText := true, laidKinds := [.data, .pinned], laidTests := true, laidLooks := .later }
def RsaKeysCardSaid : Prop := Claim7.holds Tryz.pinned (.plain (OpenSpec.ofChange rsaKeysSpec)) rsaKeysCard

/-- THE TIED CARD OF 'ostiarylaw04.RsaOpens'. -/
def rsaOpensCard : Claim7 := { stood := { row := rsaOpensRow, standIns := [], harness := (true, "f7c3db9e2824d882ddc53ce87b40e7adf7e7dc9c6c3b0990bf5038f2bbd6f03e"), looks := true }, kinds := [], alts := [], laidByText := true, laidKinds := [.data, .pinned], laidTests := true, laidLooks := .later }
def RsaOpensCardSaid : Prop := Claim7.holds Tryz.pinned (.plain (OpenSpec.ofChange rsaOpensSpec)) rsaOpensCard

/-- THE TIED CARD OF 'ostiarylaw04.RsaBlocks'. -/
def rsaBlocksCard : Claim7 := { stood := { row := rsaBlocksRow, standIns := [], harness := (true, "f7c3db9e2824d882ddc53ce87b40e7adf7e7dc9c6c3b0990bf5038f2bbd6f03e"), looks := true }, kinds := [], alts := [], laidByText := true, laidKinds := [.data, .pinned], laidTests := true, laidLooks := .later }
def RsaBlocksCardSaid : Prop := Claim7.holds Tryz.pinned (.plain (OpenSpec.ofChange rsaBlocksSpec)) rsaBlocksCard

/-- THE TIED CARD OF 'ostiarylaw04.RsaMasks'. -/
def rsaMasksCard : Claim7 := { stood := { row := rsaMasksRow, standIns := [], harness := (true, "f7c3db9e2824d882ddc53ce87b40e7adf7e7dc9c6c3b0990bf5038f2bbd6f03e"), looks := true }, kinds := [], alts := [], laidByText := true, laidKinds := [.data, .pinned], laidTests := true, laidLooks := .later }
def RsaMasksCardSaid : Prop := Claim7.holds Tryz.pinned (.plain (OpenSpec.ofChange rsaMasksSpec)) rsaMasksCard

/-- THE TIED CARD OF 'ostiarylaw04.RsaRound'. -/
def rsaRoundCard : Claim7 := { stood := { row := rsaRoundRow, standIns := [], harness := (true, "f7c3db9e2824d882ddc53ce87b40e7adf7e7dc9c6c3b0990bf5038f2bbd6f03e"), looks := true }, kinds := [], alts := [], laidByText := true, laidKinds := [.data, .pinned], laidTests := true, laidLooks := .later }
def RsaRoundCardSaid : Prop := Claim7.holds Tryz.pinned (.plain (OpenSpec.ofChange rsaRoundSpec)) rsaRoundCard

/-- THE TIED CARD OF 'ostiarylaw04.RsaFits'. -/
def rsaFitsCard : Claim7 := { stood := { row := rsaFitsRow, standIns := [], harness := (true, "f7c3db9e2824d882ddc53ce87b40e7adf7e7dc9c6c3b0990bf5038f2bbd6f03e"), looks := true }, kinds := [], alts := [], laidByText := true, laidKinds := [.data, .pinned], laidTests := true, laidLooks := .later }
def RsaFitsCardSaid : Prop := Claim7.holds Tryz.pinned (.plain (OpenSpec.ofChange rsaFitsSpec)) rsaFitsCard

/-- THE SECOND FORM's CARD OF 'ostiarylaw04.RsaKeys'. -/
def rsaKeysUptoCard : Claim7 := { stood := { row := rsaKeysUptoRow, standIns := [], harness := (true, "f7c3db9e2824d882ddc53ce87b40e7adf7e7dc9c6c3b0990bf5038f2bbd6f03e"), looks := true }, kinds := [], alts := [], laidByText := true, laidKinds := [.data, .pinned], laidTests := true, laidLooks := .later }
def RsaKeysUptoCardSaid : Prop := Claim7.holds Tryz.pinned (.plain (OpenSpec.upto rsaKeysSpec)) rsaKeysUptoCard

/-- THE SECOND FORM's CARD OF 'ostiarylaw04.RsaOpens'. -/
def rsaOpensUptoCard : Claim7 := { stood := { row := rsaOpensUptoRow, standIns := [], harness := (true, "f7c3db9e2824d882ddc53ce87b40e7adf7e7dc9c6c3b0990bf5038f2bbd6f03e"), looks := true }, kinds := [], alts := [], laidByText := true, laidKinds := [.data, .pinned], laidTests := true, laidLooks := .later }
def RsaOpensUptoCardSaid : Prop := Claim7.holds Tryz.pinned (.plain (OpenSpec.upto rsaOpensSpec)) rsaOpensUptoCard

/-- THE SECOND FORM's CARD OF 'ostiarylaw04.RsaBlocks'. -/
def rsaBlocksUptoCard : Claim7 := { stood := { row := rsaBlocksUptoRow, standIns := [], harness := (true, "f7c3db9e2824d882ddc53ce87b40e7adf7e7dc9c6c3b0990bf5038f2bbd6f03e"), looks := true }, kinds := [], alts := [], laidByText := true, laidKinds := [.data, .pinned], laidTests := true, laidLooks := .later }
def RsaBlocksUptoCardSaid : Prop := Claim7.holds Tryz.pinned (.plain (OpenSpec.upto rsaBlocksSpec)) rsaBlocksUptoCard

/-- THE SECOND FORM's CARD OF 'ostiarylaw04.RsaMasks'. -/
def rsaMasksUptoCard : Claim7 := { stood := { row := rsaMasksUptoRow, standIns := [], harness := (true, "f7c3db9e2824d882ddc53ce87b40e7adf7e7dc9c6c3b0990bf5038f2bbd6f03e"), looks := true }, kinds := [], alts := [], laidByText := true, laidKinds := [.data, .pinned], laidTests := true, laidLooks := .later }
def RsaMasksUptoCardSaid : Prop := Claim7.holds Tryz.pinned (.plain (OpenSpec.upto rsaMasksSpec)) rsaMasksUptoCard

/-- THE SECOND FORM's CARD OF 'ostiarylaw04.RsaRound'. -/
def rsaRoundUptoCard : Claim7 := { stood := { row := rsaRoundUptoRow, standIns := [], harness := (true, "f7c3db9e2824d882ddc53ce87b40e7adf7e7dc9c6c3b0990bf5038f2bbd6f03e"), looks := true }, kinds := [], alts := [], laidByText := true, laidKinds := [.data, .pinned], laidTests := true, laidLooks := .later }
def RsaRoundUptoCardSaid : Prop := Claim7.holds Tryz.pinned (.plain (OpenSpec.upto rsaRoundSpec)) rsaRoundUptoCard

/-- THE SECOND FORM's CARD OF 'ostiarylaw04.RsaFits'. -/
def rsaFitsUptoCard : Claim7 := { stood := { row := rsaFitsUptoRow, standIns := [], harness := (true, "f7c3db9e2824d882ddc53ce87b40e7adf7e7dc9c6c3b0990bf5038f2bbd6f03e"), looks := true }, kinds := [], alts := [], laidByText := true, laidKinds := [.data, .pinned], laidTests := true, laidLooks := .later }
def RsaFitsUptoCardSaid : Prop := Claim7.holds Tryz.pinned (.plain (OpenSpec.upto rsaFitsSpec)) rsaFitsUptoCard
end Rows
end Go.Proofs.YtjkjlbchbbpmaaaGreatDoor
