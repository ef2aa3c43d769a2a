/-
  DERIVED. GIVEN WITH THE SEED: THE CARDS: each row of YtbmhiejggkdnkaaGreatDoorRows.lean that lists a variable, with what it lists TIED to the program's text (the seventh form; the later family's looks); each row that meets fmt, with fmt's text TOLD by the authors' own Lean function (tested against real Go, not proved from fmt's source: count such statements apart). THE CARD IS WHAT COUNTS. Prove the row's statement (the work); the ties are given (YtbmhiejggkdnkaaGreatDoorTie.lean); close each card by the builder's one call (the guide's Derived/Test/ToyasCard.lean, 'card_holds'). Laid BY PROGRAM, IN A SANDBOX (cutbox-door.mjs). By AI agents, Wed Nov 11 2026. No macro, syntax, notation, axiom, sorry.
-/
import Derived.Test.YtbmhiejggkdnkaaGreatDoorRows
import GoSem.ClaimSeven
namespace Go.Proofs.YtbmhiejggkdnkaaGreatDoor
namespace Rows

/-- THE TIED CARD OF 'ostiarylaw03.NatInverses'. -/
def natInversesCard : Claim7 := { stood := { row := natInversesRow, standIns := [], harness := (true, "d358e516f3393435df05d2ed26fd90c231a8692fe6f819dfc4a436862e17b440"), looks := true }, kinds := [], alts := [], laidByText := true, laidKinds := [.data, .pinned], laidTests := true, laidLooks := .later }
def NatInversesCardSaid : Prop := Claim7.holds Tryz.pinned (.plain (OpenSpec.ofChange natInversesSpec)) natInversesCard

/-- THE TIED CARD OF 'ostiarylaw03.NatSums'. -/
def natSumsCard : Claim7 := { stood := { row := natSumsRow, standIns := [], harness := (true, "d358e516f3393435df05d2ed26fd90c231a8692fe6f819dfc4a436862e17b440"), looks := true }, kinds := [], alts := [], laidByText := true, laidKinds := [.data, .pinned], laidTests := true, laidLooks := .later }
def NatSumsCardSaid : Prop := Claim7.holds Tryz.pinned (.plain (OpenSpec.ofChange natSumsSpec)) natSumsCard

/-- THE TIED CARD OF 'ostiarylaw03.NatPowers'. -/
def natPowersCard : Claim7 := { stood := { row := natPowersRow, standIns := [], harness := (true, "d358e516f3393435df05d2ed26fd90c231a8692fe6f819dfc4a436862e17b440"), looks := true }, kinds := [], alts := [], laidByText := true, laidKinds := [.data, .pinned], laidTests := true, laidLooks := .later }
def NatPowersCardSaid : Prop := Claim7.holds Tryz.pinned (.plain (OpenSpec.ofChange natPowersSpec)) natPowersCard

/-- THE SECOND FORM's CARD OF 'ostiarylaw03.NatInverses'. -/
def natInversesUptoCard : Claim7 := { stood := { row := natInversesUptoRow, standIns := [], harness := (true, "d358e516f3393435df05d2ed26fd90c231a8692fe6f819dfc4a436862e17b440"), looks := true }, kinds := [], alts := [], laidByText := true, laidKinds := [.data, .pinned], laidTests := true, laidLooks := .later }
def NatInversesUptoCardSaid : Prop := Claim7.holds Tryz.pinned (.plain (OpenSpec.upto natInversesSpec)) natInversesUptoCard

/-- THE SECOND FORM's CARD OF 'ostiarylaw03.NatSums'. -/
def natSumsUptoCard : Claim7 := { stood := { row := natSumsUptoRow, standIns := [], harness := (true, "d358e516f3393435df05d2ed26fd90c231a8692fe6f819dfc4a436862e17b440"), looks := true }, kinds := [], alts := [], laidByText := true, laidKinds := [.data, .pinned], laidTests := true, laidLooks := .later }
def NatSumsUptoCardSaid : Prop := Claim7.holds Tryz.pinned (.plain (OpenSpec.upto natSumsSpec)) natSumsUptoCard

/-- THE SECOND FORM's CARD OF 'ostiarylaw03.NatPowers'. -/
def natPowersUptoCard : Claim7 := { stood := { row := natPowersUptoRow, standIns := [], harness := (true, "d358e516f3393435df05d2ed26fd90c231a8692fe6f819dfc4a436862e17b440"), looks := true }, kinds := [], alts := [], laidByText := true, laidKinds := [.data, .pinned], laidTests := true, laidLooks := .later }
def NatPowersUptoCardSaid : Prop := Claim7.holds Tryz.pinned (.plain (OpenSpec.upto natPowersSpec)) natPowersUptoCard
end Rows
end Go.Proofs.YtbmhiejggkdnkaaGreatDoor
