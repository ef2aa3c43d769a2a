/-
  DERIVED. GIVEN WITH THE SEED: THE CARDS: each row of YtaggpodckafbgaaGreatDoorRows.lean that lists a variable, with what it lists TIED to the program's text (the seventh form; the later family's looks); each row that meets fmt, with fmt's text TOLD by the authors' own Lean function (tested against real Go, not proved from fmt's source: count such statements apart). THE CARD IS WHAT COUNTS. Prove the row's statement (the work); the ties are given (YtaggpodckafbgaaGreatDoorTie.lean); close each card by the builder's one call (the guide's Derived/Test/ToyasCard.lean, 'card_holds'). Laid BY PROGRAM, IN A SANDBOX (cutbox-door.mjs). By AI agents, Wed Nov 11 2026. No macro, syntax, notation, axiom, sorry.
-/
import Derived.Test.YtaggpodckafbgaaGreatDoorRows
import GoSem.ClaimSeven
namespace Go.Proofs.YtaggpodckafbgaaGreatDoor
namespace Rows

/-- THE TIED CARD OF 'ostiarylaw05.EcdsaKeys'. -/
def ecdsaKeysCard : Claim7 := { stood := { row := ecdsaKeysRow, standIns := [], harness := (true, "49dfd585716db6f079cdd7649623c37480654b8f73462ce744a7e1d5fee66c35"), looks := true }, kinds := [], alts := [], laidByText := true, laidKinds := [.data, .pinned], laidTests := true, laidLooks := .later }
def EcdsaKeysCardSaid : Prop := Claim7.holds Tryz.pinned (.plain (OpenSpec.ofChange ecdsaKeysSpec)) ecdsaKeysCard

/-- THE TIED CARD OF 'ostiarylaw05.EcdsaAdds'. -/
def ecdsaAddsCard : Claim7 := { stood := { row := ecdsaAddsRow, standIns := [], harness := (true, "49dfd585716db6f079cdd7649623c37480654b8f73462ce744a7e1d5fee66c35"), looks := true }, kinds := [], alts := [], laidByText := true, laidKinds := [.data, .pinned], laidTests := true, laidLooks := .later }
def EcdsaAddsCardSaid : Prop := Claim7.holds Tryz.pinned (.plain (OpenSpec.ofChange ecdsaAddsSpec)) ecdsaAddsCard

/-- THE TIED CARD OF 'ostiarylaw05.EcdsaTimes'. -/
def ecdsaTimesCard : Claim7 := { stood := { row := ecdsaTimesRow, standIns := [], harness := (true, "49dfd585716db6f079cdd7649623c37480654b8f73462ce744a7e1d5fee66c35"), looks := true }, kinds := [], alts := [], laidByText := true, laidKinds := [.data, .pinned], laidTests := true, laidLooks := .later }
def EcdsaTimesCardSaid : Prop := Claim7.holds Tryz.pinned (.plain (OpenSpec.ofChange ecdsaTimesSpec)) ecdsaTimesCard

/-- THE TIED CARD OF 'ostiarylaw05.EcdsaVerifies'. -/
def ecdsaVerifiesCard : Claim7 := { stood := { row := ecdsaVerifiesRow, standIns := [], harness := (true, "49dfd585716db6f079cdd7649623c37480654b8f73462ce744a7e1d5fee66c35"), looks := true }, kinds := [], alts := [], laidByText := true, laidKinds := [.data, .pinned], laidTests := true, laidLooks := .later }
def EcdsaVerifiesCardSaid : Prop := Claim7.holds Tryz.pinned (.plain (OpenSpec.ofChange ecdsaVerifiesSpec)) ecdsaVerifiesCard

/-- THE TIED CARD OF 'ostiarylaw05.EcdsaTwins'. -/
def ecdsaTwinsCard : Claim7 := { stood := { row := ecdsaTwinsRow, standIns := [], harness := (true, "49dfd585716db6f079cdd7649623c37480654b8f73462ce744a7e1d5fee66c35"), looks := true }, kinds := [], alts := [], laidByText := true, laidKinds := [.data, .pinned], laidTests := true, laidLooks := .later }
def EcdsaTwinsCardSaid : Prop := Claim7.holds Tryz.pinned (.plain (OpenSpec.ofChange ecdsaTwinsSpec)) ecdsaTwinsCard

/-- THE TIED CARD OF 'ostiarylaw05.EcdsaScalars'. -/
def ecdsaScalarsCard : Claim7 := { stood := { row := ecdsaScalarsRow, standIns := [], harness := (true, "49dfd585716db6f079cdd7649623c37480654b8f73462ce744a7e1d5fee66c35"), looks := true }, kinds := [], alts := [], laidByText := true, laidKinds := [.data, .pinned], laidTests := true, laidLooks := .later }
def EcdsaScalarsCardSaid : Prop := Claim7.holds Tryz.pinned (.plain (OpenSpec.ofChange ecdsaScalarsSpec)) ecdsaScalarsCard

/-- THE TIED CARD OF 'ostiarylaw05.EcdsaGroup'. -/
def ecdsaGroupCard : Claim7 := { stood := { row := ecdsaGroupRow, standIns := [], harness := (true, "49dfd585716db6f079cdd7649623c37480654b8f73462ce744a7e1d5fee66c35"), looks := true }, kinds := [], alts := [], laidByText := true, laidKinds := [.data, .pinned], laidTests := true, laidLooks := .later }
def EcdsaGroupCardSaid : Prop := Claim7.holds Tryz.pinned (.plain (OpenSpec.ofChange ecdsaGroupSpec)) ecdsaGroupCard

/-- THE TIED CARD OF 'ostiarylaw05.EcdsaSigns'. -/
def ecdsaSignsCard : Claim7 := { stood := { row := ecdsaSignsRow, standIns := [], harness := (true, "49dfd585716db6f079cdd7649623c37480654b8f73462ce744a7e1d5fee66c35"), looks := true }, kinds := [], alts := [], laidByText := true, laidKinds := [.data, .pinned], laidTests := true, laidLooks := .later }
def EcdsaSignsCardSaid : Prop := Claim7.holds Tryz.pinned (.plain (OpenSpec.ofChange ecdsaSignsSpec)) ecdsaSignsCard

/-- THE SECOND FORM's CARD OF 'ostiarylaw05.EcdsaKeys'. -/
def ecdsaKeysUptoCard : Claim7 := { stood := { row := ecdsaKeysUptoRow, standIns := [], harness := (true, "49dfd585716db6f079cdd7649623c37480654b8f73462ce744a7e1d5fee66c35"), looks := true }, kinds := [], alts := [], laidByText := true, laidKinds := [.data, .pinned], laidTests := true, laidLooks := .later }
def EcdsaKeysUptoCardSaid : Prop := Claim7.holds Tryz.pinned (.plain (OpenSpec.upto ecdsaKeysSpec)) ecdsaKeysUptoCard

/-- THE SECOND FORM's CARD OF 'ostiarylaw05.EcdsaAdds'. -/
def ecdsaAddsUptoCard : Claim7 := { stood := { row := ecdsaAddsUptoRow, standIns := [], harness := (true, "49dfd585716db6f079cdd7649623c37480654b8f73462ce744a7e1d5fee66c35"), looks := true }, kinds := [], alts := [], laidByText := true, laidKinds := [.data, .pinned], laidTests := true, laidLooks := .later }
def EcdsaAddsUptoCardSaid : Prop := Claim7.holds Tryz.pinned (.plain (OpenSpec.upto ecdsaAddsSpec)) ecdsaAddsUptoCard

/-- THE SECOND FORM's CARD OF 'ostiarylaw05.EcdsaTimes'. -/
def ecdsaTimesUptoCard : Claim7 := { stood := { row := ecdsaTimesUptoRow, standIns := [], harness := (true, "49dfd585716db6f079cdd7649623c37480654b8f73462ce744a7e1d5fee66c35"), looks := true }, kinds := [], alts := [], laidByText := true, laidKinds := [.data, .pinned], laidTests := true, laidLooks := .later }
def EcdsaTimesUptoCardSaid : Prop := Claim7.holds Tryz.pinned (.plain (OpenSpec.upto ecdsaTimesSpec)) ecdsaTimesUptoCard

/-- THE SECOND FORM's CARD OF 'ostiarylaw05.EcdsaVerifies'. -/
def ecdsaVerifiesUptoCard : Claim7 := { stood := { row := ecdsaVerifiesUptoRow, standIns := [], harness := (true, "49dfd585716db6f079cdd7649623c37480654b8f73462ce744a7e1d5fee66c35"), looks := true }, kinds := [], alts := [], laidByText := true, laidKinds := [.data, .pinned], laidTests := true, laidLooks := .later }
def EcdsaVerifiesUptoCardSaid : Prop := Claim7.holds Tryz.pinned (.plain (OpenSpec.upto ecdsaVerifiesSpec)) ecdsaVerifiesUptoCard

/-- THE SECOND FORM's CARD OF 'ostiarylaw05.EcdsaTwins'. -/
def ecdsaTwinsUptoCard : Claim7 := { stood := { row := ecdsaTwinsUptoRow, standIns := [], harness := (true, "49dfd585716db6f079cdd7649623c37480654b8f73462ce744a7e1d5fee66c35"), looks := true }, kinds := [], alts := [], laidByText := true, laidKinds := [.data, .pinned], laidTests := true, laidLooks := .later }
def EcdsaTwinsUptoCardSaid : Prop := Claim7.holds Tryz.pinned (.plain (OpenSpec.upto ecdsaTwinsSpec)) ecdsaTwinsUptoCard

/-- THE SECOND FORM's CARD OF 'ostiarylaw05.EcdsaScalars'. -/
def ecdsaScalarsUptoCard : Claim7 := { stood := { row := ecdsaScalarsUptoRow, standIns := [], harness := (true, "49dfd585716db6f079cdd7649623c37480654b8f73462ce744a7e1d5fee66c35"), looks := true }, kinds := [], alts := [], laidByText := true, laidKinds := [.data, .pinned], laidTests := true, laidLooks := .later }
def EcdsaScalarsUptoCardSaid : Prop := Claim7.holds Tryz.pinned (.plain (OpenSpec.upto ecdsaScalarsSpec)) ecdsaScalarsUptoCard

/-- THE SECOND FORM's CARD OF 'ostiarylaw05.EcdsaGroup'. -/
def ecdsaGroupUptoCard : Claim7 := { stood := { row := ecdsaGroupUptoRow, standIns := [], harness := (true, "49dfd585716db6f079cdd7649623c37480654b8f73462ce744a7e1d5fee66c35"), looks := true }, kinds := [], alts := [], laidByText := true, laidKinds := [.data, .pinned], laidTests := true, laidLooks := .later }
def EcdsaGroupUptoCardSaid : Prop := Claim7.holds Tryz.pinned (.plain (OpenSpec.upto ecdsaGroupSpec)) ecdsaGroupUptoCard

/-- THE SECOND FORM's CARD OF 'ostiarylaw05.EcdsaSigns'. -/
def ecdsaSignsUptoCard : Claim7 := { stood := { row := ecdsaSignsUptoRow, standIns := [], harness := (true, "49dfd585716db6f079cdd7649623c37480654b8f73462ce744a7e1d5fee66c35"), looks := true }, kinds := [], alts := [], laidByText := true, laidKinds := [.data, .pinned], laidTests := true, laidLooks := .later }
def EcdsaSignsUptoCardSaid : Prop := Claim7.holds Tryz.pinned (.plain (OpenSpec.upto ecdsaSignsSpec)) ecdsaSignsUptoCard
end Rows
end Go.Proofs.YtaggpodckafbgaaGreatDoor
