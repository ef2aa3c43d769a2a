/-
  NARROWER THAN 'FOR EVERY INPUT', by the rows' own cells (each row's printed sentence says how): EcdsaKeys: laid · EcdsaAdds: laid · EcdsaTimes: laid · EcdsaVerifies: laid · EcdsaTwins: laid · EcdsaScalars: laid · EcdsaGroup: laid · EcdsaSigns: laid.
  DERIVED. THE GIVEN ROWS OF THIS SEAT. 8 by the template 'for every input the law returns true; each argument reads behind the call as it read before'; 0 by the template 'total and deterministic' (their statements: YtaggpodckafbgaaGreatDoorTotals.lean).
  GIVEN WITH THE SEED: the statements are not yours to turn. If you find one false, say at which input.
  Laid BY PROGRAM, IN A SANDBOX (cutbox-rows.mjs): the forced cells as the released guide's own fill.sh prints them over the translation 21c07e9c4895f4c2… (all of the seat's roots in one cut). By AI agents, Wed Nov 11 2026. No macro, syntax, notation, axiom, sorry.
-/
import Derived.Test.YtaggpodckafbgaaGreatDoorChecked
import GoSem.PinnedTables
import GoSem.Claim
import GoSem.ClaimJoined
import GoSem.ClaimMapViews
import Derived.JoinedTies
import Derived.KernelRfl
namespace Go.Proofs.YtaggpodckafbgaaGreatDoor
/- THE CELL 'sum', in the pinned program and in every row, IS THE sha256 OF THE DUMP (.gsa) THAT YtaggpodckafbgaaGreatDoorProg.lean LOADS. Nothing in Lean hashes anything: it is a label: what it is worth is what the hold of that sum in a sandbox is worth. -/
noncomputable def Tryz.pinned : Pinned := { name := "ytaggpodckafbgaagreatdoor", sum := "21c07e9c4895f4c2a897a3d1c63596e836edfad78e327ef709343d70ab2c8033", checked := Tryz.checked }
namespace Rows
def none {H : Type} : Left H := { results := [], args := [] }

/- WHAT THE LISTED PACKAGE-LEVEL VARIABLES READ AS WHEN THE CALL BEGINS. Each datum BY PROGRAM (the guide's laid-datum.mjs) off the statement by which the dump's own 'gosem.cut.vars' lays the variable. In a bare row this is a premise. The card (YtaggpodckafbgaaGreatDoorCards.lean) ties it to the program's text. -/
def laid_unicode_utf8_acceptRanges {H : Type} : DataW H := .agg [.agg [.lit (.int .u8 128), .lit (.int .u8 191)], .agg [.lit (.int .u8 160), .lit (.int .u8 191)], .agg [.lit (.int .u8 128), .lit (.int .u8 159)], .agg [.lit (.int .u8 144), .lit (.int .u8 191)], .agg [.lit (.int .u8 128), .lit (.int .u8 143)], .agg [.lit (.int .u8 0), .lit (.int .u8 0)], .agg [.lit (.int .u8 0), .lit (.int .u8 0)], .agg [.lit (.int .u8 0), .lit (.int .u8 0)], .agg [.lit (.int .u8 0), .lit (.int .u8 0)], .agg [.lit (.int .u8 0), .lit (.int .u8 0)], .agg [.lit (.int .u8 0), .lit (.int .u8 0)], .agg [.lit (.int .u8 0), .lit (.int .u8 0)], .agg [.lit (.int .u8 0), .lit (.int .u8 0)], .agg [.lit (.int .u8 0), .lit (.int .u8 0)], .agg [.lit (.int .u8 0), .lit (.int .u8 0)], .agg [.lit (.int .u8 0), .lit (.int .u8 0)]]
/-- One of Go's own tables, pinned by name: the form's constant. -/
def laid_unicode_utf8_first : DataW Unit := Go.Pinned.utf8First

/-- 'ostiarylaw05.EcdsaKeys': WHATEVER THE INPUT: true; the input reads as it did. -/
def ecdsaKeysSpec : ChangeSpec := { name := "ecdsaKeys", fn := fun _ => fun
  | [d] => { results := [.lit (.bool true)], args := [d] }
  | _ => none }
def ecdsaKeysRow : OpenClaim := { program := "ytaggpodckafbgaagreatdoor", sum := "21c07e9c4895f4c2a897a3d1c63596e836edfad78e327ef709343d70ab2c8033", func := "ostiary/ostiarylaw05.EcdsaKeys", spec := "ecdsaKeys", inPlace := ["math/bits.Add64", "math/bits.Sub64", "internal/bytealg.IndexByteString", "internal/bytealg.IndexString", "internal/abi.NoEscape", "internal/bytealg.MakeNoZero"], unfollowed := true, recurses := true, named := ["unicode/utf8.first", "unicode/utf8.acceptRanges", "internal/bytealg.MaxLen"], apart := false, laid := [("unicode/utf8.acceptRanges", laid_unicode_utf8_acceptRanges), ("unicode/utf8.first", laid_unicode_utf8_first)] }
def EcdsaKeysSaid : Prop := ecdsaKeysRow.holds Tryz.pinned (OpenSpec.ofChange ecdsaKeysSpec)

/-- ITS FALSE NEIGHBOUR: 'it returns false'. Refute it at one input. -/
def ecdsaKeysWrong : ChangeSpec := { name := "ecdsaKeys", fn := fun _ => fun
  | [d] => { results := [.lit (.bool false)], args := [d] }
  | _ => none }
def EcdsaKeysWrongFalsely : Prop := ecdsaKeysRow.holds Tryz.pinned (OpenSpec.ofChange ecdsaKeysWrong)

/-- 'ostiarylaw05.EcdsaAdds': WHATEVER THE INPUT: true; the input reads as it did. -/
def ecdsaAddsSpec : ChangeSpec := { name := "ecdsaAdds", fn := fun _ => fun
  | [d1, d2] => { results := [.lit (.bool true)], args := [d1, d2] }
  | _ => none }
def ecdsaAddsRow : OpenClaim := { program := "ytaggpodckafbgaagreatdoor", sum := "21c07e9c4895f4c2a897a3d1c63596e836edfad78e327ef709343d70ab2c8033", func := "ostiary/ostiarylaw05.EcdsaAdds", spec := "ecdsaAdds", inPlace := ["math/bits.Add64", "math/bits.Sub64", "internal/bytealg.IndexByteString", "internal/bytealg.IndexString", "internal/abi.NoEscape", "internal/bytealg.MakeNoZero"], unfollowed := true, recurses := true, named := ["unicode/utf8.first", "unicode/utf8.acceptRanges", "internal/bytealg.MaxLen"], apart := false, laid := [("unicode/utf8.acceptRanges", laid_unicode_utf8_acceptRanges), ("unicode/utf8.first", laid_unicode_utf8_first)] }
def EcdsaAddsSaid : Prop := ecdsaAddsRow.holds Tryz.pinned (OpenSpec.ofChange ecdsaAddsSpec)

/-- ITS FALSE NEIGHBOUR: 'it returns false'. Refute it at one input. -/
def ecdsaAddsWrong : ChangeSpec := { name := "ecdsaAdds", fn := fun _ => fun
  | [d1, d2] => { results := [.lit (.bool false)], args := [d1, d2] }
  | _ => none }
def EcdsaAddsWrongFalsely : Prop := ecdsaAddsRow.holds Tryz.pinned (OpenSpec.ofChange ecdsaAddsWrong)

/-- 'ostiarylaw05.EcdsaTimes': WHATEVER THE INPUT: true; the input reads as it did. -/
def ecdsaTimesSpec : ChangeSpec := { name := "ecdsaTimes", fn := fun _ => fun
  | [d1, d2] => { results := [.lit (.bool true)], args := [d1, d2] }
  | _ => none }
def ecdsaTimesRow : OpenClaim := { program := "ytaggpodckafbgaagreatdoor", sum := "21c07e9c4895f4c2a897a3d1c63596e836edfad78e327ef709343d70ab2c8033", func := "ostiary/ostiarylaw05.EcdsaTimes", spec := "ecdsaTimes", inPlace := ["math/bits.Add64", "math/bits.Sub64", "internal/bytealg.IndexByteString", "internal/bytealg.IndexString", "internal/abi.NoEscape", "internal/bytealg.MakeNoZero"], unfollowed := true, recurses := true, named := ["unicode/utf8.first", "unicode/utf8.acceptRanges", "internal/bytealg.MaxLen"], apart := false, laid := [("unicode/utf8.acceptRanges", laid_unicode_utf8_acceptRanges), ("unicode/utf8.first", laid_unicode_utf8_first)] }
def EcdsaTimesSaid : Prop := ecdsaTimesRow.holds Tryz.pinned (OpenSpec.ofChange ecdsaTimesSpec)

/-- ITS FALSE NEIGHBOUR: 'it returns false'. Refute it at one input. -/
def ecdsaTimesWrong : ChangeSpec := { name := "ecdsaTimes", fn := fun _ => fun
  | [d1, d2] => { results := [.lit (.bool false)], args := [d1, d2] }
  | _ => none }
def EcdsaTimesWrongFalsely : Prop := ecdsaTimesRow.holds Tryz.pinned (OpenSpec.ofChange ecdsaTimesWrong)

/-- 'ostiarylaw05.EcdsaVerifies': WHATEVER THE INPUT: true; the input reads as it did. -/
def ecdsaVerifiesSpec : ChangeSpec := { name := "ecdsaVerifies", fn := fun _ => fun
  | [d1, d2, d3] => { results := [.lit (.bool true)], args := [d1, d2, d3] }
  | _ => none }
def ecdsaVerifiesRow : OpenClaim := { program := "ytaggpodckafbgaagreatdoor", sum := "21c07e9c4895f4c2a897a3d1c63596e836edfad78e327ef709343d70ab2c8033", func := "ostiary/ostiarylaw05.EcdsaVerifies", spec := "ecdsaVerifies", inPlace := ["math/bits.Add64", "math/bits.Sub64", "internal/bytealg.IndexByteString", "internal/bytealg.IndexString", "internal/abi.NoEscape", "internal/bytealg.MakeNoZero"], unfollowed := true, recurses := true, named := ["unicode/utf8.first", "unicode/utf8.acceptRanges", "internal/bytealg.MaxLen"], apart := false, laid := [("unicode/utf8.acceptRanges", laid_unicode_utf8_acceptRanges), ("unicode/utf8.first", laid_unicode_utf8_first)] }
def EcdsaVerifiesSaid : Prop := ecdsaVerifiesRow.holds Tryz.pinned (OpenSpec.ofChange ecdsaVerifiesSpec)

/-- ITS FALSE NEIGHBOUR: 'it returns false'. Refute it at one input. -/
def ecdsaVerifiesWrong : ChangeSpec := { name := "ecdsaVerifies", fn := fun _ => fun
  | [d1, d2, d3] => { results := [.lit (.bool false)], args := [d1, d2, d3] }
  | _ => none }
def EcdsaVerifiesWrongFalsely : Prop := ecdsaVerifiesRow.holds Tryz.pinned (OpenSpec.ofChange ecdsaVerifiesWrong)

/-- 'ostiarylaw05.EcdsaTwins': WHATEVER THE INPUT: true; the input reads as it did. -/
def ecdsaTwinsSpec : ChangeSpec := { name := "ecdsaTwins", fn := fun _ => fun
  | [d1, d2, d3] => { results := [.lit (.bool true)], args := [d1, d2, d3] }
  | _ => none }
def ecdsaTwinsRow : OpenClaim := { program := "ytaggpodckafbgaagreatdoor", sum := "21c07e9c4895f4c2a897a3d1c63596e836edfad78e327ef709343d70ab2c8033", func := "ostiary/ostiarylaw05.EcdsaTwins", spec := "ecdsaTwins", inPlace := ["math/bits.Add64", "math/bits.Sub64", "internal/bytealg.IndexByteString", "internal/bytealg.IndexString", "internal/abi.NoEscape", "internal/bytealg.MakeNoZero", "internal/reflectlite.TypeOf"], unfollowed := true, recurses := true, named := ["unicode/utf8.first", "unicode/utf8.acceptRanges", "internal/bytealg.MaxLen"], apart := false, laid := [("unicode/utf8.acceptRanges", laid_unicode_utf8_acceptRanges), ("unicode/utf8.first", laid_unicode_utf8_first)] }
def EcdsaTwinsSaid : Prop := ecdsaTwinsRow.holds Tryz.pinned (OpenSpec.ofChange ecdsaTwinsSpec)

/-- ITS FALSE NEIGHBOUR: 'it returns false'. Refute it at one input. -/
def ecdsaTwinsWrong : ChangeSpec := { name := "ecdsaTwins", fn := fun _ => fun
  | [d1, d2, d3] => { results := [.lit (.bool false)], args := [d1, d2, d3] }
  | _ => none }
def EcdsaTwinsWrongFalsely : Prop := ecdsaTwinsRow.holds Tryz.pinned (OpenSpec.ofChange ecdsaTwinsWrong)

/-- 'ostiarylaw05.EcdsaScalars': WHATEVER THE INPUT: true; the input reads as it did. -/
def ecdsaScalarsSpec : ChangeSpec := { name := "ecdsaScalars", fn := fun _ => fun
  | [d1, d2, d3] => { results := [.lit (.bool true)], args := [d1, d2, d3] }
  | _ => none }
def ecdsaScalarsRow : OpenClaim := { program := "ytaggpodckafbgaagreatdoor", sum := "21c07e9c4895f4c2a897a3d1c63596e836edfad78e327ef709343d70ab2c8033", func := "ostiary/ostiarylaw05.EcdsaScalars", spec := "ecdsaScalars", inPlace := ["math/bits.Add64", "math/bits.Sub64", "internal/bytealg.IndexByteString", "internal/bytealg.IndexString", "internal/abi.NoEscape", "internal/bytealg.MakeNoZero", "internal/reflectlite.TypeOf"], unfollowed := true, recurses := true, named := ["unicode/utf8.first", "unicode/utf8.acceptRanges", "internal/bytealg.MaxLen"], apart := false, laid := [("unicode/utf8.acceptRanges", laid_unicode_utf8_acceptRanges), ("unicode/utf8.first", laid_unicode_utf8_first)] }
def EcdsaScalarsSaid : Prop := ecdsaScalarsRow.holds Tryz.pinned (OpenSpec.ofChange ecdsaScalarsSpec)

/-- ITS FALSE NEIGHBOUR: 'it returns false'. Refute it at one input. -/
def ecdsaScalarsWrong : ChangeSpec := { name := "ecdsaScalars", fn := fun _ => fun
  | [d1, d2, d3] => { results := [.lit (.bool false)], args := [d1, d2, d3] }
  | _ => none }
def EcdsaScalarsWrongFalsely : Prop := ecdsaScalarsRow.holds Tryz.pinned (OpenSpec.ofChange ecdsaScalarsWrong)

/-- 'ostiarylaw05.EcdsaGroup': WHATEVER THE INPUT: true; the input reads as it did. -/
def ecdsaGroupSpec : ChangeSpec := { name := "ecdsaGroup", fn := fun _ => fun
  | [d1, d2, d3] => { results := [.lit (.bool true)], args := [d1, d2, d3] }
  | _ => none }
def ecdsaGroupRow : OpenClaim := { program := "ytaggpodckafbgaagreatdoor", sum := "21c07e9c4895f4c2a897a3d1c63596e836edfad78e327ef709343d70ab2c8033", func := "ostiary/ostiarylaw05.EcdsaGroup", spec := "ecdsaGroup", inPlace := ["math/bits.Add64", "math/bits.Sub64", "internal/bytealg.IndexByteString", "internal/bytealg.IndexString", "internal/abi.NoEscape", "internal/bytealg.MakeNoZero", "internal/reflectlite.TypeOf"], unfollowed := true, recurses := true, named := ["unicode/utf8.first", "unicode/utf8.acceptRanges", "internal/bytealg.MaxLen"], apart := false, laid := [("unicode/utf8.acceptRanges", laid_unicode_utf8_acceptRanges), ("unicode/utf8.first", laid_unicode_utf8_first)] }
def EcdsaGroupSaid : Prop := ecdsaGroupRow.holds Tryz.pinned (OpenSpec.ofChange ecdsaGroupSpec)

/-- ITS FALSE NEIGHBOUR: 'it returns false'. Refute it at one input. -/
def ecdsaGroupWrong : ChangeSpec := { name := "ecdsaGroup", fn := fun _ => fun
  | [d1, d2, d3] => { results := [.lit (.bool false)], args := [d1, d2, d3] }
  | _ => none }
def EcdsaGroupWrongFalsely : Prop := ecdsaGroupRow.holds Tryz.pinned (OpenSpec.ofChange ecdsaGroupWrong)

/-- 'ostiarylaw05.EcdsaSigns': WHATEVER THE INPUT: true; the input reads as it did. -/
def ecdsaSignsSpec : ChangeSpec := { name := "ecdsaSigns", fn := fun _ => fun
  | [d1, d2, d3] => { results := [.lit (.bool true)], args := [d1, d2, d3] }
  | _ => none }
def ecdsaSignsRow : OpenClaim := { program := "ytaggpodckafbgaagreatdoor", sum := "21c07e9c4895f4c2a897a3d1c63596e836edfad78e327ef709343d70ab2c8033", func := "ostiary/ostiarylaw05.EcdsaSigns", spec := "ecdsaSigns", inPlace := ["math/bits.Add64", "math/bits.Sub64", "internal/bytealg.IndexByteString", "internal/bytealg.IndexString", "internal/abi.NoEscape", "internal/bytealg.MakeNoZero", "internal/reflectlite.TypeOf"], unfollowed := true, recurses := true, named := ["unicode/utf8.first", "unicode/utf8.acceptRanges", "internal/bytealg.MaxLen"], apart := false, laid := [("unicode/utf8.acceptRanges", laid_unicode_utf8_acceptRanges), ("unicode/utf8.first", laid_unicode_utf8_first)] }
def EcdsaSignsSaid : Prop := ecdsaSignsRow.holds Tryz.pinned (OpenSpec.ofChange ecdsaSignsSpec)

/-- ITS FALSE NEIGHBOUR: 'it returns false'. Refute it at one input. -/
def ecdsaSignsWrong : ChangeSpec := { name := "ecdsaSigns", fn := fun _ => fun
  | [d1, d2, d3] => { results := [.lit (.bool false)], args := [d1, d2, d3] }
  | _ => none }
def EcdsaSignsWrongFalsely : Prop := ecdsaSignsRow.holds Tryz.pinned (OpenSpec.ofChange ecdsaSignsWrong)

/- THE SECOND FORM. 'bulk': how many values and letters a reading holds, each counted each time it is reached (what is shared counts as often as it is met; a slice's spare places count too). A statement '..UptoSaid' is the law's where the arguments, and the package variables that the reading takes, are together of bulk at most 1048576: NARROWER than '..Said'. Prove '..Said' where nothing that the law and all that it calls make is longer than what came in: it says more and counts as full. Else prove '..UptoSaid'. A law counts once. -/
mutual
def uptoBulk {H : Type} : DataW H → Nat
  | .lit (.string bytes) => bytes.length + 1
  | .lit _ => 1
  | .nil => 1
  | .ptr d => uptoBulk d + 1
  | .slice elems spare => uptoBulkAll elems + uptoBulkAll spare + 1
  | .agg parts => uptoBulkAll parts + 1
  | .iface _ d => uptoBulk d + 1
  | .map entries => uptoBulkEntries entries + 1
  | .held _ => 1
def uptoBulkAll {H : Type} : List (DataW H) → Nat
  | [] => 0
  | d :: r => uptoBulk d + uptoBulkAll r
def uptoBulkEntries {H : Type} : List (Lit × DataW H) → Nat
  | [] => 0
  | x :: r => uptoBulkEntry x + uptoBulkEntries r
def uptoBulkEntry {H : Type} : Lit × DataW H → Nat
  | (.string bytes, d) => bytes.length + uptoBulk d + 1
  | (_, d) => uptoBulk d + 1
 end
def uptoSmall : (H : Type) → List (DataW H) → Bool := fun _ ds => decide (uptoBulkAll ds ≤ 1048576)
def OpenSpec.upto (s : _root_.Go.ChangeSpec) : _root_.Go.OpenSpec := { _root_.Go.OpenSpec.ofChange s with cond := some uptoSmall }

/-- 'ostiarylaw05.EcdsaKeys', WHERE WHAT IT READS IS OF BULK AT MOST 1048576: true; the input reads as it did. -/
def ecdsaKeysUptoRow : OpenClaim := { program := "ytaggpodckafbgaagreatdoor", sum := "21c07e9c4895f4c2a897a3d1c63596e836edfad78e327ef709343d70ab2c8033", func := "ostiary/ostiarylaw05.EcdsaKeys", spec := "ecdsaKeys", inPlace := ["math/bits.Add64", "math/bits.Sub64", "internal/bytealg.IndexByteString", "internal/bytealg.IndexString", "internal/abi.NoEscape", "internal/bytealg.MakeNoZero"], unfollowed := true, recurses := true, named := ["unicode/utf8.first", "unicode/utf8.acceptRanges", "internal/bytealg.MaxLen"], apart := false, laid := [("unicode/utf8.acceptRanges", laid_unicode_utf8_acceptRanges), ("unicode/utf8.first", laid_unicode_utf8_first)], narrowed := true }
def EcdsaKeysUptoSaid : Prop := ecdsaKeysUptoRow.holds Tryz.pinned (OpenSpec.upto ecdsaKeysSpec)

/-- 'ostiarylaw05.EcdsaAdds', WHERE WHAT IT READS IS OF BULK AT MOST 1048576: true; the input reads as it did. -/
def ecdsaAddsUptoRow : OpenClaim := { program := "ytaggpodckafbgaagreatdoor", sum := "21c07e9c4895f4c2a897a3d1c63596e836edfad78e327ef709343d70ab2c8033", func := "ostiary/ostiarylaw05.EcdsaAdds", spec := "ecdsaAdds", inPlace := ["math/bits.Add64", "math/bits.Sub64", "internal/bytealg.IndexByteString", "internal/bytealg.IndexString", "internal/abi.NoEscape", "internal/bytealg.MakeNoZero"], unfollowed := true, recurses := true, named := ["unicode/utf8.first", "unicode/utf8.acceptRanges", "internal/bytealg.MaxLen"], apart := false, laid := [("unicode/utf8.acceptRanges", laid_unicode_utf8_acceptRanges), ("unicode/utf8.first", laid_unicode_utf8_first)], narrowed := true }
def EcdsaAddsUptoSaid : Prop := ecdsaAddsUptoRow.holds Tryz.pinned (OpenSpec.upto ecdsaAddsSpec)

/-- 'ostiarylaw05.EcdsaTimes', WHERE WHAT IT READS IS OF BULK AT MOST 1048576: true; the input reads as it did. -/
def ecdsaTimesUptoRow : OpenClaim := { program := "ytaggpodckafbgaagreatdoor", sum := "21c07e9c4895f4c2a897a3d1c63596e836edfad78e327ef709343d70ab2c8033", func := "ostiary/ostiarylaw05.EcdsaTimes", spec := "ecdsaTimes", inPlace := ["math/bits.Add64", "math/bits.Sub64", "internal/bytealg.IndexByteString", "internal/bytealg.IndexString", "internal/abi.NoEscape", "internal/bytealg.MakeNoZero"], unfollowed := true, recurses := true, named := ["unicode/utf8.first", "unicode/utf8.acceptRanges", "internal/bytealg.MaxLen"], apart := false, laid := [("unicode/utf8.acceptRanges", laid_unicode_utf8_acceptRanges), ("unicode/utf8.first", laid_unicode_utf8_first)], narrowed := true }
def EcdsaTimesUptoSaid : Prop := ecdsaTimesUptoRow.holds Tryz.pinned (OpenSpec.upto ecdsaTimesSpec)

/-- 'ostiarylaw05.EcdsaVerifies', WHERE WHAT IT READS IS OF BULK AT MOST 1048576: true; the input reads as it did. -/
def ecdsaVerifiesUptoRow : OpenClaim := { program := "ytaggpodckafbgaagreatdoor", sum := "21c07e9c4895f4c2a897a3d1c63596e836edfad78e327ef709343d70ab2c8033", func := "ostiary/ostiarylaw05.EcdsaVerifies", spec := "ecdsaVerifies", inPlace := ["math/bits.Add64", "math/bits.Sub64", "internal/bytealg.IndexByteString", "internal/bytealg.IndexString", "internal/abi.NoEscape", "internal/bytealg.MakeNoZero"], unfollowed := true, recurses := true, named := ["unicode/utf8.first", "unicode/utf8.acceptRanges", "internal/bytealg.MaxLen"], apart := false, laid := [("unicode/utf8.acceptRanges", laid_unicode_utf8_acceptRanges), ("unicode/utf8.first", laid_unicode_utf8_first)], narrowed := true }
def EcdsaVerifiesUptoSaid : Prop := ecdsaVerifiesUptoRow.holds Tryz.pinned (OpenSpec.upto ecdsaVerifiesSpec)

/-- 'ostiarylaw05.EcdsaTwins', WHERE WHAT IT READS IS OF BULK AT MOST 1048576: true; the input reads as it did. -/
def ecdsaTwinsUptoRow : OpenClaim := { program := "ytaggpodckafbgaagreatdoor", sum := "21c07e9c4895f4c2a897a3d1c63596e836edfad78e327ef709343d70ab2c8033", func := "ostiary/ostiarylaw05.EcdsaTwins", spec := "ecdsaTwins", inPlace := ["math/bits.Add64", "math/bits.Sub64", "internal/bytealg.IndexByteString", "internal/bytealg.IndexString", "internal/abi.NoEscape", "internal/bytealg.MakeNoZero", "internal/reflectlite.TypeOf"], unfollowed := true, recurses := true, named := ["unicode/utf8.first", "unicode/utf8.acceptRanges", "internal/bytealg.MaxLen"], apart := false, laid := [("unicode/utf8.acceptRanges", laid_unicode_utf8_acceptRanges), ("unicode/utf8.first", laid_unicode_utf8_first)], narrowed := true }
def EcdsaTwinsUptoSaid : Prop := ecdsaTwinsUptoRow.holds Tryz.pinned (OpenSpec.upto ecdsaTwinsSpec)

/-- 'ostiarylaw05.EcdsaScalars', WHERE WHAT IT READS IS OF BULK AT MOST 1048576: true; the input reads as it did. -/
def ecdsaScalarsUptoRow : OpenClaim := { program := "ytaggpodckafbgaagreatdoor", sum := "21c07e9c4895f4c2a897a3d1c63596e836edfad78e327ef709343d70ab2c8033", func := "ostiary/ostiarylaw05.EcdsaScalars", spec := "ecdsaScalars", inPlace := ["math/bits.Add64", "math/bits.Sub64", "internal/bytealg.IndexByteString", "internal/bytealg.IndexString", "internal/abi.NoEscape", "internal/bytealg.MakeNoZero", "internal/reflectlite.TypeOf"], unfollowed := true, recurses := true, named := ["unicode/utf8.first", "unicode/utf8.acceptRanges", "internal/bytealg.MaxLen"], apart := false, laid := [("unicode/utf8.acceptRanges", laid_unicode_utf8_acceptRanges), ("unicode/utf8.first", laid_unicode_utf8_first)], narrowed := true }
def EcdsaScalarsUptoSaid : Prop := ecdsaScalarsUptoRow.holds Tryz.pinned (OpenSpec.upto ecdsaScalarsSpec)

/-- 'ostiarylaw05.EcdsaGroup', WHERE WHAT IT READS IS OF BULK AT MOST 1048576: true; the input reads as it did. -/
def ecdsaGroupUptoRow : OpenClaim := { program := "ytaggpodckafbgaagreatdoor", sum := "21c07e9c4895f4c2a897a3d1c63596e836edfad78e327ef709343d70ab2c8033", func := "ostiary/ostiarylaw05.EcdsaGroup", spec := "ecdsaGroup", inPlace := ["math/bits.Add64", "math/bits.Sub64", "internal/bytealg.IndexByteString", "internal/bytealg.IndexString", "internal/abi.NoEscape", "internal/bytealg.MakeNoZero", "internal/reflectlite.TypeOf"], unfollowed := true, recurses := true, named := ["unicode/utf8.first", "unicode/utf8.acceptRanges", "internal/bytealg.MaxLen"], apart := false, laid := [("unicode/utf8.acceptRanges", laid_unicode_utf8_acceptRanges), ("unicode/utf8.first", laid_unicode_utf8_first)], narrowed := true }
def EcdsaGroupUptoSaid : Prop := ecdsaGroupUptoRow.holds Tryz.pinned (OpenSpec.upto ecdsaGroupSpec)

/-- 'ostiarylaw05.EcdsaSigns', WHERE WHAT IT READS IS OF BULK AT MOST 1048576: true; the input reads as it did. -/
def ecdsaSignsUptoRow : OpenClaim := { program := "ytaggpodckafbgaagreatdoor", sum := "21c07e9c4895f4c2a897a3d1c63596e836edfad78e327ef709343d70ab2c8033", func := "ostiary/ostiarylaw05.EcdsaSigns", spec := "ecdsaSigns", inPlace := ["math/bits.Add64", "math/bits.Sub64", "internal/bytealg.IndexByteString", "internal/bytealg.IndexString", "internal/abi.NoEscape", "internal/bytealg.MakeNoZero", "internal/reflectlite.TypeOf"], unfollowed := true, recurses := true, named := ["unicode/utf8.first", "unicode/utf8.acceptRanges", "internal/bytealg.MaxLen"], apart := false, laid := [("unicode/utf8.acceptRanges", laid_unicode_utf8_acceptRanges), ("unicode/utf8.first", laid_unicode_utf8_first)], narrowed := true }
def EcdsaSignsUptoSaid : Prop := ecdsaSignsUptoRow.holds Tryz.pinned (OpenSpec.upto ecdsaSignsSpec)

end Rows
end Go.Proofs.YtaggpodckafbgaaGreatDoor
