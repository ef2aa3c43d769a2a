/-
  NARROWER THAN 'FOR EVERY INPUT', by the rows' own cells (each row's printed sentence says how): RsaKeys: laid · RsaOpens: laid · RsaBlocks: laid · RsaMasks: laid · RsaRound: laid · RsaFits: laid.
  DERIVED. THE GIVEN ROWS OF THIS SEAT. 6 by the template 'for every input the law returns true; each argument reads behind the call as it read before'; 0 by the template 'total and deterministic' (their statements: YtjkjlbchbbpmaaaGreatDoorTotals.lean).
  GIVEN WITH THE SEED: the statements are not yours to turn. If you find one false, say at which input.
  Laid BY PROGRAM, IN A SANDBOX (cutbox-rows.mjs): the forced cells as the released guide's own fill.sh prints them over the translation 0c0ad1d662be245b… (all of the seat's roots in one cut). By AI agents, Wed Nov 11 2026. No macro, syntax, notation, axiom, sorry.
-/
import Derived.Test.YtjkjlbchbbpmaaaGreatDoorChecked
import GoSem.PinnedTables
import GoSem.Claim
import GoSem.ClaimJoined
import GoSem.ClaimMapViews
import Derived.JoinedTies
import Derived.KernelRfl
namespace Go.Proofs.YtjkjlbchbbpmaaaGreatDoor
/- THE CELL 'sum', in the pinned program and in every row, IS THE sha256 OF THE DUMP (.gsa) THAT YtjkjlbchbbpmaaaGreatDoorProg.lean LOADS. Nothing in Lean hashes anything: it is a label: what it is worth is what the hold of that sum in a sandbox is worth. -/
noncomputable def Tryz.pinned : Pinned := { name := "ytjkjlbchbbpmaaagreatdoor", sum := "0c0ad1d662be245bca8cf311686e5aa62c708c5eec637242ebb9ec1fd0d07267", checked := Tryz.checked }
namespace Rows
def none {H : Type} : Left H := { results := [], args := [] }

/- WHAT THE LISTED PACKAGE-LEVEL VARIABLES READ AS WHEN THE CALL BEGINS. Each datum BY PROGRAM (the guide's laid-datum.mjs) off the statement by which the dump's own 'gosem.cut.vars' lays the variable. In a bare row this is a premise. The card (YtjkjlbchbbpmaaaGreatDoorCards.lean) ties it to the program's text. -/
def laid_unicode_utf8_acceptRanges {H : Type} : DataW H := .agg [.agg [.lit (.int .u8 128), .lit (.int .u8 191)], .agg [.lit (.int .u8 160), .lit (.int .u8 191)], .agg [.lit (.int .u8 128), .lit (.int .u8 159)], .agg [.lit (.int .u8 144), .lit (.int .u8 191)], .agg [.lit (.int .u8 128), .lit (.int .u8 143)], .agg [.lit (.int .u8 0), .lit (.int .u8 0)], .agg [.lit (.int .u8 0), .lit (.int .u8 0)], .agg [.lit (.int .u8 0), .lit (.int .u8 0)], .agg [.lit (.int .u8 0), .lit (.int .u8 0)], .agg [.lit (.int .u8 0), .lit (.int .u8 0)], .agg [.lit (.int .u8 0), .lit (.int .u8 0)], .agg [.lit (.int .u8 0), .lit (.int .u8 0)], .agg [.lit (.int .u8 0), .lit (.int .u8 0)], .agg [.lit (.int .u8 0), .lit (.int .u8 0)], .agg [.lit (.int .u8 0), .lit (.int .u8 0)], .agg [.lit (.int .u8 0), .lit (.int .u8 0)]]
/-- One of Go's own tables, pinned by name: the form's constant. -/
def laid_unicode_utf8_first : DataW Unit := Go.Pinned.utf8First

/-- 'ostiarylaw04.RsaKeys': WHATEVER THE INPUT: true; the input reads as it did. -/
def rsaKeysSpec : ChangeSpec := { name := "rsaKeys", fn := fun _ => fun
  | [d] => { results := [.lit (.bool true)], args := [d] }
  | _ => none }
def rsaKeysRow : OpenClaim := { program := "ytjkjlbchbbpmaaagreatdoor", sum := "0c0ad1d662be245bca8cf311686e5aa62c708c5eec637242ebb9ec1fd0d07267", func := "ostiary/ostiarylaw04.RsaKeys", spec := "rsaKeys", inPlace := ["internal/bytealg.IndexByteString", "internal/bytealg.IndexString", "internal/abi.NoEscape", "internal/bytealg.MakeNoZero", "internal/bytealg.abigen_runtime_cmpstring", "internal/reflectlite.TypeOf"], unfollowed := true, recurses := true, named := ["unicode/utf8.first", "unicode/utf8.acceptRanges", "internal/bytealg.MaxLen"], apart := false, laid := [("unicode/utf8.acceptRanges", laid_unicode_utf8_acceptRanges), ("unicode/utf8.first", laid_unicode_utf8_first)] }
def RsaKeysSaid : Prop := rsaKeysRow.holds Tryz.pinned (OpenSpec.ofChange rsaKeysSpec)

/-- ITS FALSE NEIGHBOUR: 'it returns false'. Refute it at one input. -/
def rsaKeysWrong : ChangeSpec := { name := "rsaKeys", fn := fun _ => fun
  | [d] => { results := [.lit (.bool false)], args := [d] }
  | _ => none }
def RsaKeysWrongFalsely : Prop := rsaKeysRow.holds Tryz.pinned (OpenSpec.ofChange rsaKeysWrong)

/-- 'ostiarylaw04.RsaOpens': WHATEVER THE INPUT: true; the input reads as it did. -/
def rsaOpensSpec : ChangeSpec := { name := "rsaOpens", fn := fun _ => fun
  | [d1, d2] => { results := [.lit (.bool true)], args := [d1, d2] }
  | _ => none }
def rsaOpensRow : OpenClaim := { program := "ytjkjlbchbbpmaaagreatdoor", sum := "0c0ad1d662be245bca8cf311686e5aa62c708c5eec637242ebb9ec1fd0d07267", func := "ostiary/ostiarylaw04.RsaOpens", spec := "rsaOpens", inPlace := ["internal/bytealg.IndexByteString", "internal/bytealg.IndexString", "internal/bytealg.abigen_runtime_cmpstring", "internal/reflectlite.TypeOf", "internal/abi.NoEscape", "internal/bytealg.MakeNoZero"], unfollowed := true, recurses := true, named := ["unicode/utf8.first", "unicode/utf8.acceptRanges", "internal/bytealg.MaxLen"], apart := false, laid := [("unicode/utf8.acceptRanges", laid_unicode_utf8_acceptRanges), ("unicode/utf8.first", laid_unicode_utf8_first)] }
def RsaOpensSaid : Prop := rsaOpensRow.holds Tryz.pinned (OpenSpec.ofChange rsaOpensSpec)

/-- ITS FALSE NEIGHBOUR: 'it returns false'. Refute it at one input. -/
def rsaOpensWrong : ChangeSpec := { name := "rsaOpens", fn := fun _ => fun
  | [d1, d2] => { results := [.lit (.bool false)], args := [d1, d2] }
  | _ => none }
def RsaOpensWrongFalsely : Prop := rsaOpensRow.holds Tryz.pinned (OpenSpec.ofChange rsaOpensWrong)

/-- 'ostiarylaw04.RsaBlocks': WHATEVER THE INPUT: true; the input reads as it did. -/
def rsaBlocksSpec : ChangeSpec := { name := "rsaBlocks", fn := fun _ => fun
  | [d1, d2] => { results := [.lit (.bool true)], args := [d1, d2] }
  | _ => none }
def rsaBlocksRow : OpenClaim := { program := "ytjkjlbchbbpmaaagreatdoor", sum := "0c0ad1d662be245bca8cf311686e5aa62c708c5eec637242ebb9ec1fd0d07267", func := "ostiary/ostiarylaw04.RsaBlocks", spec := "rsaBlocks", inPlace := ["internal/abi.NoEscape", "internal/bytealg.MakeNoZero", "internal/bytealg.IndexByteString", "internal/bytealg.IndexString", "internal/bytealg.abigen_runtime_cmpstring", "internal/reflectlite.TypeOf"], unfollowed := true, recurses := true, named := ["unicode/utf8.first", "unicode/utf8.acceptRanges", "internal/bytealg.MaxLen"], apart := false, laid := [("unicode/utf8.acceptRanges", laid_unicode_utf8_acceptRanges), ("unicode/utf8.first", laid_unicode_utf8_first)] }
def RsaBlocksSaid : Prop := rsaBlocksRow.holds Tryz.pinned (OpenSpec.ofChange rsaBlocksSpec)

/-- ITS FALSE NEIGHBOUR: 'it returns false'. Refute it at one input. -/
def rsaBlocksWrong : ChangeSpec := { name := "rsaBlocks", fn := fun _ => fun
  | [d1, d2] => { results := [.lit (.bool false)], args := [d1, d2] }
  | _ => none }
def RsaBlocksWrongFalsely : Prop := rsaBlocksRow.holds Tryz.pinned (OpenSpec.ofChange rsaBlocksWrong)

/-- 'ostiarylaw04.RsaMasks': WHATEVER THE INPUT: true; the input reads as it did. -/
def rsaMasksSpec : ChangeSpec := { name := "rsaMasks", fn := fun _ => fun
  | [d1, d2, d3] => { results := [.lit (.bool true)], args := [d1, d2, d3] }
  | _ => none }
def rsaMasksRow : OpenClaim := { program := "ytjkjlbchbbpmaaagreatdoor", sum := "0c0ad1d662be245bca8cf311686e5aa62c708c5eec637242ebb9ec1fd0d07267", func := "ostiary/ostiarylaw04.RsaMasks", spec := "rsaMasks", inPlace := ["internal/abi.NoEscape", "internal/bytealg.MakeNoZero", "internal/bytealg.IndexByteString", "internal/bytealg.IndexString", "internal/bytealg.abigen_runtime_cmpstring", "internal/reflectlite.TypeOf"], unfollowed := true, recurses := true, named := ["unicode/utf8.first", "unicode/utf8.acceptRanges", "internal/bytealg.MaxLen"], apart := false, laid := [("unicode/utf8.acceptRanges", laid_unicode_utf8_acceptRanges), ("unicode/utf8.first", laid_unicode_utf8_first)] }
def RsaMasksSaid : Prop := rsaMasksRow.holds Tryz.pinned (OpenSpec.ofChange rsaMasksSpec)

/-- ITS FALSE NEIGHBOUR: 'it returns false'. Refute it at one input. -/
def rsaMasksWrong : ChangeSpec := { name := "rsaMasks", fn := fun _ => fun
  | [d1, d2, d3] => { results := [.lit (.bool false)], args := [d1, d2, d3] }
  | _ => none }
def RsaMasksWrongFalsely : Prop := rsaMasksRow.holds Tryz.pinned (OpenSpec.ofChange rsaMasksWrong)

/-- 'ostiarylaw04.RsaRound': WHATEVER THE INPUT: true; the input reads as it did. -/
def rsaRoundSpec : ChangeSpec := { name := "rsaRound", fn := fun _ => fun
  | [d1, d2] => { results := [.lit (.bool true)], args := [d1, d2] }
  | _ => none }
def rsaRoundRow : OpenClaim := { program := "ytjkjlbchbbpmaaagreatdoor", sum := "0c0ad1d662be245bca8cf311686e5aa62c708c5eec637242ebb9ec1fd0d07267", func := "ostiary/ostiarylaw04.RsaRound", spec := "rsaRound", inPlace := ["internal/abi.NoEscape", "internal/bytealg.MakeNoZero", "internal/bytealg.IndexByteString", "internal/bytealg.IndexString", "internal/bytealg.abigen_runtime_cmpstring", "internal/reflectlite.TypeOf"], unfollowed := true, recurses := true, named := ["unicode/utf8.first", "unicode/utf8.acceptRanges", "internal/bytealg.MaxLen"], apart := false, laid := [("unicode/utf8.acceptRanges", laid_unicode_utf8_acceptRanges), ("unicode/utf8.first", laid_unicode_utf8_first)] }
def RsaRoundSaid : Prop := rsaRoundRow.holds Tryz.pinned (OpenSpec.ofChange rsaRoundSpec)

/-- ITS FALSE NEIGHBOUR: 'it returns false'. Refute it at one input. -/
def rsaRoundWrong : ChangeSpec := { name := "rsaRound", fn := fun _ => fun
  | [d1, d2] => { results := [.lit (.bool false)], args := [d1, d2] }
  | _ => none }
def RsaRoundWrongFalsely : Prop := rsaRoundRow.holds Tryz.pinned (OpenSpec.ofChange rsaRoundWrong)

/-- 'ostiarylaw04.RsaFits': WHATEVER THE INPUT: true; the input reads as it did. -/
def rsaFitsSpec : ChangeSpec := { name := "rsaFits", fn := fun _ => fun
  | [d1, d2, d3] => { results := [.lit (.bool true)], args := [d1, d2, d3] }
  | _ => none }
def rsaFitsRow : OpenClaim := { program := "ytjkjlbchbbpmaaagreatdoor", sum := "0c0ad1d662be245bca8cf311686e5aa62c708c5eec637242ebb9ec1fd0d07267", func := "ostiary/ostiarylaw04.RsaFits", spec := "rsaFits", inPlace := ["internal/bytealg.IndexByteString", "internal/bytealg.IndexString", "internal/abi.NoEscape", "internal/bytealg.MakeNoZero", "internal/reflectlite.TypeOf", "internal/bytealg.abigen_runtime_cmpstring"], unfollowed := true, recurses := true, named := ["unicode/utf8.first", "unicode/utf8.acceptRanges", "internal/bytealg.MaxLen"], apart := false, laid := [("unicode/utf8.acceptRanges", laid_unicode_utf8_acceptRanges), ("unicode/utf8.first", laid_unicode_utf8_first)] }
def RsaFitsSaid : Prop := rsaFitsRow.holds Tryz.pinned (OpenSpec.ofChange rsaFitsSpec)

/-- ITS FALSE NEIGHBOUR: 'it returns false'. Refute it at one input. -/
def rsaFitsWrong : ChangeSpec := { name := "rsaFits", fn := fun _ => fun
  | [d1, d2, d3] => { results := [.lit (.bool false)], args := [d1, d2, d3] }
  | _ => none }
def RsaFitsWrongFalsely : Prop := rsaFitsRow.holds Tryz.pinned (OpenSpec.ofChange rsaFitsWrong)

/- THE SECOND FORM. 'bulk': how many values and letters a reading holds, each counted each time it is reached (what is shared counts as often as it is met; a slice's spare places count too). A statement '..UptoSaid' is the law's where the arguments, and the package variables that the reading takes, are together of bulk at most 1048576: NARROWER than '..Said'. Prove '..Said' where nothing that the law and all that it calls make is longer than what came in: it says more and counts as full. Else prove '..UptoSaid'. A law counts once. -/
mutual
def uptoBulk {H : Type} : DataW H → Nat
  | .lit (.string bytes) => bytes.length + 1
  | .lit _ => 1
  | .nil => 1
  | .ptr d => uptoBulk d + 1
  | .slice elems spare => uptoBulkAll elems + uptoBulkAll spare + 1
  | .agg parts => uptoBulkAll parts + 1
  | .iface _ d => uptoBulk d + 1
  | .map entries => uptoBulkEntries entries + 1
  | .held _ => 1
def uptoBulkAll {H : Type} : List (DataW H) → Nat
  | [] => 0
  | d :: r => uptoBulk d + uptoBulkAll r
def uptoBulkEntries {H : Type} : List (Lit × DataW H) → Nat
  | [] => 0
  | x :: r => uptoBulkEntry x + uptoBulkEntries r
def uptoBulkEntry {H : Type} : Lit × DataW H → Nat
  | (.string bytes, d) => bytes.length + uptoBulk d + 1
  | (_, d) => uptoBulk d + 1
 end
def uptoSmall : (H : Type) → List (DataW H) → Bool := fun _ ds => decide (uptoBulkAll ds ≤ 1048576)
def OpenSpec.upto (s : _root_.Go.ChangeSpec) : _root_.Go.OpenSpec := { _root_.Go.OpenSpec.ofChange s with cond := some uptoSmall }

/-- 'ostiarylaw04.RsaKeys', WHERE WHAT IT READS IS OF BULK AT MOST 1048576: true; the input reads as it did. -/
def rsaKeysUptoRow : OpenClaim := { program := "ytjkjlbchbbpmaaagreatdoor", sum := "0c0ad1d662be245bca8cf311686e5aa62c708c5eec637242ebb9ec1fd0d07267", func := "ostiary/ostiarylaw04.RsaKeys", spec := "rsaKeys", inPlace := ["internal/bytealg.IndexByteString", "internal/bytealg.IndexString", "internal/abi.NoEscape", "internal/bytealg.MakeNoZero", "internal/bytealg.abigen_runtime_cmpstring", "internal/reflectlite.TypeOf"], unfollowed := true, recurses := true, named := ["unicode/utf8.first", "unicode/utf8.acceptRanges", "internal/bytealg.MaxLen"], apart := false, laid := [("unicode/utf8.acceptRanges", laid_unicode_utf8_acceptRanges), ("unicode/utf8.first", laid_unicode_utf8_first)], narrowed := true }
def RsaKeysUptoSaid : Prop := rsaKeysUptoRow.holds Tryz.pinned (OpenSpec.upto rsaKeysSpec)

/-- 'ostiarylaw04.RsaOpens', WHERE WHAT IT READS IS OF BULK AT MOST 1048576: true; the input reads as it did. -/
def rsaOpensUptoRow : OpenClaim := { program := "ytjkjlbchbbpmaaagreatdoor", sum := "0c0ad1d662be245bca8cf311686e5aa62c708c5eec637242ebb9ec1fd0d07267", func := "ostiary/ostiarylaw04.RsaOpens", spec := "rsaOpens", inPlace := ["internal/bytealg.IndexByteString", "internal/bytealg.IndexString", "internal/bytealg.abigen_runtime_cmpstring", "internal/reflectlite.TypeOf", "internal/abi.NoEscape", "internal/bytealg.MakeNoZero"], unfollowed := true, recurses := true, named := ["unicode/utf8.first", "unicode/utf8.acceptRanges", "internal/bytealg.MaxLen"], apart := false, laid := [("unicode/utf8.acceptRanges", laid_unicode_utf8_acceptRanges), ("unicode/utf8.first", laid_unicode_utf8_first)], narrowed := true }
def RsaOpensUptoSaid : Prop := rsaOpensUptoRow.holds Tryz.pinned (OpenSpec.upto rsaOpensSpec)

/-- 'ostiarylaw04.RsaBlocks', WHERE WHAT IT READS IS OF BULK AT MOST 1048576: true; the input reads as it did. -/
def rsaBlocksUptoRow : OpenClaim := { program := "ytjkjlbchbbpmaaagreatdoor", sum := "0c0ad1d662be245bca8cf311686e5aa62c708c5eec637242ebb9ec1fd0d07267", func := "ostiary/ostiarylaw04.RsaBlocks", spec := "rsaBlocks", inPlace := ["internal/abi.NoEscape", "internal/bytealg.MakeNoZero", "internal/bytealg.IndexByteString", "internal/bytealg.IndexString", "internal/bytealg.abigen_runtime_cmpstring", "internal/reflectlite.TypeOf"], unfollowed := true, recurses := true, named := ["unicode/utf8.first", "unicode/utf8.acceptRanges", "internal/bytealg.MaxLen"], apart := false, laid := [("unicode/utf8.acceptRanges", laid_unicode_utf8_acceptRanges), ("unicode/utf8.first", laid_unicode_utf8_first)], narrowed := true }
def RsaBlocksUptoSaid : Prop := rsaBlocksUptoRow.holds Tryz.pinned (OpenSpec.upto rsaBlocksSpec)

/-- 'ostiarylaw04.RsaMasks', WHERE WHAT IT READS IS OF BULK AT MOST 1048576: true; the input reads as it did. -/
def rsaMasksUptoRow : OpenClaim := { program := "ytjkjlbchbbpmaaagreatdoor", sum := "0c0ad1d662be245bca8cf311686e5aa62c708c5eec637242ebb9ec1fd0d07267", func := "ostiary/ostiarylaw04.RsaMasks", spec := "rsaMasks", inPlace := ["internal/abi.NoEscape", "internal/bytealg.MakeNoZero", "internal/bytealg.IndexByteString", "internal/bytealg.IndexString", "internal/bytealg.abigen_runtime_cmpstring", "internal/reflectlite.TypeOf"], unfollowed := true, recurses := true, named := ["unicode/utf8.first", "unicode/utf8.acceptRanges", "internal/bytealg.MaxLen"], apart := false, laid := [("unicode/utf8.acceptRanges", laid_unicode_utf8_acceptRanges), ("unicode/utf8.first", laid_unicode_utf8_first)], narrowed := true }
def RsaMasksUptoSaid : Prop := rsaMasksUptoRow.holds Tryz.pinned (OpenSpec.upto rsaMasksSpec)

/-- 'ostiarylaw04.RsaRound', WHERE WHAT IT READS IS OF BULK AT MOST 1048576: true; the input reads as it did. -/
def rsaRoundUptoRow : OpenClaim := { program := "ytjkjlbchbbpmaaagreatdoor", sum := "0c0ad1d662be245bca8cf311686e5aa62c708c5eec637242ebb9ec1fd0d07267", func := "ostiary/ostiarylaw04.RsaRound", spec := "rsaRound", inPlace := ["internal/abi.NoEscape", "internal/bytealg.MakeNoZero", "internal/bytealg.IndexByteString", "internal/bytealg.IndexString", "internal/bytealg.abigen_runtime_cmpstring", "internal/reflectlite.TypeOf"], unfollowed := true, recurses := true, named := ["unicode/utf8.first", "unicode/utf8.acceptRanges", "internal/bytealg.MaxLen"], apart := false, laid := [("unicode/utf8.acceptRanges", laid_unicode_utf8_acceptRanges), ("unicode/utf8.first", laid_unicode_utf8_first)], narrowed := true }
def RsaRoundUptoSaid : Prop := rsaRoundUptoRow.holds Tryz.pinned (OpenSpec.upto rsaRoundSpec)

/-- 'ostiarylaw04.RsaFits', WHERE WHAT IT READS IS OF BULK AT MOST 1048576: true; the input reads as it did. -/
def rsaFitsUptoRow : OpenClaim := { program := "ytjkjlbchbbpmaaagreatdoor", sum := "0c0ad1d662be245bca8cf311686e5aa62c708c5eec637242ebb9ec1fd0d07267", func := "ostiary/ostiarylaw04.RsaFits", spec := "rsaFits", inPlace := ["internal/bytealg.IndexByteString", "internal/bytealg.IndexString", "internal/abi.NoEscape", "internal/bytealg.MakeNoZero", "internal/reflectlite.TypeOf", "internal/bytealg.abigen_runtime_cmpstring"], unfollowed := true, recurses := true, named := ["unicode/utf8.first", "unicode/utf8.acceptRanges", "internal/bytealg.MaxLen"], apart := false, laid := [("unicode/utf8.acceptRanges", laid_unicode_utf8_acceptRanges), ("unicode/utf8.first", laid_unicode_utf8_first)], narrowed := true }
def RsaFitsUptoSaid : Prop := rsaFitsUptoRow.holds Tryz.pinned (OpenSpec.upto rsaFitsSpec)

end Rows
end Go.Proofs.YtjkjlbchbbpmaaaGreatDoor
