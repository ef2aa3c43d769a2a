/- RsaKeys: for every input true. -/
import Derived.Test.YtjkjlbchbbpmaaaGreatDoorZTLaws
namespace Go.Proofs.YtjkjlbchbbpmaaaGreatDoor.rsaKeys
open Go.RowKit
theorem law_any (n e : ByteArray) (w : World) (hn : n.size ≤ 140737488351232) (he : e.size ≤ 140737488351232) :
    Calls Tryz.prog 3 #[.agg #[.string n, .string e]] w fun r w' => r = .returned (.bool true) ∧ Below w.heap.size w w' := keysLaw_any n e w hn he
end Go.Proofs.YtjkjlbchbbpmaaaGreatDoor.rsaKeys
