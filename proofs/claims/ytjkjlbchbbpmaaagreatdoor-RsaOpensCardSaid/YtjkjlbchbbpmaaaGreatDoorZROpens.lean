/- RsaOpens: for every input true. -/
import Derived.Test.YtjkjlbchbbpmaaaGreatDoorZTLaws
namespace Go.Proofs.YtjkjlbchbbpmaaaGreatDoor.rsaOpens
open Go.RowKit
theorem law_any (n e s : ByteArray) (w : World) (hn : n.size ≤ 140737488351232) (he : e.size ≤ 140737488351232) (_hs : s.size ≤ 140737488351232) :
    Calls Tryz.prog 4 #[.agg #[.string n, .string e], .string s] w fun r w' => r = .returned (.bool true) ∧ Below w.heap.size w w' := opensLaw_any n e s w hn he
end Go.Proofs.YtjkjlbchbbpmaaaGreatDoor.rsaOpens
