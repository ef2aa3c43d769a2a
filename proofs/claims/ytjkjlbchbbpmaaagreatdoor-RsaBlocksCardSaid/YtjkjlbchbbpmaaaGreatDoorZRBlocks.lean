/- RsaBlocks: for every input true. -/
import Derived.Test.YtjkjlbchbbpmaaaGreatDoorZTLaws
namespace Go.Proofs.YtjkjlbchbbpmaaaGreatDoor.rsaBlocks
open Go.RowKit
theorem law_any (s : ByteArray) (n : Int) (w : World) (hs : s.size ≤ 140737488351232) (_h1 : -9223372036854775808 ≤ n) (_h2 : n ≤ 9223372036854775807) :
    Calls Tryz.prog 5 #[.string s, .int .i64 n] w fun r w' => r = .returned (.bool true) ∧ Below w.heap.size w w' := blocksLaw_any s n w hs
end Go.Proofs.YtjkjlbchbbpmaaaGreatDoor.rsaBlocks
