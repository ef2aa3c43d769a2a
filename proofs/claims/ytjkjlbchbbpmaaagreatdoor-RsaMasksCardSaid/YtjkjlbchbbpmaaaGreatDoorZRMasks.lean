/- RsaMasks: for every input true. -/
import Derived.Test.YtjkjlbchbbpmaaaGreatDoorZTMasks
namespace Go.Proofs.YtjkjlbchbbpmaaaGreatDoor.rsaMasks
open Go.RowKit
theorem law_any (s : ByteArray) (m n : Int) (w : World) (hs : s.size ≤ 140737488351232) (_h1 : -9223372036854775808 ≤ m) (_h2 : m ≤ 9223372036854775807) (_h3 : -9223372036854775808 ≤ n) (_h4 : n ≤ 9223372036854775807) :
    Calls Tryz.prog 6 #[.string s, .int .i64 m, .int .i64 n] w fun r w' => r = .returned (.bool true) ∧ Below w.heap.size w w' := masksLaw_any s m n w hs
end Go.Proofs.YtjkjlbchbbpmaaaGreatDoor.rsaMasks
