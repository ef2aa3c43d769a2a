/- PadE EBytes, in one text. -/
import Derived.Test.YtjkjlbchbbpmaaaGreatDoorZN5
/- What stands in this text's place at a seat without those functions. -/
namespace Go.Proofs.YtjkjlbchbbpmaaaGreatDoor
open Go.RowKit

end Go.Proofs.YtjkjlbchbbpmaaaGreatDoor
/- What stands in this text's place at a seat without those functions. -/
namespace Go.Proofs.YtjkjlbchbbpmaaaGreatDoor
open Go.RowKit

/-- The first t of a number's n bytes. -/
def px (v n t : Nat) : List UInt8 := (List.range t).map fun k => UInt8.ofNat (Dg.dg 256 v (n - 1 - k))
theorem px_zero (v n : Nat) : px v n 0 = [] := rfl
theorem px_all (v n : Nat) : px v n n = pb v n := rfl
theorem px_length (v n t : Nat) : (px v n t).length = t := by simp [px]
theorem px_succ (v n t : Nat) : px v n (t + 1) = px v n t ++ [UInt8.ofNat (Dg.dg 256 v (n - 1 - t))] := by
  unfold px; rw [List.range_succ, List.map_append]; rfl

end Go.Proofs.YtjkjlbchbbpmaaaGreatDoor
