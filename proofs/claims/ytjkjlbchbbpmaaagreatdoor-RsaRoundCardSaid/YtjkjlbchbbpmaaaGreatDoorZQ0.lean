/- QBase QMul, in one text. -/
import Derived.Test.YtjkjlbchbbpmaaaGreatDoorZR0
import Derived.Test.YtjkjlbchbbpmaaaGreatDoorZN1
import Derived.Test.YtjkjlbchbbpmaaaGreatDoorZP
import Derived.StillTailTactics
import Derived.IntWalk
/- What stands in this text's place at a seat without those functions. -/
namespace Go.Proofs.YtjkjlbchbbpmaaaGreatDoor
open Go.RowKit

end Go.Proofs.YtjkjlbchbbpmaaaGreatDoor
/- What stands in this text's place at a seat without those functions. -/
namespace Go.Proofs.YtjkjlbchbbpmaaaGreatDoor
open Go.RowKit

theorem mask64 {x : Nat} (h : x < 18446744073709551616) : bits BinOp.and IntKind.u64 (x : Int) 65535 % 4294967296 = ((x % DB : Nat) : Int) := by
  have := u64_and_nat x 65535 h (by omega)
  rw [show (65535 : Nat) = 2 ^ 16 - 1 from rfl, Nat.and_two_pow_sub_one_eq_mod] at this
  have e : bits BinOp.and IntKind.u64 (x : Int) 65535 = ((x % 65536 : Nat) : Int) := this
  rw [e, DB_eq]; omega

end Go.Proofs.YtjkjlbchbbpmaaaGreatDoor
