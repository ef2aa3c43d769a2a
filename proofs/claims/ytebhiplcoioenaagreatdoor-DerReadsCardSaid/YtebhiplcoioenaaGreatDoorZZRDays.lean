/- ostiaryref06.days: the walk. -/
import Derived.Test.YtebhiplcoioenaaGreatDoorZZNum
import Derived.Test.YtebhiplcoioenaaGreatDoorZZGS
import Derived.Deep.LoopGhost
namespace Go.Proofs.YtebhiplcoioenaaGreatDoor
open Go.RowKit

theorem month_cases (m : Nat) (h1 : 1 ≤ m) (h2 : m ≤ 12) : m = 1 ∨ m = 2 ∨ m = 3 ∨ m = 4 ∨ m = 5 ∨ m = 6 ∨ m = 7 ∨ m = 8 ∨ m = 9 ∨ m = 10 ∨ m = 11 ∨ m = 12 := by omega
set_option maxRecDepth 100000 in
set_option maxHeartbeats 4000000 in
theorem days_any (y m : Nat) (w : World) (hy : y ≤ 100000) (h1 : 1 ≤ m) (h2 : m ≤ 12) : Calls Tryz.prog 57 #[.int .i64 (y : Nat), .int .i64 (m : Nat)] w fun e w' => e = .returned (.int .i64 (lenM y m : Nat)) ∧ Below w.heap.size w w' := by
  have HLE : Hid (∀ u, Calls Tryz.prog 56 #[.int .i64 (y : Nat)] u fun e w' => e = .returned (.bool (leapB y)) ∧ w' = u) := Lib.hid fun u => leap_any y u hy
  have hL2 : lenM y 2 = if leapB y then 29 else 28 := rfl
  have HL := Lib.hid hL2
  clear hL2
  have hb := b_alloc w (.cells #[.int .i64 31, .int .i64 28, .int .i64 31, .int .i64 30, .int .i64 31, .int .i64 30, .int .i64 31, .int .i64 31, .int .i64 30, .int .i64 31, .int .i64 30, .int .i64 31] 3)
  have HB := Lib.hid hb
  clear hb
  rcases month_cases m h1 h2 with rfl | rfl | rfl | rfl | rfl | rfl | rfl | rfl | rfl | rfl | rfl | rfl
  case inr.inl =>
    rw [HL.out]
    cases hl : leapB y with
    | true =>
      rw [hl] at HLE
      go_enter Tryz.func57, Tryz.ntmps57
      go_wp2_with (go_at_call 56; refine (HLE.out _).mono ?_; rintro e w2 ⟨rfl, rfl⟩)
      go_ret
      exact ⟨rfl, HB.out⟩
    | false =>
      rw [hl] at HLE
      go_enter Tryz.func57, Tryz.ntmps57
      go_wp2_with (go_at_call 56; refine (HLE.out _).mono ?_; rintro e w2 ⟨rfl, rfl⟩)
      go_ret
      exact ⟨rfl, HB.out⟩
  all_goals
    clear HLE HL
    go_enter Tryz.func57, Tryz.ntmps57
    go_wp2_with fail
    go_ret
    exact ⟨rfl, HB.out⟩
end Go.Proofs.YtebhiplcoioenaaGreatDoor
