/- What the library's variables hold; strconv.Itoa; text.at: in our words. -/
import Derived.Test.YtebhiplcoioenaaGreatDoorZDO
import Derived.Test.YtebhiplcoioenaaGreatDoorZDI
import Derived.Test.YtebhiplcoioenaaGreatDoorShelf
import Derived.Lib.SmallJoins
import Derived.Lib.AppendIntMem
import Derived.Lib.ItoaMem
namespace Go.Proofs.YtebhiplcoioenaaGreatDoor
open Go.RowKit

structure Gd (w : World) : Prop where
  ty : ErrTy w
  most : ∃ m, w.cell? ⟨2, 0, none⟩ = some (.int .i64 m)
  tab : Lib.TabIs Tryz.prog w "internal/strconv.uint64pow10" .u64 Lib.pow10Tab
theorem pow_named : (Tryz.prog.globalNamed "internal/strconv.uint64pow10").isSome = true := by kernel_rfl
theorem Gd.below {w w' : World} (h : Gd w) (hb : Below w.heap.size w w') : Gd w' := by
  obtain ⟨m, hm⟩ := h.most
  obtain ⟨g, hg⟩ := Option.isSome_iff_exists.1 pow_named
  exact ⟨h.ty.below hb, ⟨m, (hb.cell (p := ⟨2, 0, none⟩) (World.block_lt_of_cell? w _ hm)).trans hm⟩, Go.Joins.tab_stays hg h.tab hb (Nat.le_refl _)⟩
theorem numT_dec (n : Nat) : Lib.decDigits n = numT n := by
  induction n using Nat.strongRecOn with
  | _ n ih =>
    rw [Lib.decDigits, numT]
    by_cases h : n < 10
    · rw [dif_pos h, dif_pos h]
    · rw [dif_neg h, dif_neg h, ih (n / 10) (by omega)]
theorem itoa_any (n : Nat) (hn : n ≤ 9223372036854775807) (w : World) (hg : Gd w) : Calls Tryz.prog 41 #[.int .i64 (n : Nat)] w fun e w' => e = .returned (.string (bs (numT n))) ∧ Below w.heap.size w w' :=
  (Tryz.strconv_Itoa (n : Int) (by omega) (by omega) w hg.tab).mono fun e w' h => by
    obtain ⟨rfl, k, os, rfl⟩ := h
    rw [Lib.itoa_nonneg, numT_dec]
    exact ⟨rfl, Lib.below_grow _ w (Nat.le_refl _) k os⟩
set_option maxRecDepth 100000 in
theorem at_any (n : Nat) (e : Int) (hn : n ≤ 9223372036854775807) (w : World) (hg : Gd w) : Calls Tryz.prog 125 #[.int .i64 (n : Nat), .int .i64 e] w fun en w' => (∃ v, en = .returned (.iface 184 v)) ∧ Below w.heap.size w w' := by
  have HI := Lib.hid (itoa_any n hn w hg)
  clear hg
  go_enter Tryz.func125, Tryz.ntmps125
  go_wp2_with (go_at_call 41; refine HI.out.mono ?_; rintro en w1 ⟨rfl, hb⟩)
  go_ret
  exact ⟨⟨_, rfl⟩, hb⟩
end Go.Proofs.YtebhiplcoioenaaGreatDoor
