/- der.read: what it answers, whatever the bytes are. -/
import Derived.Test.YtebhiplcoioenaaGreatDoorZZRead4
namespace Go.Proofs.YtebhiplcoioenaaGreatDoor
open Go.RowKit

theorem read_any : ∀ h : Nat, h ≤ 16 → ReadAt h
  | 0, _ => fun s p c w hC hg => by
    cases hd : s.drop p with
    | nil => have := read_none s p c 0 (16 - 0) w hC hd; rw [hd] at this; exact this
    | cons x r =>
      by_cases he : headE (dX x).c (dX x).t (dX x).k [] 0 (16 - 0) = 0
      · by_cases hz : (sizeS r).1 = 0
        · by_cases hlen : (sizeS r).2.2.length < (sizeS r).2.1
          · have := read_short s r x p c 0 (16 - 0) w rfl hC hd he hz hlen; rw [hd] at this; exact this
          · cases hk : (dX x).k with
            | false => have := read_prim s r x p c 0 (16 - 0) w rfl hC hd he hz (by omega) hk hg; rw [hd] at this; exact this
            | true => exact absurd ((head_ok he).2.2.2.2.2.2 hk) (by decide)
        · have := read_size s r x p c 0 (16 - 0) w rfl hC hd he hz; rw [hd] at this; exact this
      · have := read_head s r x p c 0 (16 - 0) w rfl hC hd he; rw [hd] at this; exact this
  | h + 1, hle => fun s p c w hC hg => by
    cases hd : s.drop p with
    | nil => have := read_none s p c (h + 1) (16 - (h + 1)) w hC hd; rw [hd] at this; exact this
    | cons x r =>
      by_cases he : headE (dX x).c (dX x).t (dX x).k [] 0 (16 - (h + 1)) = 0
      · by_cases hz : (sizeS r).1 = 0
        · by_cases hlen : (sizeS r).2.2.length < (sizeS r).2.1
          · have := read_short s r x p c (h + 1) (16 - (h + 1)) w rfl hC hd he hz hlen; rw [hd] at this; exact this
          · cases hk : (dX x).k with
            | false => have := read_prim s r x p c (h + 1) (16 - (h + 1)) w rfl hC hd he hz (by omega) hk hg; rw [hd] at this; exact this
            | true => have := read_cons s r x p c (h + 1) (16 - (h + 1)) w rfl hC hd he h (read_any h (by omega)) rfl hle hz (by omega) hk hg; rw [hd] at this; exact this
        · have := read_size s r x p c (h + 1) (16 - (h + 1)) w rfl hC hd he hz; rw [hd] at this; exact this
      · have := read_head s r x p c (h + 1) (16 - (h + 1)) w rfl hC hd he; rw [hd] at this; exact this
end Go.Proofs.YtebhiplcoioenaaGreatDoor
