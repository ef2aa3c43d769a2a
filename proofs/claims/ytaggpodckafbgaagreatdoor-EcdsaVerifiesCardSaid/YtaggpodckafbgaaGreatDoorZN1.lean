/- Trim Cmp Bits Add Sub Mul Take Shl, in one text. -/
import Derived.Test.YtaggpodckafbgaaGreatDoorZB
import Derived.Test.YtaggpodckafbgaaGreatDoorZD
import Derived.BigQuiet
import Derived.Deep.QuietTactic
import Derived.StillTailTactics
/- limbs.trim and limbs.cmp: walks. -/
namespace Go.Proofs.YtaggpodckafbgaaGreatDoor
open Go.RowKit
def tl (f : Nat → Nat) : Nat → Nat
  | 0 => 0
  | n + 1 => if f n = 0 then tl f n else n + 1
theorem tl_le (f : Nat → Nat) : ∀ n, tl f n ≤ n
  | 0 => Nat.le_refl _
  | n + 1 => by
    unfold tl; split
    · have := tl_le f n; omega
    · omega
end Go.Proofs.YtaggpodckafbgaaGreatDoor
/- limbs.cmp: the walk. -/
namespace Go.Proofs.YtaggpodckafbgaaGreatDoor
open Go.RowKit
def cmpN (a b : Nat) : Int := if a < b then -1 else if a = b then 0 else 1
theorem cmpN_lt {a b : Nat} (h : a < b) : cmpN a b = -1 := by simp [cmpN, h]
theorem cmpN_eq (a : Nat) : cmpN a a = 0 := by simp [cmpN]
theorem cmpN_gt {a b : Nat} (h : b < a) : cmpN a b = 1 := by
  have h1 : ¬ a < b := by omega
  have h2 : ¬ a = b := by omega
  simp [cmpN, h1, h2]
end Go.Proofs.YtaggpodckafbgaaGreatDoor
/- math/bits: Add32, Sub32. -/
namespace Go.Proofs.YtaggpodckafbgaaGreatDoor
open Go.RowKit
end Go.Proofs.YtaggpodckafbgaaGreatDoor
/- limbs.add: the walk. -/
namespace Go.Proofs.YtaggpodckafbgaaGreatDoor
open Go.RowKit
theorem own_set_int {wr : World} {kd : IntKind} {e g n k s : Nat} {v : Int} {f h : Nat → Nat} (hown : Own wr kd e g n f) (hv : v = (s : Nat)) (hs : s = h k) (he : ∀ j, j < n → j ≠ k → f j = h j) :
    Own (wr.setCell ⟨g, k, none⟩ (.int kd v)) kd e g n h := by
  rw [hv]
  refine (hown.set k s).congr fun j hj => ?_
  by_cases h1 : j = k
  · subst h1; simp [hs]
  · simp [h1, he j hj h1]
end Go.Proofs.YtaggpodckafbgaaGreatDoor
/- limbs.sub: the walk. -/
namespace Go.Proofs.YtaggpodckafbgaaGreatDoor
open Go.RowKit
theorem below_drawn {B : Nat} {a w : World} (h : Below B a w) (q : Nat) : Below B a (w.drewN q) := ⟨h.os, h.tape, h.output, h.size, h.block⟩
end Go.Proofs.YtaggpodckafbgaaGreatDoor
/- limbs.mul: the walk. -/
namespace Go.Proofs.YtaggpodckafbgaaGreatDoor
open Go.RowKit
end Go.Proofs.YtaggpodckafbgaaGreatDoor
/- limbs.take and limbs.give: the walks. -/
namespace Go.Proofs.YtaggpodckafbgaaGreatDoor
open Go.RowKit
theorem Rd.other {w : World} {k : IntKind} {ao : Option Addr} {n cap : Nat} {f : Nat → Nat} (h : Rd w k ao n cap f) {g0 j : Nat} (v : Value) (hne : blk ao ≠ g0) : Rd (w.setCell ⟨g0, j, none⟩ v) k ao n cap f :=
  ⟨h.sh, h.le, h.cm, fun i hi => (World.cell?_of_block (w := w) (Below.heap_setCell _ _ _ _ hne)).trans (h.cell i hi)⟩
end Go.Proofs.YtaggpodckafbgaaGreatDoor
/- limbs.shl: the walk. -/
namespace Go.Proofs.YtaggpodckafbgaaGreatDoor
open Go.RowKit
end Go.Proofs.YtaggpodckafbgaaGreatDoor
