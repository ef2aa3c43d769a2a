/- Plain: a policy turned about may be, and holds, as it did. -/
import Derived.Test.YthpagppipifgeaaGreatDoorLTurn
import Derived.Test.YthpagppipifgeaaGreatDoorLFacts
namespace Go.Proofs.YthpagppipifgeaaGreatDoor
open Go.RowKit

theorem snoc_may (F : Fo) (p : Po) : (F.snoc p).may = (F.may && nodeB p.k p.o p.n p.t p.kids.len p.kids.may) := by
  induction F with
  | nil => simp [Fo.snoc, Fo.may]
  | cons k o n t kids nx _ ih => simp only [Fo.snoc, Fo.may, ih]; rw [Bool.and_assoc]
theorem turn_may (F : Fo) : F.turn.may = F.may := by
  induction F with
  | nil => rfl
  | cons k o n t kids nx ih1 ih2 => simp only [Fo.turn, snoc_may, Fo.may, ih1, ih2, Fo.turn_len]; rw [Bool.and_comm]
theorem snoc_cnt (F : Fo) (p : Po) : (F.snoc p).cnt = F.cnt + p.kids.cnt + 1 := by
  induction F with
  | nil => simp [Fo.snoc, Fo.cnt]
  | cons k o n t kids nx _ ih => simp only [Fo.snoc, Fo.cnt, ih]; omega
theorem turn_cnt (F : Fo) : F.turn.cnt = F.cnt := by
  induction F with
  | nil => rfl
  | cons k o n t kids nx ih1 ih2 => simp only [Fo.turn, snoc_cnt, Fo.cnt, ih1, ih2]; omega
/-- The count goes round; but for that it is the nodes' number. -/
theorem nds_mod (F : Fo) : ∀ a : Int, (F.nds a - a - F.cnt) % 18446744073709551616 = 0 := by
  induction F with
  | nil => intro a; simp [Fo.nds, Fo.cnt]
  | cons k o n t kids nx ih1 ih2 =>
    intro a
    have h1 := ih1 0
    have h2 := ih2 (wrap64 (a + wrap64 (kids.nds 0 + 1)))
    simp only [Fo.nds, Fo.cnt]
    unfold wrap64 at *
    push_cast
    omega
theorem ndsP_cnt (F : Fo) : ndsP F = wrap64 (F.cnt + 1) := by
  have h := nds_mod F 0
  unfold ndsP wrap64
  omega
theorem dep_max (F : Fo) : ∀ a b : Int, F.dep (max a b) = max a (F.dep b) := by
  induction F with
  | nil => intro a b; rfl
  | cons k o n t kids nx _ ih => intro a b; simp only [Fo.dep]; rw [Int.max_assoc, ih]
theorem snoc_dep (F : Fo) (p : Po) : ∀ a : Int, (F.snoc p).dep a = max (F.dep a) (wrap64 (p.kids.dep 0 + 1)) := by
  induction F with
  | nil => intro a; rfl
  | cons k o n t kids nx _ ih => intro a; simp only [Fo.snoc, Fo.dep, ih]
theorem turn_dep (F : Fo) : F.turn.dep 0 = F.dep 0 := by
  induction F with
  | nil => rfl
  | cons k o n t kids nx ih1 ih2 =>
    simp only [Fo.turn, snoc_dep, Fo.dep, ih1, ih2]
    rw [Int.max_comm 0, dep_max, Int.max_comm]
theorem turn_chk (k o : Int) (n t : ByteArray) (F : Fo) : chkP k o n t F.turn = chkP k o n t F := by
  unfold chkP mayP smallP
  rw [ndsP_cnt, ndsP_cnt, turn_cnt, turn_may, F.turn_len]
  unfold depP
  rw [turn_dep]
theorem snoc_hold (x : Fx) (F : Fo) (p : Po) : (F.snoc p).hold x = ((F.hold x).1 && holdN x p.k p.o p.n p.t (p.kids.hold x), (F.hold x).2 || holdN x p.k p.o p.n p.t (p.kids.hold x)) := by
  induction F with
  | nil => simp [Fo.snoc, Fo.hold]
  | cons k o n t kids nx _ ih => simp only [Fo.snoc, Fo.hold, ih]; rw [Bool.and_assoc, Bool.or_assoc]
theorem turn_hold (x : Fx) (F : Fo) : F.turn.hold x = F.hold x := by
  induction F with
  | nil => rfl
  | cons k o n t kids nx ih1 ih2 => simp only [Fo.turn, snoc_hold, Fo.hold, ih1, ih2]; rw [Bool.and_comm, Bool.or_comm]
theorem turn_holds (x : Fx) (k o : Int) (n t : ByteArray) (F : Fo) : holdsP x k o n t F.turn = holdsP x k o n t F := by
  unfold holdsP holdP
  rw [turn_chk, turn_hold]
end Go.Proofs.YthpagppipifgeaaGreatDoor
