/- Plain: how many bytes of a text are quoted. -/
import Derived.Test.YthpagppipifgeaaGreatDoorLTextS
namespace Go.Proofs.YthpagppipifgeaaGreatDoor
open Go.RowKit

def spC (c : UInt8) : Bool := c == 34 || c == 92
def spc (l : List UInt8) : Nat := l.countP spC
theorem quoteC_len (c : UInt8) : (quoteC c).length = 1 + (if spC c then 1 else 0) := by
  unfold quoteC spC
  split
  · next h => subst h; rfl
  · split
    · next h => subst h; rfl
    · next h h2 => simp [h, h2]
theorem quote_len (l : List UInt8) : (quoteL l).length = l.length + spc l := by
  induction l with
  | nil => rfl
  | cons x r ih =>
    have : quoteL (x :: r) = quoteC x ++ quoteL r := rfl
    rw [this, List.length_append, quoteC_len, ih]
    unfold spc
    rw [List.countP_cons]
    simp only [List.length_cons]
    omega
theorem quote_snoc (l : List UInt8) (c : UInt8) : quoteL (l ++ [c]) = quoteL l ++ quoteC c := by
  unfold quoteL
  rw [List.flatMap_append]
  simp
theorem take_snoc {l : List UInt8} {i : Nat} (h : i < l.length) : l.take (i + 1) = l.take i ++ [l[i]] := by
  rw [List.take_add_one, List.getElem?_eq_getElem h]; rfl
theorem spc_snoc (l : List UInt8) (c : UInt8) : spc (l ++ [c]) = spc l + (if spC c then 1 else 0) := by
  unfold spc
  rw [List.countP_append, List.countP_singleton]
theorem spc_le (l : List UInt8) (i : Nat) : spc (l.take i) ≤ spc l := by
  have h : l = l.take i ++ l.drop i := (List.take_append_drop i l).symm
  unfold spc
  conv => rhs; rw [h, List.countP_append]
  omega
theorem count_spc (l : List UInt8) : l.count 92 + l.count 34 = spc l := by
  induction l with
  | nil => rfl
  | cons x r ih =>
    unfold spc at ih ⊢
    rw [List.count_cons, List.count_cons, List.countP_cons]
    by_cases h34 : x = 34
    · subst h34; simp [spC]; omega
    · by_cases h92 : x = 92
      · subst h92; simp [spC]; omega
      · simp [spC, h34, h92]; omega
theorem quote_none {l : List UInt8} (h : spc l = 0) : quoteL l = l := by
  induction l with
  | nil => rfl
  | cons x r ih =>
    unfold spc at h
    rw [List.countP_cons] at h
    have hx : spC x = false := by
      cases hq : spC x with
      | false => rfl
      | true => rw [hq] at h; simp at h
    have : quoteL (x :: r) = quoteC x ++ quoteL r := rfl
    rw [this, ih (by unfold spc; omega)]
    unfold quoteC
    unfold spC at hx
    simp only [Bool.or_eq_false_iff, beq_eq_false_iff_ne] at hx
    rw [if_neg hx.1, if_neg hx.2]
    rfl
/-- Cells of bytes. -/
def bvs (l : List UInt8) : List Value := l.map fun b => Value.int .u8 ((b.toNat : Nat) : Int)
theorem bvs_len (l : List UInt8) : (bvs l).length = l.length := by simp [bvs]
theorem bvs_app (a b : List UInt8) : bvs (a ++ b) = bvs a ++ bvs b := by simp [bvs]
theorem bvs_cells (l : List UInt8) : ∀ v ∈ bvs l, v.oneCell' = true := by
  intro v hv
  simp only [bvs, List.mem_map] at hv
  obtain ⟨b, _, rfl⟩ := hv
  rfl
end Go.Proofs.YthpagppipifgeaaGreatDoor
