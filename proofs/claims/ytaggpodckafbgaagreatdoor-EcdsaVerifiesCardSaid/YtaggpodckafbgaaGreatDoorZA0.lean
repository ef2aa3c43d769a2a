/- Frames set anew, in few words. -/
import Derived.WalkKit
namespace Go.Proofs.YtaggpodckafbgaaGreatDoor
theorem pzS (l : List Value) (r : List Deferred) (i : Tmp) (v : Value) : (Act.mk l.toArray r).put (some i) v = ⟨(l.set i v).toArray, r⟩ := by simp [Act.put]
theorem pzT {α : Type} (l : List α) (i : Nat) (a : α) : l.toArray.setIfInBounds i a = (l.set i a).toArray := List.setIfInBounds_toArray l i a
theorem pzN (a : Act) (v : Value) : a.put none v = a := rfl
theorem pzA {α : Type} (a : α) (as : List α) (n : Nat) (b : α) : (a :: as).set (n + 1) b = a :: as.set n b := rfl
theorem pzH {α : Type} {a : α} {l : List α} : a ∈ a :: l := List.Mem.head _
theorem pzM {α : Type} {a b : α} {l : List α} (h : a ∈ l) : a ∈ b :: l := List.Mem.tail _ h
theorem pzC {α : Type} (a : α) (l : List α) (n : Nat) : (a :: l).take (n + 1) = a :: l.take n := rfl
theorem pzD {α : Type} (l : List α) : l.take 0 = [] := rfl
theorem pzE {α : Type} (a : α) (l : List α) (n : Nat) : (a :: l).drop (n + 1) = l.drop n := rfl
theorem pzF {α : Type} (l : List α) : l.drop 0 = l := rfl
theorem pzB {α : Type} (a : α) (as : List α) (b : α) : (a :: as).set 0 b = b :: as := rfl
end Go.Proofs.YtaggpodckafbgaaGreatDoor
