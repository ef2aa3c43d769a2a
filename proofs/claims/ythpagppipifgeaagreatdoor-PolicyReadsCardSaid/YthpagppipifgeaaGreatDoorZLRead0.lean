/- A reader of a text: its text lies in a block of one's own; what a call leaves as it was. -/
import Derived.Test.YthpagppipifgeaaGreatDoorZLA
import Derived.Test.YthpagppipifgeaaGreatDoorShelf
import Derived.Deep.Light
namespace Go.Proofs.YthpagppipifgeaaGreatDoor
open Go.RowKit

/-- Bytes as a text. -/
def bs (l : List UInt8) : ByteArray := ⟨l.toArray⟩
@[simp] theorem bs_data (l : List UInt8) : (bs l).data.toList = l := by simp [bs]
theorem bs_list (l : List UInt8) : (bs l).toList = l := by rw [dl]; simp
theorem bs_size (l : List UInt8) : (bs l).size = l.length := by simp [bs, ByteArray.size]
theorem bs_get (l : List UInt8) (i : Nat) (x : UInt8) (hx : l[i]? = some x) (h : i < (bs l).size) : (bs l)[i]'h = x := by
  have h2 : i < l.length := by rw [bs_size] at h; exact h
  have e : l[i] = x := by rw [List.getElem?_eq_getElem h2] at hx; exact Option.some.inj hx
  rw [← e]; rfl
theorem bs_cut (l : List UInt8) (a b : Nat) : (bs l).extract a b = bs ((l.take b).drop a) := by
  have : ((bs l).extract a b).data.toList = (bs ((l.take b).drop a)).data.toList := by simp [bs, ByteArray.data_extract, List.drop_take]
  cases h1 : (bs l).extract a b with | mk d1 => cases h2 : bs ((l.take b).drop a) with | mk d2 => rw [h1, h2] at this; simp at this; rw [this]
/-- The reader at rb stands at this text. -/
def At (rb : Nat) (s : List UInt8) (w : World) : Prop := w.heap[rb]? = some (.cells #[.string (bs s)] 77 (0, 0))
/-- From w to w' nothing that was there has changed but the reader, which stands at s'. -/
structure Mv (rb : Nat) (s' : List UInt8) (w w' : World) : Prop where
  os : w'.os = w.os
  tape : w'.tape = w.tape
  output : w'.output = w.output
  size : w.heap.size ≤ w'.heap.size
  block : ∀ k, k < w.heap.size → k ≠ rb → w'.heap[k]? = w.heap[k]?
  at_ : At rb s' w'
section
variable {rb : Nat} {s s' s2 : List UInt8} {w w' w1 w2 : World}
theorem At.lt (h : At rb s w) : rb < w.heap.size := (Array.getElem?_eq_some_iff.1 h).1
theorem At.cell (h : At rb s w) : w.cell? ⟨rb, 0, none⟩ = some (.string (bs s)) := by unfold At at h; simp [World.cell?, h]
theorem At.fz (h : At rb s w) : w.frozen? ⟨rb, 0, none⟩ = false := by unfold At at h; simp [World.frozen?, h]
theorem At.below (h : At rb s w) (hb : Below w.heap.size w w') : At rb s w' := (hb.block rb h.lt).trans h
theorem Mv.of_below (h : At rb s w) (hb : Below w.heap.size w w') : Mv rb s w w' := ⟨hb.os, hb.tape, hb.output, hb.size, fun k hk _ => hb.block k hk, h.below hb⟩
theorem Mv.refl (h : At rb s w) : Mv rb s w w := Mv.of_below h (Below.refl _ w)
theorem Mv.trans (h : Mv rb s w w1) (g : Mv rb s2 w1 w2) : Mv rb s2 w w2 :=
  ⟨g.os.trans h.os, g.tape.trans h.tape, g.output.trans h.output, Nat.le_trans h.size g.size, fun k hk hne => (g.block k (Nat.lt_of_lt_of_le hk h.size) hne).trans (h.block k hk hne), g.at_⟩
theorem Mv.then (h : Mv rb s w w1) (hb : Below w1.heap.size w1 w2) : Mv rb s w w2 := h.trans (Mv.of_below h.at_ hb)
theorem Mv.before (hb : Below w.heap.size w w1) (g : Mv rb s w1 w2) : Mv rb s w w2 :=
  ⟨g.os.trans hb.os, g.tape.trans hb.tape, g.output.trans hb.output, Nat.le_trans hb.size g.size, fun k hk hne => (g.block k (Nat.lt_of_lt_of_le hk hb.size) hne).trans (hb.block k hk), g.at_⟩
theorem Mv.out {B : Nat} (h : Mv rb s w w') (hB : B ≤ rb) (hw : B ≤ w.heap.size) : Below B w w' := ⟨h.os, h.tape, h.output, h.size, fun k hk => h.block k (by omega) (by omega)⟩
theorem Mv.store (h : At rb s w) (s' : List UInt8) : Mv rb s' w (w.setCell ⟨rb, 0, none⟩ (.string (bs s'))) := by
  have hb : Below rb w (w.setCell ⟨rb, 0, none⟩ (.string (bs s'))) := (Below.refl rb w).setCell (p := ⟨rb, 0, none⟩) (Nat.le_refl _) _
  refine ⟨hb.os, hb.tape, hb.output, hb.size, fun k hk hne => ?_, ?_⟩
  · exact Below.heap_setCell _ _ _ _ hne
  · exact heap_setCell_same w rb 0 _ _ _ h
theorem Mv.lt (h : Mv rb s w w') : rb < w'.heap.size := h.at_.lt
end
end Go.Proofs.YthpagppipifgeaaGreatDoor
