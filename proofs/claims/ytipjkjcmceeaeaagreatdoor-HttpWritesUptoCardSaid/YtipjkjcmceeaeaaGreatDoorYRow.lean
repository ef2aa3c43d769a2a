/- A row of bytes of one's own, as a list of bytes. -/
import Derived.Test.YtipjkjcmceeaeaaGreatDoorYRws
import Derived.Test.YtipjkjcmceeaeaaGreatDoorYDefs
import Derived.Lib.ConvBytes
import Derived.Lib.SmallJoins
import Derived.Laws.BytesArg
namespace Go.Proofs.YtipjkjcmceeaeaaGreatDoor
open Go.RowKit

/-- Block g (of the call's own, from B on) is a row of bytes that begins with l; none of its cells is frozen. -/
def RowM (w : World) (B g cap : Nat) (l : List UInt8) : Prop :=
  ∃ cur fz, B ≤ g ∧ w.heap[g]? = some (.cells cur 5 fz) ∧ (fz.2 = 0 ∨ cur.size ≤ fz.1) ∧ l.length ≤ cap ∧ cap ≤ maxLen ∧ cur.size = cap ∧ ∀ (j : Nat) (x : UInt8), l[j]? = some x → cur[j]? = some (.int .u8 (x.toNat : Nat))
section
variable {w w' : World} {B g cap : Nat} {l : List UInt8}
theorem RowM.lt (h : RowM w B g cap l) : g < w.heap.size := by
  obtain ⟨cur, fz, _, hh, _⟩ := h
  exact (Array.getElem?_eq_some_iff.1 hh).1
theorem RowM.ge (h : RowM w B g cap l) : B ≤ g := by
  obtain ⟨_, _, hg, _⟩ := h
  exact hg
theorem RowM.le (h : RowM w B g cap l) : l.length ≤ cap ∧ cap ≤ 9223372036854775807 := by
  obtain ⟨_, _, _, _, _, h1, h2, _⟩ := h
  exact ⟨h1, h2⟩
theorem RowM.cell (h : RowM w B g cap l) {j : Nat} {x : UInt8} (hj : l[j]? = some x) : w.cell? ⟨g, j, none⟩ = some (.int .u8 (x.toNat : Nat)) := by
  obtain ⟨cur, fz, _, hh, _, _, _, _, hc⟩ := h
  rw [cell_of_row w g j cur _ _ hh]; exact hc j x hj
theorem RowM.free (h : RowM w B g cap l) (j : Nat) (hj : j < l.length) : w.frozen? ⟨g, j, none⟩ = false := by
  obtain ⟨cur, ⟨lo, up⟩, _, hh, hf, h1, _, h2, _⟩ := h
  simp only at hf
  simp only [World.frozen?, hh, Bool.and_eq_false_iff, decide_eq_false_iff_not]
  omega
theorem RowM.set (h : RowM w B g cap l) (j : Nat) (x : UInt8) : RowM (w.setCell ⟨g, j, none⟩ (.int .u8 (x.toNat : Nat))) B g cap (l.set j x) := by
  obtain ⟨cur, fz, hg, hh, hf, h1, hm, h2, hc⟩ := h
  refine ⟨cur.setIfInBounds j (.int .u8 (x.toNat : Nat)), fz, hg, ?_, by simpa using hf, by simpa using h1, hm, by simpa using h2, fun i y hi => ?_⟩
  · rw [setCell_eq_setRow w g j cur _ _ _ hh]; exact setRow_heap w g cur _ _ _ hh
  · rw [Array.getElem?_setIfInBounds]
    by_cases e : j = i
    · subst e
      have hlt : j < l.length := by have := (List.getElem?_eq_some_iff.1 hi).1; simpa using this
      rw [if_pos rfl, if_pos (by omega)]
      rw [List.getElem?_set_self hlt] at hi
      rw [Option.some.inj hi]
    · rw [if_neg e]
      rw [List.getElem?_set_ne e] at hi
      exact hc i y hi
theorem RowM.below (h : RowM w B g cap l) (hb : Below w.heap.size w w') : RowM w' B g cap l := by
  obtain ⟨cur, fz, hg, hh, r⟩ := h
  exact ⟨cur, fz, hg, by rw [hb.block g (Array.getElem?_eq_some_iff.1 hh).1]; exact hh, r⟩
theorem RowM.drewN (h : RowM w B g cap l) (q : Nat) : RowM (w.drewN q) B g cap l := h
theorem below_setc {B : Nat} {w0 w : World} (h : Below B w0 w) {g : Nat} (hg : B ≤ g) (j : Nat) (v : Value) : Below B w0 (w.setCell ⟨g, j, none⟩ v) := by
  refine ⟨h.os, h.tape, h.output, ?_, fun k hk => ?_⟩
  · simp only [World.setCell, Array.size_modify]; exact h.size
  · rw [heap_setCell_other _ ⟨g, j, none⟩ k _ (by simp only; omega)]; exact h.block k hk
/-- It as a text. -/
theorem RowM.text (h : RowM w B g cap l) (c : Nat) :
    (convert 44 9 (.slice (some ⟨g, 0, none⟩) l.length c)).run Tryz.prog w = .ok (.string (bs l)) w := by
  have hr := run_convert_bytes_arg (P := Tryz.prog) w 44 5 Tryz.underlying44 Tryz.underlying5 g 0 l.length c (l.map fun x => ((x.toNat : Nat) : Int)) (by simp) (fun i hi => by
      obtain ⟨x, hx⟩ : ∃ x, l[i]? = some x := ⟨l[i], by simp [hi]⟩
      rw [Nat.zero_add, h.cell hx]
      simp [List.getD, hx]) 9 Tryz.underlying9
  rw [hr]
  refine congrArg (fun s => Result.ok (Value.string s) w) ?_
  unfold strOfNums bs
  rw [List.map_map]
  refine congrArg (fun l => ByteArray.mk (List.toArray l)) ?_
  have : ∀ x : UInt8, (fun n : Int => UInt8.ofNat n.toNat) ((x.toNat : Nat) : Int) = x := fun x => by simp
  calc l.map _ = l.map id := List.map_congr_left fun x _ => this x
    _ = l := List.map_id l
end
/-- '[]byte(s)'. -/
theorem conv_row (w : World) (l : List UInt8) (hl : l.length ≤ 140737488355328) : ∃ cap w1, (convert 9 44 (.string (bs l))).run Tryz.prog w = .ok (.slice (some ⟨w.heap.size, 0, none⟩) l.length cap) w1 ∧
    RowM w1 w.heap.size w.heap.size cap l ∧ Below w.heap.size w w1 := by
  have h1 := Lib.run_convert_string_bytes (P := Tryz.prog) w 9 44 5 (bs l) Tryz.underlying9 Tryz.underlying44 Tryz.underlying5
  have hge := grownCap_ge w (bs l).size 0 5
  have hmx : maxLen = 9223372036854775807 := rfl
  have hsz := bs_size l
  have hcm := grownCap_le_maxLen w (bs l).size 0 5 (by omega)
  have hcs : (Lib.bytesCells w 5 (bs l)).size = grownCap w (bs l).size 0 5 := by
    have : (bs l).data.size = (bs l).size := rfl
    simp only [Lib.bytesCells, Array.size_append, Array.size_map, Array.size_replicate, this]
    omega
  rw [hsz] at h1
  refine ⟨_, _, h1, ⟨_, _, Nat.le_refl _, Lib.bytesWorld_at_new w _ (bs l), Or.inr (Nat.le_refl _), by rw [hsz] at hge; exact hge, by rw [hsz] at hcm; exact hcm, by rw [hsz] at hcs; exact hcs, fun j x hj => ?_⟩, Joins.below_bytesWorld _ w _ (bs l) (Nat.le_refl _)⟩
  have hlt := (List.getElem?_eq_some_iff.1 hj).1
  have h2 := Lib.bytesWorld_cell w 5 (bs l) j (by omega)
  rw [cell_of_row _ _ _ _ _ _ (Lib.bytesWorld_at_new w 5 (bs l))] at h2
  rw [h2, bs_data]
  simp [List.getD, hj]
end Go.Proofs.YtipjkjcmceeaeaaGreatDoor
