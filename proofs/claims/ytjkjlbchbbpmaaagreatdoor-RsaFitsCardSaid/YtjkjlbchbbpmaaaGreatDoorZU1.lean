/- URow UFits, in one text. -/
import Derived.Test.YtjkjlbchbbpmaaaGreatDoorZUPlain
import Derived.Test.YtjkjlbchbbpmaaaGreatDoorZR4
import Derived.Test.YtjkjlbchbbpmaaaGreatDoorZX1
/- A row of bytes that a conversion made, by a function: what it reads as, stores into it, texts of it. -/
namespace Go.Proofs.YtjkjlbchbbpmaaaGreatDoor
open Go.RowKit

/-- Block g (of the call's own, from B on) is a row of bytes, the first n of which read as f; none of its cells is frozen. -/
def RowM (w : World) (B g n cap : Nat) (f : Nat → Nat) : Prop :=
  ∃ cur fz, B ≤ g ∧ w.heap[g]? = some (.cells cur 5 fz) ∧ (fz.2 = 0 ∨ cur.size ≤ fz.1) ∧ n ≤ cap ∧ cap ≤ maxLen ∧ cur.size = cap ∧ ∀ j, j < n → cur[j]? = some (.int .u8 (f j : Nat))
section
variable {w w' : World} {B g n cap : Nat} {f : Nat → Nat}
theorem RowM.lt (h : RowM w B g n cap f) : g < w.heap.size := by
  obtain ⟨cur, fz, _, hh, _⟩ := h
  exact (Array.getElem?_eq_some_iff.1 hh).1
theorem RowM.ge (h : RowM w B g n cap f) : B ≤ g := by
  obtain ⟨_, _, hg, _⟩ := h
  exact hg
theorem RowM.le (h : RowM w B g n cap f) : n ≤ cap ∧ cap ≤ 9223372036854775807 := by
  obtain ⟨_, _, _, _, _, h1, h2, _⟩ := h
  exact ⟨h1, h2⟩
theorem RowM.cell (h : RowM w B g n cap f) (j : Nat) (hj : j < n) : w.cell? ⟨g, j, none⟩ = some (.int .u8 (f j : Nat)) := by
  obtain ⟨cur, fz, _, hh, _, _, _, _, hc⟩ := h
  rw [cell_of_row w g j cur _ _ hh]; exact hc j hj
theorem RowM.free (h : RowM w B g n cap f) (j : Nat) (hj : j < n) : w.frozen? ⟨g, j, none⟩ = false := by
  obtain ⟨cur, ⟨lo, up⟩, _, hh, hf, h1, _, h2, _⟩ := h
  simp only at hf
  simp only [World.frozen?, hh, Bool.and_eq_false_iff, decide_eq_false_iff_not]
  omega
theorem RowM.set (h : RowM w B g n cap f) (j x : Nat) : RowM (w.setCell ⟨g, j, none⟩ (.int .u8 (x : Nat))) B g n cap (fun i => if i = j then x else f i) := by
  obtain ⟨cur, fz, hg, hh, hf, h1, hm, h2, hc⟩ := h
  refine ⟨cur.setIfInBounds j (.int .u8 (x : Nat)), fz, hg, ?_, by simpa using hf, h1, hm, by simpa using h2, fun i hi => ?_⟩
  · rw [setCell_eq_setRow w g j cur _ _ _ hh]; exact setRow_heap w g cur _ _ _ hh
  · rw [Array.getElem?_setIfInBounds]
    by_cases e : j = i
    · subst e
      rw [if_pos rfl, if_pos (by omega)]
      simp
    · have e2 : ¬ i = j := fun h => e h.symm
      rw [if_neg e, hc i hi]
      simp [e2]
theorem RowM.congr {f2 : Nat → Nat} (h : RowM w B g n cap f) (he : ∀ j, j < n → f j = f2 j) : RowM w B g n cap f2 := by
  obtain ⟨cur, fz, hg, hh, hf, h1, hm, h2, hc⟩ := h
  exact ⟨cur, fz, hg, hh, hf, h1, hm, h2, fun j hj => by rw [hc j hj, he j hj]⟩
theorem RowM.below (h : RowM w B g n cap f) (hb : Below w.heap.size w w') : RowM w' B g n cap f := by
  obtain ⟨cur, fz, hg, hh, r⟩ := h
  exact ⟨cur, fz, hg, by rw [hb.block g (Array.getElem?_eq_some_iff.1 hh).1]; exact hh, r⟩
theorem RowM.drew (h : RowM w B g n cap f) : RowM w.drew B g n cap f := h
theorem RowM.drewN (h : RowM w B g n cap f) (q : Nat) : RowM (w.drewN q) B g n cap f := h
theorem RowM.alike (h : RowM w B g n cap f) (ha : w'.Alike w) : RowM w' B g n cap f := by
  obtain ⟨cur, fz, hg, hh, r⟩ := h
  exact ⟨cur, fz, hg, by rw [ha.1]; exact hh, r⟩
/-- Part of it as a text. -/
theorem RowM.text (h : RowM w B g n cap f) (a m c : Nat) (ha : a + m ≤ n) :
    (convert 46 9 (.slice (some ⟨g, a, none⟩) m c)).run Tryz.prog w = .ok (.string ⟨(rowL (fun i => f (a + i)) m).toArray⟩) w := by
  have hr := run_convert_bytes_arg (P := Tryz.prog) w 46 5 Tryz.underlying46 Tryz.underlying5 g a m c ((List.range m).map fun i => ((f (a + i) : Nat) : Int)) (by simp) (fun i hi => by
      have hi' : i < m := by simpa using hi
      rw [h.cell (a + i) (by omega)]
      simp [List.getD, hi']) 9 Tryz.underlying9
  rw [hr]
  refine congrArg (fun s => Result.ok (Value.string s) w) ?_
  unfold strOfNums rowL
  rw [List.map_map]
  refine congrArg (fun l => ByteArray.mk (List.toArray l)) (List.map_congr_left fun i _ => ?_)
  simp
end
/-- '[]byte(s)', as what it lays. -/
def MB (B : Nat) (f : Nat → Nat) (n : Nat) : Prd := fun w v => ∃ g cap, v = .slice (some ⟨g, 0, none⟩) n cap ∧ RowM w B g n cap f
theorem stb_mb (B : Nat) (f : Nat → Nat) (n : Nat) : Stb (MB B f n) := fun _ _ _ hb ⟨g, cap, hv, h⟩ => ⟨g, cap, hv, h.below hb⟩
theorem run_bytesM (w : World) (s : ByteArray) (hsz : s.size ≤ 140737488355328) (B : Nat) (hB : B ≤ w.heap.size) : ∃ v w', (convert 9 46 (.string s)).run Tryz.prog w = .ok v w' ∧ MB B (byteAt s) s.size w' v ∧ Below w.heap.size w w' := by
  have h1 := Lib.run_convert_string_bytes (P := Tryz.prog) w 9 46 5 s Tryz.underlying9 Tryz.underlying46 Tryz.underlying5
  have hge := grownCap_ge w s.size 0 5
  have hmx : maxLen = 9223372036854775807 := rfl
  have hcm := grownCap_le_maxLen w s.size 0 5 (by omega)
  have hcs : (Lib.bytesCells w 5 s).size = grownCap w s.size 0 5 := by
    have : s.data.size = s.size := rfl
    simp only [Lib.bytesCells, Array.size_append, Array.size_map, Array.size_replicate, this]
    omega
  refine ⟨_, _, h1, ⟨w.heap.size, _, rfl, _, _, hB, Lib.bytesWorld_at_new w _ s, Or.inr (Nat.le_refl _), hge, hcm, hcs, fun j hj => ?_⟩, Joins.below_bytesWorld _ w _ s (Nat.le_refl _)⟩
  have h2 := Lib.bytesWorld_cell w 5 s j hj
  rw [cell_of_row _ _ _ _ _ _ (Lib.bytesWorld_at_new w 5 s)] at h2
  exact h2
end Go.Proofs.YtjkjlbchbbpmaaaGreatDoor
/- rsa.fits: the walk. -/
namespace Go.Proofs.YtjkjlbchbbpmaaaGreatDoor
open Go.RowKit

def noneS : ByteArray := ⟨#[110, 111, 32, 115, 105, 103, 110, 97, 116, 117, 114, 101]⟩
/-- errNone, with a reason. -/
def reasonV (why : ByteArray) : Value := .iface 161 (.agg #[.string why, .iface 79 (.string noneS)])
theorem because_any (why : ByteArray) (w : World) : Calls Tryz.prog 84 #[.string why] w fun e w' => e = .returned (reasonV why) ∧ w = w' := by
  go_enter Tryz.func84, Tryz.ntmps84
  go_wp2_with fail
  go_ret
  exact ⟨rfl, rfl⟩
/-- What a text's form must be. -/
def FormC (block : ByteArray) (b : Int) : Prop := 1 ≤ b ∧ b ≤ 4096 ∧ (block.size : Int) = (b + 7) / 8 ∧ 66 ≤ block.size
/-- The call answers a reason, or nothing is wrong. -/
def RetWhy (fine : Prop) (w : World) (e : Ending) (w' : World) : Prop := ((fine ∧ e = .returned .nilIface) ∨ (¬ fine ∧ ∃ why, e = .returned (reasonV why))) ∧ Below w.heap.size w w'

set_option maxRecDepth 100000 in
set_option maxHeartbeats 1600000 in
theorem fits_form (s block : ByteArray) (b : Int) (w : World) (h : ¬ FormC block b) :
    Calls Tryz.prog 49 #[.string s, .string block, .int .i64 b] w fun e w' => (∃ why, e = .returned (reasonV why)) ∧ Below w.heap.size w w' := by
  have hbe := fun why w => because_any why w
  have HB := Lib.hid hbe
  clear hbe
  by_cases h1 : b < 1
  · clear h
    go_enter Tryz.func49, Tryz.ntmps49
    go_wp2_with fail
    refine (HB.out _ _).mono ?_
    rintro e w1 ⟨rfl, rfl⟩
    go_wp2_with fail
    go_ret
    exact ⟨⟨_, rfl⟩, Below.refl _ _⟩
  · by_cases h2 : 4096 < b
    · clear h
      go_enter Tryz.func49, Tryz.ntmps49
      go_wp2_with fail
      refine (HB.out _ _).mono ?_
      rintro e w1 ⟨rfl, rfl⟩
      go_wp2_with fail
      go_ret
      exact ⟨⟨_, rfl⟩, Below.refl _ _⟩
    · by_cases h3 : (block.size : Int) = (b + 7) / 8
      · have h4 : (block.size : Int) < 66 := by
          unfold FormC at h
          omega
        have h5 : ((block.size : Int) != (b + 7) / 8) = false := by simp [h3]
        clear h h3
        go_enter Tryz.func49, Tryz.ntmps49
        go_wp2_with fail
        refine (HB.out _ _).mono ?_
        rintro e w1 ⟨rfl, rfl⟩
        go_wp2_with fail
        go_ret
        exact ⟨⟨_, rfl⟩, Below.refl _ _⟩
      · have h5 : ((block.size : Int) != (b + 7) / 8) = true := by simp [h3]
        clear h h3
        go_enter Tryz.func49, Tryz.ntmps49
        go_wp2_with fail
        refine (HB.out _ _).mono ?_
        rintro e w1 ⟨rfl, rfl⟩
        go_wp2_with fail
        go_ret
        exact ⟨⟨_, rfl⟩, Below.refl _ _⟩
end Go.Proofs.YtjkjlbchbbpmaaaGreatDoor
