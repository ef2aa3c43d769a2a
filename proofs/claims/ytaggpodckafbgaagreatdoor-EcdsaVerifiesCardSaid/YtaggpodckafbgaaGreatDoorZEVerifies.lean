/- EcdsaVerifies: for every input true. -/
import Derived.Test.YtaggpodckafbgaaGreatDoorZEF
import Derived.Test.YtaggpodckafbgaaGreatDoorZR7
namespace Go.Proofs.YtaggpodckafbgaaGreatDoor.ecdsaVerifies
open Go.RowKit
set_option maxRecDepth 100000 in
set_option maxHeartbeats 3200000 in
theorem ver_core (p1 p2 s sig : ByteArray) (b : Bool) (w : World)
    (h0 : ∀ w : World, Calls Tryz.prog 14 #[] w fun e w' => e = .returned (.bool true) ∧ Below w.heap.size w w')
    (h1 : ∀ w : World, Calls Tryz.prog 19 #[.agg (kvc p1 p2), .string s, .string sig] w fun e w' => e = .returned (.bool b) ∧ Below w.heap.size w w')
    (h2 : ∀ w : World, Calls Tryz.prog 20 #[.agg (kvc p1 p2), .string s, .string sig] w fun e w' => e = .returned (.bool b) ∧ Below w.heap.size w w') :
    Calls Tryz.prog 6 #[.agg (kvc p1 p2), .string s, .string sig] w fun e w' => e = .returned (.bool true) ∧ Below w.heap.size w w' := by
  have H0 := Lib.hid h0; have H1 := Lib.hid h1; have H2 := Lib.hid h2
  clear h0 h1 h2
  have hbb : (b == b) = true := by cases b <;> rfl
  have hR0 := Rws.start w
  go_enter Tryz.func6, Tryz.ntmps6
  go_upto_region 1 with (refine wK_box rfl (by rfl) (by assumption) rfl ?_; intro gk w1 hR)
  have cx : w1.cell? ⟨gk, 0, none⟩ = some (.string p1) := hR.cellAt (List.Mem.head _) 0 rfl
  have cy : w1.cell? ⟨gk, 1, none⟩ = some (.string p2) := hR.cellAt (List.Mem.head _) 1 rfl
  have hg : gk < w1.heap.size := hR.lt (List.Mem.head _)
  have hb1 := hR.below
  go_region_with (first
    | (go_at_call 14; refine (H0.out _).mono ?_; rintro e wF ⟨rfl, hbF⟩; have cxF := (hbF.cell (p := ⟨gk, 0, none⟩) hg).trans cx; have cyF := (hbF.cell (p := ⟨gk, 1, none⟩) hg).trans cy; have hgF := Nat.lt_of_lt_of_le hg hbF.size)
    | (go_at_call 19; refine (H1.out _).mono ?_; rintro e wV ⟨rfl, hbV⟩; have cxV := (hbV.cell (p := ⟨gk, 0, none⟩) hgF).trans cxF; have cyV := (hbV.cell (p := ⟨gk, 1, none⟩) hgF).trans cyF)
    | (go_at_call 20; refine (H2.out _).mono ?_; rintro e wR ⟨rfl, hbR⟩))
  all_goals (
    go_wp2_with fail
    go_ret
    exact ⟨rfl, ((hb1.drew.trans (hbF.mono hb1.size)).trans (hbV.mono (Nat.le_trans hb1.size hbF.size))).trans (hbR.mono (Nat.le_trans (Nat.le_trans hb1.size hbF.size) hbV.size))⟩)
theorem law_any (p1 p2 s sig : ByteArray) (w : World) (_h1 : p1.size ≤ 140737488351232) (_h2 : p2.size ≤ 140737488351232) (h3 : s.size ≤ 140737488351232) (_h4 : sig.size ≤ 140737488351232) :
    Calls Tryz.prog 6 #[.agg (kvc p1 p2), .string s, .string sig] w fun e w' => e = .returned (.bool true) ∧ Below w.heap.size w w' :=
  ver_core p1 p2 s sig (verR p1 p2 s sig) w fixed_any (fun w => ecVerify_any p1 p2 s sig w (by omega)) (fun w => rverify_any p1 p2 s sig w (by omega))
end Go.Proofs.YtaggpodckafbgaaGreatDoor.ecdsaVerifies
