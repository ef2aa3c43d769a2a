/- EcdsaTimes: for every input true. -/
import Derived.Test.YtaggpodckafbgaaGreatDoorZEF
import Derived.Test.YtaggpodckafbgaaGreatDoorZQTimes
namespace Go.Proofs.YtaggpodckafbgaaGreatDoor
open Go.RowKit

set_option maxRecDepth 100000 in
set_option maxHeartbeats 3200000 in
theorem times_core (s p1 p2 a1 a2 : ByteArray) (n : Int) (w : World)
    (h0 : ∀ w : World, Calls Tryz.prog 14 #[] w fun e w' => e = .returned (.bool true) ∧ Below w.heap.size w w')
    (h1 : ∀ w : World, Calls Tryz.prog 17 #[.string s, .agg (kvc p1 p2)] w fun e w' => e = .returned (.tuple #[.agg (kvc a1 a2), .int .i64 n]) ∧ Below w.heap.size w w')
    (h2 : ∀ w : World, Calls Tryz.prog 18 #[.string s, .agg (kvc p1 p2)] w fun e w' => e = .returned (.tuple #[.agg (kvc a1 a2), .int .i64 n]) ∧ Below w.heap.size w w')
    : Calls Tryz.prog 5 #[.string s, .agg (kvc p1 p2)] w fun e w' => e = .returned (.bool true) ∧ Below w.heap.size w w' := by
  have H0 := Lib.hid h0; have H1 := Lib.hid h1; have H2 := Lib.hid h2
  clear h0 h1 h2
  have hR0 := Rws.start w
  go_enter Tryz.func5, Tryz.ntmps5
  go_wp2_with (first | (refine wK_box rfl (by rfl) (by assumption) rfl ?_; intro gk w1 hR) | (refine wK_alloc rfl (by rfl) (by assumption) ?_; intro gp w1 hR) | (refine wK_load rfl (by rfl) (by assumption) rfl (by repeat (first | exact List.Mem.head _ | refine List.Mem.tail _ ?_)) rfl ?_) | (refine wK_store rfl (by rfl) (by assumption) rfl rfl (by repeat (first | exact Pick.here | apply Pick.there)) (by rfl) (by rfl) (by exact kvc_cells _ _) ?_; intro w1 hR))
  refine (H1.out _).mono ?_
  rintro e w1 ⟨rfl, hb1⟩
  have hR := Rws.call (by assumption) hb1
  clear hb1
  go_wp2_with (first | (refine wK_box rfl (by rfl) (by assumption) rfl ?_; intro gk w1 hR) | (refine wK_alloc rfl (by rfl) (by assumption) ?_; intro ga w1 hR) | (refine wK_load rfl (by rfl) (by assumption) rfl (by repeat (first | exact List.Mem.head _ | refine List.Mem.tail _ ?_)) rfl ?_) | (refine wK_store rfl (by rfl) (by assumption) rfl rfl (by repeat (first | exact Pick.here | apply Pick.there)) (by rfl) (by rfl) (by exact kvc_cells _ _) ?_; intro w1 hR))
  refine (H2.out _).mono ?_
  rintro e w1 ⟨rfl, hb1⟩
  have hR := Rws.call (by assumption) hb1
  clear hb1
  go_wp2_with (first | (refine wK_box rfl (by rfl) (by assumption) rfl ?_; intro gk w1 hR) | (refine wK_alloc rfl (by rfl) (by assumption) ?_; intro gb w1 hR) | (refine wK_load rfl (by rfl) (by assumption) rfl (by repeat (first | exact List.Mem.head _ | refine List.Mem.tail _ ?_)) rfl ?_) | (refine wK_store rfl (by rfl) (by assumption) rfl rfl (by repeat (first | exact Pick.here | apply Pick.there)) (by rfl) (by rfl) (by exact kvc_cells _ _) ?_; intro w1 hR))
  refine (H0.out _).mono ?_
  rintro e w1 ⟨rfl, hb1⟩
  have hR := Rws.call (by assumption) hb1
  clear hb1
  have cgaa : w1.cell? ⟨ga, 0, none⟩ = some (.string a1) := cell_of_row w1 _ 0 _ _ _ (hR.row (ga, kvc a1 a2, 23) (by repeat (first | exact List.Mem.head _ | refine List.Mem.tail _ ?_))).2
  have cgab : w1.cell? ⟨ga, 1, none⟩ = some (.string a2) := cell_of_row w1 _ 1 _ _ _ (hR.row (ga, kvc a1 a2, 23) (by repeat (first | exact List.Mem.head _ | refine List.Mem.tail _ ?_))).2
  have cgba : w1.cell? ⟨gb, 0, none⟩ = some (.string a1) := cell_of_row w1 _ 0 _ _ _ (hR.row (gb, kvc a1 a2, 23) (by repeat (first | exact List.Mem.head _ | refine List.Mem.tail _ ?_))).2
  have cgbb : w1.cell? ⟨gb, 1, none⟩ = some (.string a2) := cell_of_row w1 _ 1 _ _ _ (hR.row (gb, kvc a1 a2, 23) (by repeat (first | exact List.Mem.head _ | refine List.Mem.tail _ ?_))).2
  go_wp2_with fail
  go_ret
  exact ⟨rfl, Rws.below (by assumption)⟩

theorem law_any (s p1 p2 : ByteArray) (w : World) (_h1 : s.size ≤ 140737488351232) (_h2 : p1.size ≤ 140737488351232) (_h3 : p2.size ≤ 140737488351232) :
    Calls Tryz.prog 5 #[.string s, .agg (kvc p1 p2)] w fun e w' => e = .returned (.bool true) ∧ Below w.heap.size w w' :=
  times_core s p1 p2 (timesR s p1 p2).1.1 (timesR s p1 p2).1.2 (timesR s p1 p2).2 w fixed_any (fun w => ecTimes_any s p1 p2 w) (fun w => rtimes_any s p1 p2 w)
end Go.Proofs.YtaggpodckafbgaaGreatDoor
