/- EcdsaKeys: for every input true. -/
import Derived.Test.YtaggpodckafbgaaGreatDoorZEF
import Derived.Test.YtaggpodckafbgaaGreatDoorZQKeys
namespace Go.Proofs.YtaggpodckafbgaaGreatDoor
open Go.RowKit

set_option maxRecDepth 100000 in
set_option maxHeartbeats 3200000 in
theorem keys_none (p1 p2 a1 a2 : ByteArray) (w : World)
    (hIn : ∀ w : World, Calls Tryz.prog 13 #[.agg (kvc p1 p2)] w fun e w' => ∃ pv : Array Value, pv.size = 3 ∧ pv.all (·.oneCell') = true ∧ e = .returned (.tuple #[.agg pv, .bool false]) ∧ Below w.heap.size w w')
    (h0 : ∀ w : World, Calls Tryz.prog 14 #[] w fun e w' => e = .returned (.bool true) ∧ Below w.heap.size w w')
    (h1 : ∀ w : World, Calls Tryz.prog 11 #[.agg (kvc p1 p2)] w fun e w' => e = .returned (.int .i64 50) ∧ Below w.heap.size w w')
    (h2 : ∀ w : World, Calls Tryz.prog 12 #[.agg (kvc p1 p2), .agg zkey] w fun e w' => e = .returned (.tuple #[.agg (kvc a1 a2), .int .i64 50]) ∧ Below w.heap.size w w')
    (h3 : ∀ w : World, Calls Tryz.prog 15 #[.agg (kvc p1 p2)] w fun e w' => e = .returned (.bool false) ∧ Below w.heap.size w w')
    : Calls Tryz.prog 3 #[.agg (kvc p1 p2)] w fun e w' => e = .returned (.bool true) ∧ Below w.heap.size w w' := by
  have H0 := Lib.hid h0; have H1 := Lib.hid h1; have H2 := Lib.hid h2; have H3 := Lib.hid h3
  clear h0 h1 h2 h3
  have HIn0 := Lib.hid hIn
  clear hIn
  have hIn := HIn0
  have hR0 := Rws.start w
  go_enter Tryz.func3, Tryz.ntmps3
  go_wp2_with (first | (refine wK_box rfl (by rfl) (by assumption) rfl ?_; intro gk w1 hR) | (refine wK_alloc rfl (by rfl) (by assumption) ?_; intro gp w1 hR) | (refine wK_load rfl (by rfl) (by assumption) rfl (by repeat (first | exact List.Mem.head _ | refine List.Mem.tail _ ?_)) rfl ?_) | (refine wK_store rfl (by rfl) (by assumption) rfl rfl (by repeat (first | exact Pick.here | apply Pick.there)) (by rfl) (by rfl) (by exact kvc_cells _ _) ?_; intro w1 hR))
  refine (H1.out _).mono ?_
  rintro e w1 ⟨rfl, hb1⟩
  have hR := Rws.call (by assumption) hb1
  clear hb1
  go_wp2_with (first | (refine wB_build (xs := []) (cs := zkey) rfl (by rfl) (by exact built_key0) ?_) | (first | (refine wK_box rfl (by rfl) (by assumption) rfl ?_; intro gk w1 hR) | (refine wK_alloc rfl (by rfl) (by assumption) ?_; intro ga w1 hR) | (refine wK_load rfl (by rfl) (by assumption) rfl (by repeat (first | exact List.Mem.head _ | refine List.Mem.tail _ ?_)) rfl ?_) | (refine wK_store rfl (by rfl) (by assumption) rfl rfl (by repeat (first | exact Pick.here | apply Pick.there)) (by rfl) (by rfl) (by exact kvc_cells _ _) ?_; intro w1 hR)))
  refine (H2.out _).mono ?_
  rintro e w1 ⟨rfl, hb1⟩
  have hR := Rws.call (by assumption) hb1
  clear hb1
  have HIn := hIn
  go_wp2_with (first | (refine wK_box rfl (by rfl) (by assumption) rfl ?_; intro gk w1 hR) | (refine wK_alloc rfl (by rfl) (by assumption) ?_; intro gb w1 hR) | (refine wK_load rfl (by rfl) (by assumption) rfl (by repeat (first | exact List.Mem.head _ | refine List.Mem.tail _ ?_)) rfl ?_) | (refine wK_store rfl (by rfl) (by assumption) rfl rfl (by repeat (first | exact Pick.here | apply Pick.there)) (by rfl) (by rfl) (by exact kvc_cells _ _) ?_; intro w1 hR))
  refine (HIn.out _).mono ?_
  rintro e w1 ⟨pv, hs, hc, rfl, hb1⟩
  have hR := Rws.call (by assumption) hb1
  clear hb1
  go_wp2_with (first | (refine wpList_alloc_rws rfl _ (by rfl) (by assumption) _ zero_pt ?_; intro gq w1 hR) | (refine wB_store rfl (by rfl) (by assumption) rfl rfl (by repeat (first | exact Pick.here | apply Pick.there)) (by exact pt_info hs) (by rw [hs]; rfl) (by exact hc) ?_; intro w1 hR hbt hrr))
  refine (H0.out _).mono ?_
  rintro e w1 ⟨rfl, hb1⟩
  have hR := Rws.call (by assumption) hb1
  clear hb1
  have cgka : w1.cell? ⟨gk, 0, none⟩ = some (.string p1) := cell_of_row w1 _ 0 _ _ _ (hR.row (gk, kvc p1 p2, 23) (by repeat (first | exact List.Mem.head _ | refine List.Mem.tail _ ?_))).2
  have cgkb : w1.cell? ⟨gk, 1, none⟩ = some (.string p2) := cell_of_row w1 _ 1 _ _ _ (hR.row (gk, kvc p1 p2, 23) (by repeat (first | exact List.Mem.head _ | refine List.Mem.tail _ ?_))).2
  go_wp2_with fail
  refine (H3.out _).mono ?_
  rintro e w1 ⟨rfl, hb1⟩
  have hR := Rws.call (by assumption) hb1
  clear hb1
  clear cgka cgkb
  go_wp2_with fail
  go_ret
  exact ⟨rfl, Rws.below (by assumption)⟩

set_option maxRecDepth 100000 in
set_option maxHeartbeats 3200000 in
theorem keys_inf (p1 p2 a1 a2 : ByteArray) (w : World)
    (hIn : ∀ w : World, Calls Tryz.prog 13 #[.agg (kvc p1 p2)] w fun e w' => ∃ pv : Array Value, pv.size = 3 ∧ pv.all (·.oneCell') = true ∧ e = .returned (.tuple #[.agg pv, .bool true]) ∧ Below w.heap.size w w')
    (h0 : ∀ w : World, Calls Tryz.prog 14 #[] w fun e w' => e = .returned (.bool true) ∧ Below w.heap.size w w')
    (h1 : ∀ w : World, Calls Tryz.prog 11 #[.agg (kvc p1 p2)] w fun e w' => e = .returned (.int .i64 50) ∧ Below w.heap.size w w')
    (h2 : ∀ w : World, Calls Tryz.prog 12 #[.agg (kvc p1 p2), .agg zkey] w fun e w' => e = .returned (.tuple #[.agg (kvc a1 a2), .int .i64 0]) ∧ Below w.heap.size w w')
    (h3 : ∀ w : World, Calls Tryz.prog 15 #[.agg (kvc p1 p2)] w fun e w' => e = .returned (.bool false) ∧ Below w.heap.size w w')
    : Calls Tryz.prog 3 #[.agg (kvc p1 p2)] w fun e w' => e = .returned (.bool true) ∧ Below w.heap.size w w' := by
  have H0 := Lib.hid h0; have H1 := Lib.hid h1; have H2 := Lib.hid h2; have H3 := Lib.hid h3
  clear h0 h1 h2 h3
  have HIn0 := Lib.hid hIn
  clear hIn
  have hIn := HIn0
  have hR0 := Rws.start w
  go_enter Tryz.func3, Tryz.ntmps3
  go_wp2_with (first | (refine wK_box rfl (by rfl) (by assumption) rfl ?_; intro gk w1 hR) | (refine wK_alloc rfl (by rfl) (by assumption) ?_; intro gp w1 hR) | (refine wK_load rfl (by rfl) (by assumption) rfl (by repeat (first | exact List.Mem.head _ | refine List.Mem.tail _ ?_)) rfl ?_) | (refine wK_store rfl (by rfl) (by assumption) rfl rfl (by repeat (first | exact Pick.here | apply Pick.there)) (by rfl) (by rfl) (by exact kvc_cells _ _) ?_; intro w1 hR))
  refine (H1.out _).mono ?_
  rintro e w1 ⟨rfl, hb1⟩
  have hR := Rws.call (by assumption) hb1
  clear hb1
  go_wp2_with (first | (refine wB_build (xs := []) (cs := zkey) rfl (by rfl) (by exact built_key0) ?_) | (first | (refine wK_box rfl (by rfl) (by assumption) rfl ?_; intro gk w1 hR) | (refine wK_alloc rfl (by rfl) (by assumption) ?_; intro ga w1 hR) | (refine wK_load rfl (by rfl) (by assumption) rfl (by repeat (first | exact List.Mem.head _ | refine List.Mem.tail _ ?_)) rfl ?_) | (refine wK_store rfl (by rfl) (by assumption) rfl rfl (by repeat (first | exact Pick.here | apply Pick.there)) (by rfl) (by rfl) (by exact kvc_cells _ _) ?_; intro w1 hR)))
  refine (H2.out _).mono ?_
  rintro e w1 ⟨rfl, hb1⟩
  have hR := Rws.call (by assumption) hb1
  clear hb1
  have HIn := hIn
  go_wp2_with (first | (refine wK_box rfl (by rfl) (by assumption) rfl ?_; intro gk w1 hR) | (refine wK_alloc rfl (by rfl) (by assumption) ?_; intro gb w1 hR) | (refine wK_load rfl (by rfl) (by assumption) rfl (by repeat (first | exact List.Mem.head _ | refine List.Mem.tail _ ?_)) rfl ?_) | (refine wK_store rfl (by rfl) (by assumption) rfl rfl (by repeat (first | exact Pick.here | apply Pick.there)) (by rfl) (by rfl) (by exact kvc_cells _ _) ?_; intro w1 hR))
  refine (HIn.out _).mono ?_
  rintro e w1 ⟨pv, hs, hc, rfl, hb1⟩
  have hR := Rws.call (by assumption) hb1
  clear hb1
  go_wp2_with (first | (refine wpList_alloc_rws rfl _ (by rfl) (by assumption) _ zero_pt ?_; intro gq w1 hR) | (refine wB_store rfl (by rfl) (by assumption) rfl rfl (by repeat (first | exact Pick.here | apply Pick.there)) (by exact pt_info hs) (by rw [hs]; rfl) (by exact hc) ?_; intro w1 hR hbt hrr))
  refine (H0.out _).mono ?_
  rintro e w1 ⟨rfl, hb1⟩
  have hR := Rws.call (by assumption) hb1
  clear hb1
  have cgka : w1.cell? ⟨gk, 0, none⟩ = some (.string p1) := cell_of_row w1 _ 0 _ _ _ (hR.row (gk, kvc p1 p2, 23) (by repeat (first | exact List.Mem.head _ | refine List.Mem.tail _ ?_))).2
  have cgkb : w1.cell? ⟨gk, 1, none⟩ = some (.string p2) := cell_of_row w1 _ 1 _ _ _ (hR.row (gk, kvc p1 p2, 23) (by repeat (first | exact List.Mem.head _ | refine List.Mem.tail _ ?_))).2
  go_wp2_with fail
  refine (H3.out _).mono ?_
  rintro e w1 ⟨rfl, hb1⟩
  have hR := Rws.call (by assumption) hb1
  clear hb1
  clear cgka cgkb
  go_wp2_with fail
  go_ret
  exact ⟨rfl, Rws.below (by assumption)⟩

set_option maxRecDepth 100000 in
set_option maxHeartbeats 3200000 in
theorem keys_at (p1 p2 a1 a2 : ByteArray) (w : World)
    (hIn : ∀ w : World, Calls Tryz.prog 13 #[.agg (kvc p1 p2)] w fun e w' => ∃ pv : Array Value, pv.size = 3 ∧ pv.all (·.oneCell') = true ∧ e = .returned (.tuple #[.agg pv, .bool true]) ∧ Below w.heap.size w w')
    (h0 : ∀ w : World, Calls Tryz.prog 14 #[] w fun e w' => e = .returned (.bool true) ∧ Below w.heap.size w w')
    (h1 : ∀ w : World, Calls Tryz.prog 11 #[.agg (kvc p1 p2)] w fun e w' => e = .returned (.int .i64 0) ∧ Below w.heap.size w w')
    (h2 : ∀ w : World, Calls Tryz.prog 12 #[.agg (kvc p1 p2), .agg zkey] w fun e w' => e = .returned (.tuple #[.agg (kvc a1 a2), .int .i64 0]) ∧ Below w.heap.size w w')
    (h3 : ∀ w : World, Calls Tryz.prog 15 #[.agg (kvc p1 p2)] w fun e w' => e = .returned (.bool true) ∧ Below w.heap.size w w')
    : Calls Tryz.prog 3 #[.agg (kvc p1 p2)] w fun e w' => e = .returned (.bool true) ∧ Below w.heap.size w w' := by
  have H0 := Lib.hid h0; have H1 := Lib.hid h1; have H2 := Lib.hid h2; have H3 := Lib.hid h3
  clear h0 h1 h2 h3
  have HIn0 := Lib.hid hIn
  clear hIn
  have hIn := HIn0
  have hR0 := Rws.start w
  go_enter Tryz.func3, Tryz.ntmps3
  go_wp2_with (first | (refine wK_box rfl (by rfl) (by assumption) rfl ?_; intro gk w1 hR) | (refine wK_alloc rfl (by rfl) (by assumption) ?_; intro gp w1 hR) | (refine wK_load rfl (by rfl) (by assumption) rfl (by repeat (first | exact List.Mem.head _ | refine List.Mem.tail _ ?_)) rfl ?_) | (refine wK_store rfl (by rfl) (by assumption) rfl rfl (by repeat (first | exact Pick.here | apply Pick.there)) (by rfl) (by rfl) (by exact kvc_cells _ _) ?_; intro w1 hR))
  refine (H1.out _).mono ?_
  rintro e w1 ⟨rfl, hb1⟩
  have hR := Rws.call (by assumption) hb1
  clear hb1
  go_wp2_with (first | (refine wB_build (xs := []) (cs := zkey) rfl (by rfl) (by exact built_key0) ?_) | (first | (refine wK_box rfl (by rfl) (by assumption) rfl ?_; intro gk w1 hR) | (refine wK_alloc rfl (by rfl) (by assumption) ?_; intro ga w1 hR) | (refine wK_load rfl (by rfl) (by assumption) rfl (by repeat (first | exact List.Mem.head _ | refine List.Mem.tail _ ?_)) rfl ?_) | (refine wK_store rfl (by rfl) (by assumption) rfl rfl (by repeat (first | exact Pick.here | apply Pick.there)) (by rfl) (by rfl) (by exact kvc_cells _ _) ?_; intro w1 hR)))
  refine (H2.out _).mono ?_
  rintro e w1 ⟨rfl, hb1⟩
  have hR := Rws.call (by assumption) hb1
  clear hb1
  have HIn := hIn
  go_wp2_with (first | (refine wK_box rfl (by rfl) (by assumption) rfl ?_; intro gk w1 hR) | (refine wK_alloc rfl (by rfl) (by assumption) ?_; intro gb w1 hR) | (refine wK_load rfl (by rfl) (by assumption) rfl (by repeat (first | exact List.Mem.head _ | refine List.Mem.tail _ ?_)) rfl ?_) | (refine wK_store rfl (by rfl) (by assumption) rfl rfl (by repeat (first | exact Pick.here | apply Pick.there)) (by rfl) (by rfl) (by exact kvc_cells _ _) ?_; intro w1 hR))
  refine (HIn.out _).mono ?_
  rintro e w1 ⟨pv, hs, hc, rfl, hb1⟩
  have hR := Rws.call (by assumption) hb1
  clear hb1
  go_wp2_with (first | (refine wpList_alloc_rws rfl _ (by rfl) (by assumption) _ zero_pt ?_; intro gq w1 hR) | (refine wB_store rfl (by rfl) (by assumption) rfl rfl (by repeat (first | exact Pick.here | apply Pick.there)) (by exact pt_info hs) (by rw [hs]; rfl) (by exact hc) ?_; intro w1 hR hbt hrr))
  refine (H0.out _).mono ?_
  rintro e w1 ⟨rfl, hb1⟩
  have hR := Rws.call (by assumption) hb1
  clear hb1
  have cgka : w1.cell? ⟨gk, 0, none⟩ = some (.string p1) := cell_of_row w1 _ 0 _ _ _ (hR.row (gk, kvc p1 p2, 23) (by repeat (first | exact List.Mem.head _ | refine List.Mem.tail _ ?_))).2
  have cgkb : w1.cell? ⟨gk, 1, none⟩ = some (.string p2) := cell_of_row w1 _ 1 _ _ _ (hR.row (gk, kvc p1 p2, 23) (by repeat (first | exact List.Mem.head _ | refine List.Mem.tail _ ?_))).2
  go_wp2_with fail
  refine (H3.out _).mono ?_
  rintro e w1 ⟨rfl, hb1⟩
  have hR := Rws.call (by assumption) hb1
  clear hb1
  clear cgka cgkb
  go_wp2_with fail
  go_ret
  exact ⟨rfl, Rws.below (by assumption)⟩

theorem inK_zero : inK ⟨#[]⟩ ⟨#[]⟩ = some .inf := if_pos ⟨rfl, rfl⟩
theorem law_any (p1 p2 : ByteArray) (w : World) (_h1 : p1.size ≤ 140737488351232) (_h2 : p2.size ≤ 140737488351232) :
    Calls Tryz.prog 3 #[.agg (kvc p1 p2)] w fun e w' => e = .returned (.bool true) ∧ Below w.heap.size w w' := by
  have hC := fun w => Check_any p1 p2 w
  have hA := fun w => ecAdd_any p1 p2 ⟨#[]⟩ ⟨#[]⟩ w
  have hR := fun w => rcheck_any p1 p2 w
  have hI := fun w => in_all p1 p2 w
  unfold checkR at hC
  unfold addR at hA
  unfold checkB at hR
  rw [inK_zero] at hA
  cases hK : inK p1 p2 with
  | none =>
    rw [hK] at hC hA hR hI
    exact keys_none p1 p2 _ _ w hI fixed_any hC hA hR
  | some A =>
    rw [hK] at hC hA hR hI
    cases A with
    | inf => exact keys_inf p1 p2 _ _ w hI fixed_any hC hA hR
    | «at» x y => exact keys_at p1 p2 _ _ w hI fixed_any hC hA hR
end Go.Proofs.YtaggpodckafbgaaGreatDoor
