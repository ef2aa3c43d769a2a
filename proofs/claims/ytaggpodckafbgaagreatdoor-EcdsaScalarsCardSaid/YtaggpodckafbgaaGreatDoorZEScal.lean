/- EcdsaScalars: the walk. -/
import Derived.Test.YtaggpodckafbgaaGreatDoorZELawKit2
namespace Go.Proofs.YtaggpodckafbgaaGreatDoor
open Go.RowKit

set_option maxRecDepth 100000 in
set_option maxHeartbeats 3200000 in
theorem scalars_err51 (a b p1 p2 : ByteArray) (w : World) (hl : decide (32 < (a.size : Int)) = true)
    (h0 : ∀ w : World, Calls Tryz.prog 14 #[] w fun e w' => e = .returned (.bool true) ∧ Below w.heap.size w w')
    (h1 : ∀ w : World, Calls Tryz.prog 17 #[.string a, .agg (kvc p1 p2)] w fun e w' => e = .returned (.tuple #[.agg zkey, .int .i64 51]) ∧ Below w.heap.size w w')
    : Calls Tryz.prog 8 #[.agg (kvc p1 p2), .string a, .string b] w fun e w' => e = .returned (.bool true) ∧ Below w.heap.size w w' := by
  have H0 := Lib.hid h0; have H1 := Lib.hid h1
  clear h0 h1
  have hR0 := Rws.start w
  go_enter Tryz.func8, Tryz.ntmps8
  go_wp2_with (first | (refine wK_box rfl (by rfl) (by assumption) rfl ?_; intro gk w1 hR) | (refine wK_alloc rfl (by rfl) (by assumption) ?_; intro g0 w1 hR) | (refine wK_load rfl (by rfl) (by assumption) rfl (by repeat (first | exact List.Mem.head _ | refine List.Mem.tail _ ?_)) rfl ?_) | (refine wK_store rfl (by rfl) (by assumption) rfl rfl (by repeat (first | exact Pick.here | apply Pick.there)) (by rfl) (by rfl) (by exact kvc_cells _ _) ?_; intro w1 hR))
  refine (H0.out _).mono ?_
  rintro e w1 ⟨rfl, hb1⟩
  have hR := Rws.call (by assumption) hb1
  clear hb1
  go_wp2_with (first | (refine wK_box rfl (by rfl) (by assumption) rfl ?_; intro gk w1 hR) | (refine wK_alloc rfl (by rfl) (by assumption) ?_; intro g0 w1 hR) | (refine wK_load rfl (by rfl) (by assumption) rfl (by repeat (first | exact List.Mem.head _ | refine List.Mem.tail _ ?_)) rfl ?_) | (refine wK_store rfl (by rfl) (by assumption) rfl rfl (by repeat (first | exact Pick.here | apply Pick.there)) (by rfl) (by rfl) (by exact kvc_cells _ _) ?_; intro w1 hR))
  refine (H1.out _).mono ?_
  rintro e w1 ⟨rfl, hb1⟩
  have hR := Rws.call (by assumption) hb1
  clear hb1
  go_upto_region 5 with (first | (refine wK_box rfl (by rfl) (by assumption) rfl ?_; intro gk w1 hR) | (refine wK_alloc rfl (by rfl) (by assumption) ?_; intro gx w1 hR) | (refine wK_load rfl (by rfl) (by assumption) rfl (by repeat (first | exact List.Mem.head _ | refine List.Mem.tail _ ?_)) rfl ?_) | (refine wK_store rfl (by rfl) (by assumption) rfl rfl (by repeat (first | exact Pick.here | apply Pick.there)) (by rfl) (by rfl) (by exact kvc_cells _ _) ?_; intro w1 hR))
  have cgxa : w1.cell? ⟨gx, 0, none⟩ = some (.string ⟨#[]⟩) := cell_of_row w1 _ 0 _ _ _ (hR.row (gx, kvc ⟨#[]⟩ ⟨#[]⟩, 23) (by repeat (first | exact List.Mem.head _ | refine List.Mem.tail _ ?_))).2
  have cgxb : w1.cell? ⟨gx, 1, none⟩ = some (.string ⟨#[]⟩) := cell_of_row w1 _ 1 _ _ _ (hR.row (gx, kvc ⟨#[]⟩ ⟨#[]⟩, 23) (by repeat (first | exact List.Mem.head _ | refine List.Mem.tail _ ?_))).2
  have hbz : ∀ w : World, (Instr.build 23 #[]).run Tryz.prog w = .ok (.agg zkey) w := fun w => run_build w _ _ zkey built_key0
  go_wp2_with fail
  go_ret
  exact ⟨rfl, Rws.below (by assumption)⟩

set_option maxRecDepth 100000 in
set_option maxHeartbeats 3200000 in
theorem scalars_err50 (a b p1 p2 : ByteArray) (w : World) (hl : decide (32 < (a.size : Int)) = false)
    (h0 : ∀ w : World, Calls Tryz.prog 14 #[] w fun e w' => e = .returned (.bool true) ∧ Below w.heap.size w w')
    (h1 : ∀ w : World, Calls Tryz.prog 17 #[.string a, .agg (kvc p1 p2)] w fun e w' => e = .returned (.tuple #[.agg zkey, .int .i64 50]) ∧ Below w.heap.size w w')
    : Calls Tryz.prog 8 #[.agg (kvc p1 p2), .string a, .string b] w fun e w' => e = .returned (.bool true) ∧ Below w.heap.size w w' := by
  have H0 := Lib.hid h0; have H1 := Lib.hid h1
  clear h0 h1
  have hR0 := Rws.start w
  go_enter Tryz.func8, Tryz.ntmps8
  go_wp2_with (first | (refine wK_box rfl (by rfl) (by assumption) rfl ?_; intro gk w1 hR) | (refine wK_alloc rfl (by rfl) (by assumption) ?_; intro g0 w1 hR) | (refine wK_load rfl (by rfl) (by assumption) rfl (by repeat (first | exact List.Mem.head _ | refine List.Mem.tail _ ?_)) rfl ?_) | (refine wK_store rfl (by rfl) (by assumption) rfl rfl (by repeat (first | exact Pick.here | apply Pick.there)) (by rfl) (by rfl) (by exact kvc_cells _ _) ?_; intro w1 hR))
  refine (H0.out _).mono ?_
  rintro e w1 ⟨rfl, hb1⟩
  have hR := Rws.call (by assumption) hb1
  clear hb1
  go_wp2_with (first | (refine wK_box rfl (by rfl) (by assumption) rfl ?_; intro gk w1 hR) | (refine wK_alloc rfl (by rfl) (by assumption) ?_; intro g0 w1 hR) | (refine wK_load rfl (by rfl) (by assumption) rfl (by repeat (first | exact List.Mem.head _ | refine List.Mem.tail _ ?_)) rfl ?_) | (refine wK_store rfl (by rfl) (by assumption) rfl rfl (by repeat (first | exact Pick.here | apply Pick.there)) (by rfl) (by rfl) (by exact kvc_cells _ _) ?_; intro w1 hR))
  refine (H1.out _).mono ?_
  rintro e w1 ⟨rfl, hb1⟩
  have hR := Rws.call (by assumption) hb1
  clear hb1
  go_upto_region 5 with (first | (refine wK_box rfl (by rfl) (by assumption) rfl ?_; intro gk w1 hR) | (refine wK_alloc rfl (by rfl) (by assumption) ?_; intro gx w1 hR) | (refine wK_load rfl (by rfl) (by assumption) rfl (by repeat (first | exact List.Mem.head _ | refine List.Mem.tail _ ?_)) rfl ?_) | (refine wK_store rfl (by rfl) (by assumption) rfl rfl (by repeat (first | exact Pick.here | apply Pick.there)) (by rfl) (by rfl) (by exact kvc_cells _ _) ?_; intro w1 hR))
  have cgxa : w1.cell? ⟨gx, 0, none⟩ = some (.string ⟨#[]⟩) := cell_of_row w1 _ 0 _ _ _ (hR.row (gx, kvc ⟨#[]⟩ ⟨#[]⟩, 23) (by repeat (first | exact List.Mem.head _ | refine List.Mem.tail _ ?_))).2
  have cgxb : w1.cell? ⟨gx, 1, none⟩ = some (.string ⟨#[]⟩) := cell_of_row w1 _ 1 _ _ _ (hR.row (gx, kvc ⟨#[]⟩ ⟨#[]⟩, 23) (by repeat (first | exact List.Mem.head _ | refine List.Mem.tail _ ?_))).2
  have hbz : ∀ w : World, (Instr.build 23 #[]).run Tryz.prog w = .ok (.agg zkey) w := fun w => run_build w _ _ zkey built_key0
  go_wp2_with fail
  go_ret
  exact ⟨rfl, Rws.below (by assumption)⟩

set_option maxRecDepth 100000 in
set_option maxHeartbeats 3200000 in
theorem scalars_long (a b p1 p2 x1 x2 : ByteArray) (w : World) (hl : 32 < (b.size : Int))
    (h0 : ∀ w : World, Calls Tryz.prog 14 #[] w fun e w' => e = .returned (.bool true) ∧ Below w.heap.size w w')
    (h1 : ∀ w : World, Calls Tryz.prog 17 #[.string a, .agg (kvc p1 p2)] w fun e w' => e = .returned (.tuple #[.agg (kvc x1 x2), .int .i64 0]) ∧ Below w.heap.size w w')
    : Calls Tryz.prog 8 #[.agg (kvc p1 p2), .string a, .string b] w fun e w' => e = .returned (.bool true) ∧ Below w.heap.size w w' := by
  have H0 := Lib.hid h0; have H1 := Lib.hid h1
  clear h0 h1
  have hR0 := Rws.start w
  go_enter Tryz.func8, Tryz.ntmps8
  go_wp2_with (first | (refine wK_box rfl (by rfl) (by assumption) rfl ?_; intro gk w1 hR) | (refine wK_alloc rfl (by rfl) (by assumption) ?_; intro g0 w1 hR) | (refine wK_load rfl (by rfl) (by assumption) rfl (by repeat (first | exact List.Mem.head _ | refine List.Mem.tail _ ?_)) rfl ?_) | (refine wK_store rfl (by rfl) (by assumption) rfl rfl (by repeat (first | exact Pick.here | apply Pick.there)) (by rfl) (by rfl) (by exact kvc_cells _ _) ?_; intro w1 hR))
  refine (H0.out _).mono ?_
  rintro e w1 ⟨rfl, hb1⟩
  have hR := Rws.call (by assumption) hb1
  clear hb1
  go_wp2_with (first | (refine wK_box rfl (by rfl) (by assumption) rfl ?_; intro gk w1 hR) | (refine wK_alloc rfl (by rfl) (by assumption) ?_; intro g0 w1 hR) | (refine wK_load rfl (by rfl) (by assumption) rfl (by repeat (first | exact List.Mem.head _ | refine List.Mem.tail _ ?_)) rfl ?_) | (refine wK_store rfl (by rfl) (by assumption) rfl rfl (by repeat (first | exact Pick.here | apply Pick.there)) (by rfl) (by rfl) (by exact kvc_cells _ _) ?_; intro w1 hR))
  refine (H1.out _).mono ?_
  rintro e w1 ⟨rfl, hb1⟩
  have hR := Rws.call (by assumption) hb1
  clear hb1
  go_upto_region 7 with (first | (refine wK_box rfl (by rfl) (by assumption) rfl ?_; intro gk w1 hR) | (refine wK_alloc rfl (by rfl) (by assumption) ?_; intro gx w1 hR) | (refine wK_load rfl (by rfl) (by assumption) rfl (by repeat (first | exact List.Mem.head _ | refine List.Mem.tail _ ?_)) rfl ?_) | (refine wK_store rfl (by rfl) (by assumption) rfl rfl (by repeat (first | exact Pick.here | apply Pick.there)) (by rfl) (by rfl) (by exact kvc_cells _ _) ?_; intro w1 hR))
  go_wp2_with fail
  go_ret
  exact ⟨rfl, Rws.below (by assumption)⟩

set_option maxRecDepth 100000 in
set_option maxHeartbeats 3200000 in
theorem scalars_core (a b p1 p2 x1 x2 y1 y2 z1 z2 on q1 q2 q3 left left2 sum rest ab : ByteArray) (w : World) (hl : ¬ 32 < (b.size : Int))
    (h0 : ∀ w : World, Calls Tryz.prog 14 #[] w fun e w' => e = .returned (.bool true) ∧ Below w.heap.size w w')
    (h1 : ∀ w : World, Calls Tryz.prog 17 #[.string a, .agg (kvc p1 p2)] w fun e w' => e = .returned (.tuple #[.agg (kvc x1 x2), .int .i64 0]) ∧ Below w.heap.size w w')
    (h2 : ∀ w : World, Calls Tryz.prog 21 #[] w fun e w' => e = .returned (.string on) ∧ Below w.heap.size w w')
    (h3 : ∀ w : World, Calls Tryz.prog 25 #[.string a, .string on] w fun e w' => e = .returned (.tuple #[.string q1, .string left, .int .i64 0]) ∧ Below w.heap.size w w')
    (h4 : ∀ w : World, Calls Tryz.prog 17 #[.string left, .agg (kvc p1 p2)] w fun e w' => e = .returned (.tuple #[.agg (kvc x1 x2), .int .i64 0]) ∧ Below w.heap.size w w')
    (h5 : ∀ w : World, Calls Tryz.prog 12 #[.agg (kvc x1 x2), .agg (kvc x1 x2)] w fun e w' => e = .returned (.tuple #[.agg (kvc y1 y2), .int .i64 0]) ∧ Below w.heap.size w w')
    (h6 : ∀ w : World, Calls Tryz.prog 26 #[.string left, .string left] w fun e w' => e = .returned (.tuple #[.string sum, .int .i64 0]) ∧ Below w.heap.size w w')
    (h7 : ∀ w : World, Calls Tryz.prog 25 #[.string sum, .string on] w fun e w' => e = .returned (.tuple #[.string q2, .string rest, .int .i64 0]) ∧ Below w.heap.size w w')
    (h8 : ∀ w : World, Calls Tryz.prog 17 #[.string rest, .agg (kvc p1 p2)] w fun e w' => e = .returned (.tuple #[.agg (kvc y1 y2), .int .i64 0]) ∧ Below w.heap.size w w')
    (h9 : ∀ w : World, Calls Tryz.prog 27 #[.string a, .string b] w fun e w' => e = .returned (.tuple #[.string ab, .int .i64 0]) ∧ Below w.heap.size w w')
    (h10 : ∀ w : World, Calls Tryz.prog 25 #[.string ab, .string on] w fun e w' => e = .returned (.tuple #[.string q3, .string left2, .int .i64 0]) ∧ Below w.heap.size w w')
    (h11 : ∀ w : World, Calls Tryz.prog 17 #[.string b, .agg (kvc x1 x2)] w fun e w' => e = .returned (.tuple #[.agg (kvc z1 z2), .int .i64 0]) ∧ Below w.heap.size w w')
    (h12 : ∀ w : World, Calls Tryz.prog 17 #[.string left2, .agg (kvc p1 p2)] w fun e w' => e = .returned (.tuple #[.agg (kvc z1 z2), .int .i64 0]) ∧ Below w.heap.size w w')
    : Calls Tryz.prog 8 #[.agg (kvc p1 p2), .string a, .string b] w fun e w' => e = .returned (.bool true) ∧ Below w.heap.size w w' := by
  have H0 := Lib.hid h0; have H1 := Lib.hid h1; have H2 := Lib.hid h2; have H3 := Lib.hid h3; have H4 := Lib.hid h4; have H5 := Lib.hid h5; have H6 := Lib.hid h6; have H7 := Lib.hid h7; have H8 := Lib.hid h8; have H9 := Lib.hid h9; have H10 := Lib.hid h10; have H11 := Lib.hid h11; have H12 := Lib.hid h12
  clear h0 h1 h2 h3 h4 h5 h6 h7 h8 h9 h10 h11 h12
  have hR0 := Rws.start w
  go_enter Tryz.func8, Tryz.ntmps8
  go_wp2_with (first | (refine wK_box rfl (by rfl) (by assumption) rfl ?_; intro gk w1 hR) | (refine wK_alloc rfl (by rfl) (by assumption) ?_; intro g0 w1 hR) | (refine wK_load rfl (by rfl) (by assumption) rfl (by repeat (first | exact List.Mem.head _ | refine List.Mem.tail _ ?_)) rfl ?_) | (refine wK_store rfl (by rfl) (by assumption) rfl rfl (by repeat (first | exact Pick.here | apply Pick.there)) (by rfl) (by rfl) (by exact kvc_cells _ _) ?_; intro w1 hR))
  refine (H0.out _).mono ?_
  rintro e w1 ⟨rfl, hb1⟩
  have hR := Rws.call (by assumption) hb1
  clear hb1
  go_wp2_with (first | (refine wK_box rfl (by rfl) (by assumption) rfl ?_; intro gk w1 hR) | (refine wK_alloc rfl (by rfl) (by assumption) ?_; intro g0 w1 hR) | (refine wK_load rfl (by rfl) (by assumption) rfl (by repeat (first | exact List.Mem.head _ | refine List.Mem.tail _ ?_)) rfl ?_) | (refine wK_store rfl (by rfl) (by assumption) rfl rfl (by repeat (first | exact Pick.here | apply Pick.there)) (by rfl) (by rfl) (by exact kvc_cells _ _) ?_; intro w1 hR))
  refine (H1.out _).mono ?_
  rintro e w1 ⟨rfl, hb1⟩
  have hR := Rws.call (by assumption) hb1
  clear hb1
  go_wp2_with (first | (refine wK_box rfl (by rfl) (by assumption) rfl ?_; intro gk w1 hR) | (refine wK_alloc rfl (by rfl) (by assumption) ?_; intro gx w1 hR) | (refine wK_load rfl (by rfl) (by assumption) rfl (by repeat (first | exact List.Mem.head _ | refine List.Mem.tail _ ?_)) rfl ?_) | (refine wK_store rfl (by rfl) (by assumption) rfl rfl (by repeat (first | exact Pick.here | apply Pick.there)) (by rfl) (by rfl) (by exact kvc_cells _ _) ?_; intro w1 hR))
  refine (H2.out _).mono ?_
  rintro e w1 ⟨rfl, hb1⟩
  have hR := Rws.call (by assumption) hb1
  clear hb1
  go_wp2_with (first | (refine wK_box rfl (by rfl) (by assumption) rfl ?_; intro gk w1 hR) | (refine wK_alloc rfl (by rfl) (by assumption) ?_; intro gx w1 hR) | (refine wK_load rfl (by rfl) (by assumption) rfl (by repeat (first | exact List.Mem.head _ | refine List.Mem.tail _ ?_)) rfl ?_) | (refine wK_store rfl (by rfl) (by assumption) rfl rfl (by repeat (first | exact Pick.here | apply Pick.there)) (by rfl) (by rfl) (by exact kvc_cells _ _) ?_; intro w1 hR))
  refine (H3.out _).mono ?_
  rintro e w1 ⟨rfl, hb1⟩
  have hR := Rws.call (by assumption) hb1
  clear hb1
  go_wp2_with (first | (refine wK_box rfl (by rfl) (by assumption) rfl ?_; intro gk w1 hR) | (refine wK_alloc rfl (by rfl) (by assumption) ?_; intro gx w1 hR) | (refine wK_load rfl (by rfl) (by assumption) rfl (by repeat (first | exact List.Mem.head _ | refine List.Mem.tail _ ?_)) rfl ?_) | (refine wK_store rfl (by rfl) (by assumption) rfl rfl (by repeat (first | exact Pick.here | apply Pick.there)) (by rfl) (by rfl) (by exact kvc_cells _ _) ?_; intro w1 hR))
  refine (H4.out _).mono ?_
  rintro e w1 ⟨rfl, hb1⟩
  have hR := Rws.call (by assumption) hb1
  clear hb1
  go_wp2_with (first | (refine wK_box rfl (by rfl) (by assumption) rfl ?_; intro gk w1 hR) | (refine wK_alloc rfl (by rfl) (by assumption) ?_; intro gy w1 hR) | (refine wK_load rfl (by rfl) (by assumption) rfl (by repeat (first | exact List.Mem.head _ | refine List.Mem.tail _ ?_)) rfl ?_) | (refine wK_store rfl (by rfl) (by assumption) rfl rfl (by repeat (first | exact Pick.here | apply Pick.there)) (by rfl) (by rfl) (by exact kvc_cells _ _) ?_; intro w1 hR))
  refine (H5.out _).mono ?_
  rintro e w1 ⟨rfl, hb1⟩
  have hR := Rws.call (by assumption) hb1
  clear hb1
  go_wp2_with (first | (refine wK_box rfl (by rfl) (by assumption) rfl ?_; intro gk w1 hR) | (refine wK_alloc rfl (by rfl) (by assumption) ?_; intro gt w1 hR) | (refine wK_load rfl (by rfl) (by assumption) rfl (by repeat (first | exact List.Mem.head _ | refine List.Mem.tail _ ?_)) rfl ?_) | (refine wK_store rfl (by rfl) (by assumption) rfl rfl (by repeat (first | exact Pick.here | apply Pick.there)) (by rfl) (by rfl) (by exact kvc_cells _ _) ?_; intro w1 hR))
  refine (H6.out _).mono ?_
  rintro e w1 ⟨rfl, hb1⟩
  have hR := Rws.call (by assumption) hb1
  clear hb1
  go_wp2_with (first | (refine wK_box rfl (by rfl) (by assumption) rfl ?_; intro gk w1 hR) | (refine wK_alloc rfl (by rfl) (by assumption) ?_; intro gt w1 hR) | (refine wK_load rfl (by rfl) (by assumption) rfl (by repeat (first | exact List.Mem.head _ | refine List.Mem.tail _ ?_)) rfl ?_) | (refine wK_store rfl (by rfl) (by assumption) rfl rfl (by repeat (first | exact Pick.here | apply Pick.there)) (by rfl) (by rfl) (by exact kvc_cells _ _) ?_; intro w1 hR))
  refine (H7.out _).mono ?_
  rintro e w1 ⟨rfl, hb1⟩
  have hR := Rws.call (by assumption) hb1
  clear hb1
  go_wp2_with (first | (refine wK_box rfl (by rfl) (by assumption) rfl ?_; intro gk w1 hR) | (refine wK_alloc rfl (by rfl) (by assumption) ?_; intro gt w1 hR) | (refine wK_load rfl (by rfl) (by assumption) rfl (by repeat (first | exact List.Mem.head _ | refine List.Mem.tail _ ?_)) rfl ?_) | (refine wK_store rfl (by rfl) (by assumption) rfl rfl (by repeat (first | exact Pick.here | apply Pick.there)) (by rfl) (by rfl) (by exact kvc_cells _ _) ?_; intro w1 hR))
  refine (H8.out _).mono ?_
  rintro e w1 ⟨rfl, hb1⟩
  have hR := Rws.call (by assumption) hb1
  clear hb1
  go_upto_region 15 with (first | (refine wK_box rfl (by rfl) (by assumption) rfl ?_; intro gk w1 hR) | (refine wK_alloc rfl (by rfl) (by assumption) ?_; intro gz w1 hR) | (refine wK_load rfl (by rfl) (by assumption) rfl (by repeat (first | exact List.Mem.head _ | refine List.Mem.tail _ ?_)) rfl ?_) | (refine wK_store rfl (by rfl) (by assumption) rfl rfl (by repeat (first | exact Pick.here | apply Pick.there)) (by rfl) (by rfl) (by exact kvc_cells _ _) ?_; intro w1 hR))
  have cgxa : w1.cell? ⟨gx, 0, none⟩ = some (.string x1) := cell_of_row w1 _ 0 _ _ _ (hR.row (gx, kvc x1 x2, 23) (by repeat (first | exact List.Mem.head _ | refine List.Mem.tail _ ?_))).2
  have cgxb : w1.cell? ⟨gx, 1, none⟩ = some (.string x2) := cell_of_row w1 _ 1 _ _ _ (hR.row (gx, kvc x1 x2, 23) (by repeat (first | exact List.Mem.head _ | refine List.Mem.tail _ ?_))).2
  have cgya : w1.cell? ⟨gy, 0, none⟩ = some (.string x1) := cell_of_row w1 _ 0 _ _ _ (hR.row (gy, kvc x1 x2, 23) (by repeat (first | exact List.Mem.head _ | refine List.Mem.tail _ ?_))).2
  have cgyb : w1.cell? ⟨gy, 1, none⟩ = some (.string x2) := cell_of_row w1 _ 1 _ _ _ (hR.row (gy, kvc x1 x2, 23) (by repeat (first | exact List.Mem.head _ | refine List.Mem.tail _ ?_))).2
  have cgta : w1.cell? ⟨gt, 0, none⟩ = some (.string y1) := cell_of_row w1 _ 0 _ _ _ (hR.row (gt, kvc y1 y2, 23) (by repeat (first | exact List.Mem.head _ | refine List.Mem.tail _ ?_))).2
  have cgtb : w1.cell? ⟨gt, 1, none⟩ = some (.string y2) := cell_of_row w1 _ 1 _ _ _ (hR.row (gt, kvc y1 y2, 23) (by repeat (first | exact List.Mem.head _ | refine List.Mem.tail _ ?_))).2
  have cgza : w1.cell? ⟨gz, 0, none⟩ = some (.string y1) := cell_of_row w1 _ 0 _ _ _ (hR.row (gz, kvc y1 y2, 23) (by repeat (first | exact List.Mem.head _ | refine List.Mem.tail _ ?_))).2
  have cgzb : w1.cell? ⟨gz, 1, none⟩ = some (.string y2) := cell_of_row w1 _ 1 _ _ _ (hR.row (gz, kvc y1 y2, 23) (by repeat (first | exact List.Mem.head _ | refine List.Mem.tail _ ?_))).2
  go_wp2_with fail
  refine (H9.out _).mono ?_
  rintro e w1 ⟨rfl, hb1⟩
  have hR := Rws.call (by assumption) hb1
  clear hb1
  clear cgxa cgxb cgya cgyb cgta cgtb cgza cgzb
  go_wp2_with (first | (refine wK_box rfl (by rfl) (by assumption) rfl ?_; intro gk w1 hR) | (refine wK_alloc rfl (by rfl) (by assumption) ?_; intro gz w1 hR) | (refine wK_load rfl (by rfl) (by assumption) rfl (by repeat (first | exact List.Mem.head _ | refine List.Mem.tail _ ?_)) rfl ?_) | (refine wK_store rfl (by rfl) (by assumption) rfl rfl (by repeat (first | exact Pick.here | apply Pick.there)) (by rfl) (by rfl) (by exact kvc_cells _ _) ?_; intro w1 hR))
  refine (H10.out _).mono ?_
  rintro e w1 ⟨rfl, hb1⟩
  have hR := Rws.call (by assumption) hb1
  clear hb1
  go_wp2_with (first | (refine wK_box rfl (by rfl) (by assumption) rfl ?_; intro gk w1 hR) | (refine wK_alloc rfl (by rfl) (by assumption) ?_; intro gz w1 hR) | (refine wK_load rfl (by rfl) (by assumption) rfl (by repeat (first | exact List.Mem.head _ | refine List.Mem.tail _ ?_)) rfl ?_) | (refine wK_store rfl (by rfl) (by assumption) rfl rfl (by repeat (first | exact Pick.here | apply Pick.there)) (by rfl) (by rfl) (by exact kvc_cells _ _) ?_; intro w1 hR))
  refine (H11.out _).mono ?_
  rintro e w1 ⟨rfl, hb1⟩
  have hR := Rws.call (by assumption) hb1
  clear hb1
  go_wp2_with (first | (refine wK_box rfl (by rfl) (by assumption) rfl ?_; intro gk w1 hR) | (refine wK_alloc rfl (by rfl) (by assumption) ?_; intro ga w1 hR) | (refine wK_load rfl (by rfl) (by assumption) rfl (by repeat (first | exact List.Mem.head _ | refine List.Mem.tail _ ?_)) rfl ?_) | (refine wK_store rfl (by rfl) (by assumption) rfl rfl (by repeat (first | exact Pick.here | apply Pick.there)) (by rfl) (by rfl) (by exact kvc_cells _ _) ?_; intro w1 hR))
  refine (H12.out _).mono ?_
  rintro e w1 ⟨rfl, hb1⟩
  have hR := Rws.call (by assumption) hb1
  clear hb1
  go_upto_region 21 with (first | (refine wK_box rfl (by rfl) (by assumption) rfl ?_; intro gk w1 hR) | (refine wK_alloc rfl (by rfl) (by assumption) ?_; intro gl w1 hR) | (refine wK_load rfl (by rfl) (by assumption) rfl (by repeat (first | exact List.Mem.head _ | refine List.Mem.tail _ ?_)) rfl ?_) | (refine wK_store rfl (by rfl) (by assumption) rfl rfl (by repeat (first | exact Pick.here | apply Pick.there)) (by rfl) (by rfl) (by exact kvc_cells _ _) ?_; intro w1 hR))
  have cgaa : w1.cell? ⟨ga, 0, none⟩ = some (.string z1) := cell_of_row w1 _ 0 _ _ _ (hR.row (ga, kvc z1 z2, 23) (by repeat (first | exact List.Mem.head _ | refine List.Mem.tail _ ?_))).2
  have cgab : w1.cell? ⟨ga, 1, none⟩ = some (.string z2) := cell_of_row w1 _ 1 _ _ _ (hR.row (ga, kvc z1 z2, 23) (by repeat (first | exact List.Mem.head _ | refine List.Mem.tail _ ?_))).2
  have cgla : w1.cell? ⟨gl, 0, none⟩ = some (.string z1) := cell_of_row w1 _ 0 _ _ _ (hR.row (gl, kvc z1 z2, 23) (by repeat (first | exact List.Mem.head _ | refine List.Mem.tail _ ?_))).2
  have cglb : w1.cell? ⟨gl, 1, none⟩ = some (.string z2) := cell_of_row w1 _ 1 _ _ _ (hR.row (gl, kvc z1 z2, 23) (by repeat (first | exact List.Mem.head _ | refine List.Mem.tail _ ?_))).2
  go_wp2_with fail
  go_ret
  exact ⟨rfl, Rws.below (by assumption)⟩

theorem times_in (n kx ky : ByteArray) (A : Ec.Pt Ec.P) (hn : n.size ≤ 32) (hA : inK kx ky = some A) (w : World) :
    Calls Tryz.prog 17 #[.string n, .agg (kvc kx ky)] w fun e w' => e = .returned (.tuple #[.agg (kvc (outK (Ec.nA A (nv n))).1 (outK (Ec.nA A (nv n))).2), .int .i64 0]) ∧ Below w.heap.size w w' := by
  have h := ecTimes_any n kx ky w
  have e : timesR n kx ky = (outK (Ec.nA A (nv n)), 0) := by
    unfold timesR
    rw [if_neg (by omega), hA]
    show (outK (Ec.mulN A (nv n)), 0) = _
    rw [Ec.mulN_nA (inK_on hA)]
  rw [e] at h
  exact h
theorem prod_size {x y k l : Nat} (hx : x < 256 ^ k) (hy : y < 256 ^ l) : x * y < 256 ^ (k + l) := by
  rw [Nat.pow_add]; exact Nat.mul_lt_mul'' hx hy

theorem law_any (p1 p2 a b : ByteArray) (w : World) (_h1 : p1.size ≤ 140737488351232) (_h2 : p2.size ≤ 140737488351232) (_ha : a.size ≤ 140737488351232) (_hb : b.size ≤ 140737488351232) :
    Calls Tryz.prog 8 #[.agg (kvc p1 p2), .string a, .string b] w fun e w' => e = .returned (.bool true) ∧ Below w.heap.size w w' := by
  by_cases hl : 32 < a.size
  · refine scalars_err51 a b p1 p2 w (decide_eq_true (by omega)) fixed_any fun w => ?_
    have h := ecTimes_any a p1 p2 w
    have e : timesR a p1 p2 = ((⟨#[]⟩, ⟨#[]⟩), 51) := by unfold timesR; rw [if_pos hl]
    rw [e] at h; exact h
  · cases hA : inK p1 p2 with
    | none =>
      refine scalars_err50 a b p1 p2 w (decide_eq_false (by omega)) fixed_any fun w => ?_
      have h := ecTimes_any a p1 p2 w
      have e : timesR a p1 p2 = ((⟨#[]⟩, ⟨#[]⟩), 50) := by unfold timesR; rw [if_neg hl, hA]
      rw [e] at h; exact h
    | some A =>
      have oA := inK_on hA
      by_cases hm : 32 < b.size
      · exact scalars_long a b p1 p2 _ _ w (by omega) fixed_any fun w => times_in a p1 p2 A (by omega) hA w
      · have hl2 : (tx (nv a % Ec.N)).size ≤ 32 := tx_le (mod_lt256 _)
        have hs : nv (tx (nv a % Ec.N + nv a % Ec.N)) = nv a % Ec.N + nv a % Ec.N := nv_tx _
        have hss : (tx (nv a % Ec.N + nv a % Ec.N)).size ≤ 33 := tx_le (sum_size (mod_lt256 _) (mod_lt256 _))
        have hp : nv (tx (nv a * nv b)) = nv a * nv b := nv_tx _
        have hps : (tx (nv a * nv b)).size ≤ a.size + b.size := tx_le (prod_size (nv_size a) (nv_size b))
        refine scalars_core a b p1 p2 (outK (Ec.nA A (nv a))).1 (outK (Ec.nA A (nv a))).2 (outK (Ec.addA (Ec.nA A (nv a)) (Ec.nA A (nv a)))).1 (outK (Ec.addA (Ec.nA A (nv a)) (Ec.nA A (nv a)))).2
          (outK (Ec.nA (Ec.nA A (nv a)) (nv b))).1 (outK (Ec.nA (Ec.nA A (nv a)) (nv b))).2 ⟨tn.toArray⟩ _ _ _ (tx (nv a % Ec.N)) (tx (nv a * nv b % Ec.N)) (tx (nv a % Ec.N + nv a % Ec.N)) (tx ((nv a % Ec.N + nv a % Ec.N) % Ec.N)) (tx (nv a * nv b)) w (by omega)
          fixed_any (fun w => times_in a p1 p2 A (by omega) hA w) order_ok (fun w => div_ok a ⟨tn.toArray⟩ (nv a) Ec.N w (by omega) (by decide) rfl nv_tn N_pos) ?_ (fun w => add_out _ _ (Ec.On.nA oA _) (Ec.On.nA oA _) w)
          (fun w => add_ok _ _ _ _ w (by omega) (by omega) (nv_tx _) (nv_tx _)) (fun w => div_ok _ ⟨tn.toArray⟩ _ Ec.N w (by omega) (by decide) hs nv_tn N_pos) ?_
          (fun w => mul_ok a b _ _ w (by omega) (by omega) rfl rfl) (fun w => div_ok _ ⟨tn.toArray⟩ _ Ec.N w (by omega) (by decide) hp nv_tn N_pos) (fun w => times_out b _ (by omega) (Ec.On.nA oA _) w) ?_
        · intro w
          have h := times_in (tx (nv a % Ec.N)) p1 p2 A hl2 hA w
          rw [nv_tx, ← Ec.nA_mod oA] at h
          exact h
        · intro w
          have h := times_in (tx ((nv a % Ec.N + nv a % Ec.N) % Ec.N)) p1 p2 A (tx_le (mod_lt256 _)) hA w
          rw [nv_tx, ← Ec.nA_mod oA, Ec.nA_add oA, ← Ec.nA_mod oA] at h
          exact h
        · intro w
          have h := times_in (tx (nv a * nv b % Ec.N)) p1 p2 A (tx_le (mod_lt256 _)) hA w
          rw [nv_tx, ← Ec.nA_mod oA, Ec.nA_mul oA] at h
          exact h
end Go.Proofs.YtaggpodckafbgaaGreatDoor
