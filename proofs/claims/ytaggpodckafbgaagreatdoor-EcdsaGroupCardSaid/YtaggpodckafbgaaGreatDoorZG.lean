/- EGroup EGroupLaw Post, in one text. -/
import Derived.Test.YtaggpodckafbgaaGreatDoorZT2
import Derived.Test.YtaggpodckafbgaaGreatDoorRows
import Derived.ProofKit
import Derived.OpenShut
import Derived.Below
import Derived.ChangeSame
/- EcdsaGroup: the walk. -/
namespace Go.Proofs.YtaggpodckafbgaaGreatDoor
open Go.RowKit

set_option maxRecDepth 100000 in
set_option maxHeartbeats 3200000 in
theorem group_core (a b c s on qt left oth p1 p2 q1 q2 r1 r2 u1 u2 v1 v2 x1 x2 k1 k2 : ByteArray) (w : World) (hl : (a.size : Int) + b.size + c.size ≤ 300)
    (h0 : (∀ w : World, Calls Tryz.prog 14 #[] w fun e w' => e = .returned (.bool true) ∧ Below w.heap.size w w'))
    (h1 : (∀ w : World, Calls Tryz.prog 28 #[.string a] w fun e w' => e = .returned (.tuple #[.agg (kvc p1 p2), .bool true]) ∧ Below w.heap.size w w'))
    (h2 : (∀ w : World, Calls Tryz.prog 28 #[.string b] w fun e w' => e = .returned (.tuple #[.agg (kvc q1 q2), .bool true]) ∧ Below w.heap.size w w'))
    (h3 : (∀ w : World, Calls Tryz.prog 28 #[.string c] w fun e w' => e = .returned (.tuple #[.agg (kvc r1 r2), .bool true]) ∧ Below w.heap.size w w'))
    (h4 : (∀ w : World, Calls Tryz.prog 26 #[.string a, .string b] w fun e w' => e = .returned (.tuple #[.string s, .int .i64 0]) ∧ Below w.heap.size w w'))
    (h5 : (∀ w : World, Calls Tryz.prog 28 #[.string s] w fun e w' => e = .returned (.tuple #[.agg (kvc u1 u2), .bool true]) ∧ Below w.heap.size w w'))
    (h6 : (∀ w : World, Calls Tryz.prog 12 #[.agg (kvc p1 p2), .agg (kvc q1 q2)] w fun e w' => e = .returned (.tuple #[.agg (kvc u1 u2), .int .i64 0]) ∧ Below w.heap.size w w'))
    (h7 : (∀ w : World, Calls Tryz.prog 12 #[.agg (kvc q1 q2), .agg (kvc p1 p2)] w fun e w' => e = .returned (.tuple #[.agg (kvc u1 u2), .int .i64 0]) ∧ Below w.heap.size w w'))
    (h8 : (∀ w : World, Calls Tryz.prog 12 #[.agg (kvc u1 u2), .agg (kvc r1 r2)] w fun e w' => e = .returned (.tuple #[.agg (kvc v1 v2), .int .i64 0]) ∧ Below w.heap.size w w'))
    (h9 : (∀ w : World, Calls Tryz.prog 12 #[.agg (kvc q1 q2), .agg (kvc r1 r2)] w fun e w' => e = .returned (.tuple #[.agg (kvc x1 x2), .int .i64 0]) ∧ Below w.heap.size w w'))
    (h10 : (∀ w : World, Calls Tryz.prog 12 #[.agg (kvc p1 p2), .agg (kvc x1 x2)] w fun e w' => e = .returned (.tuple #[.agg (kvc v1 v2), .int .i64 0]) ∧ Below w.heap.size w w'))
    (h11 : (∀ w : World, Calls Tryz.prog 21 #[] w fun e w' => e = .returned (.string on) ∧ Below w.heap.size w w'))
    (h12 : (∀ w : World, Calls Tryz.prog 25 #[.string a, .string on] w fun e w' => e = .returned (.tuple #[.string qt, .string left, .int .i64 0]) ∧ Below w.heap.size w w'))
    (h13 : (∀ w : World, Calls Tryz.prog 22 #[.string on, .string left] w fun e w' => e = .returned (.tuple #[.string oth, .int .i64 0]) ∧ Below w.heap.size w w'))
    (h14 : (∀ w : World, Calls Tryz.prog 28 #[.string oth] w fun e w' => e = .returned (.tuple #[.agg (kvc k1 k2), .bool true]) ∧ Below w.heap.size w w'))
    (h15 : (∀ w : World, Calls Tryz.prog 12 #[.agg (kvc p1 p2), .agg (kvc k1 k2)] w fun e w' => e = .returned (.tuple #[.agg zkey, .int .i64 0]) ∧ Below w.heap.size w w'))
    : Calls Tryz.prog 9 #[.string a, .string b, .string c] w fun e w' => e = .returned (.bool true) ∧ Below w.heap.size w w' := by
  have H0 := Lib.hid h0; have H1 := Lib.hid h1; have H2 := Lib.hid h2; have H3 := Lib.hid h3; have H4 := Lib.hid h4; have H5 := Lib.hid h5; have H6 := Lib.hid h6; have H7 := Lib.hid h7; have H8 := Lib.hid h8; have H9 := Lib.hid h9; have H10 := Lib.hid h10; have H11 := Lib.hid h11; have H12 := Lib.hid h12; have H13 := Lib.hid h13; have H14 := Lib.hid h14; have H15 := Lib.hid h15
  clear h0 h1 h2 h3 h4 h5 h6 h7 h8 h9 h10 h11 h12 h13 h14 h15
  have hR0 := Rws.start w
  go_enter Tryz.func9, Tryz.ntmps9
  go_wp2_with (first | (refine wK_box rfl (by rfl) (by assumption) rfl ?_; intro gk w1 hR) | (refine wK_alloc rfl (by rfl) (by assumption) ?_; intro g0 w1 hR) | (refine wK_load rfl (by rfl) (by assumption) rfl (by repeat (first | exact List.Mem.head _ | refine List.Mem.tail _ ?_)) rfl ?_) | (refine wK_store rfl (by rfl) (by assumption) rfl rfl (by repeat (first | exact Pick.here | apply Pick.there)) (by rfl) (by rfl) (by exact kvc_cells _ _) ?_; intro w1 hR))
  refine (H0.out _).mono ?_
  rintro e w1 ⟨rfl, hb1⟩
  have hR := Rws.call (by assumption) hb1
  clear hb1
  go_wp2_with (first | (refine wK_box rfl (by rfl) (by assumption) rfl ?_; intro gk w1 hR) | (refine wK_alloc rfl (by rfl) (by assumption) ?_; intro g0 w1 hR) | (refine wK_load rfl (by rfl) (by assumption) rfl (by repeat (first | exact List.Mem.head _ | refine List.Mem.tail _ ?_)) rfl ?_) | (refine wK_store rfl (by rfl) (by assumption) rfl rfl (by repeat (first | exact Pick.here | apply Pick.there)) (by rfl) (by rfl) (by exact kvc_cells _ _) ?_; intro w1 hR))
  refine (H1.out _).mono ?_
  rintro e w1 ⟨rfl, hb1⟩
  have hR := Rws.call (by assumption) hb1
  clear hb1
  go_wp2_with (first | (refine wK_box rfl (by rfl) (by assumption) rfl ?_; intro gk w1 hR) | (refine wK_alloc rfl (by rfl) (by assumption) ?_; intro g1 w1 hR) | (refine wK_load rfl (by rfl) (by assumption) rfl (by repeat (first | exact List.Mem.head _ | refine List.Mem.tail _ ?_)) rfl ?_) | (refine wK_store rfl (by rfl) (by assumption) rfl rfl (by repeat (first | exact Pick.here | apply Pick.there)) (by rfl) (by rfl) (by exact kvc_cells _ _) ?_; intro w1 hR))
  refine (H2.out _).mono ?_
  rintro e w1 ⟨rfl, hb1⟩
  have hR := Rws.call (by assumption) hb1
  clear hb1
  go_wp2_with (first | (refine wK_box rfl (by rfl) (by assumption) rfl ?_; intro gk w1 hR) | (refine wK_alloc rfl (by rfl) (by assumption) ?_; intro g2 w1 hR) | (refine wK_load rfl (by rfl) (by assumption) rfl (by repeat (first | exact List.Mem.head _ | refine List.Mem.tail _ ?_)) rfl ?_) | (refine wK_store rfl (by rfl) (by assumption) rfl rfl (by repeat (first | exact Pick.here | apply Pick.there)) (by rfl) (by rfl) (by exact kvc_cells _ _) ?_; intro w1 hR))
  refine (H3.out _).mono ?_
  rintro e w1 ⟨rfl, hb1⟩
  have hR := Rws.call (by assumption) hb1
  clear hb1
  go_wp2_with (first | (refine wK_box rfl (by rfl) (by assumption) rfl ?_; intro gk w1 hR) | (refine wK_alloc rfl (by rfl) (by assumption) ?_; intro g3 w1 hR) | (refine wK_load rfl (by rfl) (by assumption) rfl (by repeat (first | exact List.Mem.head _ | refine List.Mem.tail _ ?_)) rfl ?_) | (refine wK_store rfl (by rfl) (by assumption) rfl rfl (by repeat (first | exact Pick.here | apply Pick.there)) (by rfl) (by rfl) (by exact kvc_cells _ _) ?_; intro w1 hR))
  refine (H4.out _).mono ?_
  rintro e w1 ⟨rfl, hb1⟩
  have hR := Rws.call (by assumption) hb1
  clear hb1
  go_wp2_with (first | (refine wK_box rfl (by rfl) (by assumption) rfl ?_; intro gk w1 hR) | (refine wK_alloc rfl (by rfl) (by assumption) ?_; intro g4 w1 hR) | (refine wK_load rfl (by rfl) (by assumption) rfl (by repeat (first | exact List.Mem.head _ | refine List.Mem.tail _ ?_)) rfl ?_) | (refine wK_store rfl (by rfl) (by assumption) rfl rfl (by repeat (first | exact Pick.here | apply Pick.there)) (by rfl) (by rfl) (by exact kvc_cells _ _) ?_; intro w1 hR))
  refine (H5.out _).mono ?_
  rintro e w1 ⟨rfl, hb1⟩
  have hR := Rws.call (by assumption) hb1
  clear hb1
  go_wp2_with (first | (refine wK_box rfl (by rfl) (by assumption) rfl ?_; intro gk w1 hR) | (refine wK_alloc rfl (by rfl) (by assumption) ?_; intro g5 w1 hR) | (refine wK_load rfl (by rfl) (by assumption) rfl (by repeat (first | exact List.Mem.head _ | refine List.Mem.tail _ ?_)) rfl ?_) | (refine wK_store rfl (by rfl) (by assumption) rfl rfl (by repeat (first | exact Pick.here | apply Pick.there)) (by rfl) (by rfl) (by exact kvc_cells _ _) ?_; intro w1 hR))
  refine (H6.out _).mono ?_
  rintro e w1 ⟨rfl, hb1⟩
  have hR := Rws.call (by assumption) hb1
  clear hb1
  go_wp2_with (first | (refine wK_box rfl (by rfl) (by assumption) rfl ?_; intro gk w1 hR) | (refine wK_alloc rfl (by rfl) (by assumption) ?_; intro g6 w1 hR) | (refine wK_load rfl (by rfl) (by assumption) rfl (by repeat (first | exact List.Mem.head _ | refine List.Mem.tail _ ?_)) rfl ?_) | (refine wK_store rfl (by rfl) (by assumption) rfl rfl (by repeat (first | exact Pick.here | apply Pick.there)) (by rfl) (by rfl) (by exact kvc_cells _ _) ?_; intro w1 hR))
  refine (H7.out _).mono ?_
  rintro e w1 ⟨rfl, hb1⟩
  have hR := Rws.call (by assumption) hb1
  clear hb1
  go_wp2_with (first | (refine wK_box rfl (by rfl) (by assumption) rfl ?_; intro gk w1 hR) | (refine wK_alloc rfl (by rfl) (by assumption) ?_; intro g7 w1 hR) | (refine wK_load rfl (by rfl) (by assumption) rfl (by repeat (first | exact List.Mem.head _ | refine List.Mem.tail _ ?_)) rfl ?_) | (refine wK_store rfl (by rfl) (by assumption) rfl rfl (by repeat (first | exact Pick.here | apply Pick.there)) (by rfl) (by rfl) (by exact kvc_cells _ _) ?_; intro w1 hR))
  refine (H8.out _).mono ?_
  rintro e w1 ⟨rfl, hb1⟩
  have hR := Rws.call (by assumption) hb1
  clear hb1
  go_wp2_with (first | (refine wK_box rfl (by rfl) (by assumption) rfl ?_; intro gk w1 hR) | (refine wK_alloc rfl (by rfl) (by assumption) ?_; intro g8 w1 hR) | (refine wK_load rfl (by rfl) (by assumption) rfl (by repeat (first | exact List.Mem.head _ | refine List.Mem.tail _ ?_)) rfl ?_) | (refine wK_store rfl (by rfl) (by assumption) rfl rfl (by repeat (first | exact Pick.here | apply Pick.there)) (by rfl) (by rfl) (by exact kvc_cells _ _) ?_; intro w1 hR))
  refine (H9.out _).mono ?_
  rintro e w1 ⟨rfl, hb1⟩
  have hR := Rws.call (by assumption) hb1
  clear hb1
  go_wp2_with (first | (refine wK_box rfl (by rfl) (by assumption) rfl ?_; intro gk w1 hR) | (refine wK_alloc rfl (by rfl) (by assumption) ?_; intro g9 w1 hR) | (refine wK_load rfl (by rfl) (by assumption) rfl (by repeat (first | exact List.Mem.head _ | refine List.Mem.tail _ ?_)) rfl ?_) | (refine wK_store rfl (by rfl) (by assumption) rfl rfl (by repeat (first | exact Pick.here | apply Pick.there)) (by rfl) (by rfl) (by exact kvc_cells _ _) ?_; intro w1 hR))
  refine (H10.out _).mono ?_
  rintro e w1 ⟨rfl, hb1⟩
  have hR := Rws.call (by assumption) hb1
  clear hb1
  go_upto_region 15 with (first | (refine wK_box rfl (by rfl) (by assumption) rfl ?_; intro gk w1 hR) | (refine wK_alloc rfl (by rfl) (by assumption) ?_; intro g10 w1 hR) | (refine wK_load rfl (by rfl) (by assumption) rfl (by repeat (first | exact List.Mem.head _ | refine List.Mem.tail _ ?_)) rfl ?_) | (refine wK_store rfl (by rfl) (by assumption) rfl rfl (by repeat (first | exact Pick.here | apply Pick.there)) (by rfl) (by rfl) (by exact kvc_cells _ _) ?_; intro w1 hR))
  have cg50 : w1.cell? ⟨g5, 0, none⟩ = some (.string u1) := cell_of_row w1 _ 0 _ _ _ (hR.row (g5, kvc u1 u2, 23) (by repeat (first | exact List.Mem.head _ | refine List.Mem.tail _ ?_))).2
  have cg51 : w1.cell? ⟨g5, 1, none⟩ = some (.string u2) := cell_of_row w1 _ 1 _ _ _ (hR.row (g5, kvc u1 u2, 23) (by repeat (first | exact List.Mem.head _ | refine List.Mem.tail _ ?_))).2
  have cg60 : w1.cell? ⟨g6, 0, none⟩ = some (.string u1) := cell_of_row w1 _ 0 _ _ _ (hR.row (g6, kvc u1 u2, 23) (by repeat (first | exact List.Mem.head _ | refine List.Mem.tail _ ?_))).2
  have cg61 : w1.cell? ⟨g6, 1, none⟩ = some (.string u2) := cell_of_row w1 _ 1 _ _ _ (hR.row (g6, kvc u1 u2, 23) (by repeat (first | exact List.Mem.head _ | refine List.Mem.tail _ ?_))).2
  have cg70 : w1.cell? ⟨g7, 0, none⟩ = some (.string u1) := cell_of_row w1 _ 0 _ _ _ (hR.row (g7, kvc u1 u2, 23) (by repeat (first | exact List.Mem.head _ | refine List.Mem.tail _ ?_))).2
  have cg71 : w1.cell? ⟨g7, 1, none⟩ = some (.string u2) := cell_of_row w1 _ 1 _ _ _ (hR.row (g7, kvc u1 u2, 23) (by repeat (first | exact List.Mem.head _ | refine List.Mem.tail _ ?_))).2
  have cg80 : w1.cell? ⟨g8, 0, none⟩ = some (.string v1) := cell_of_row w1 _ 0 _ _ _ (hR.row (g8, kvc v1 v2, 23) (by repeat (first | exact List.Mem.head _ | refine List.Mem.tail _ ?_))).2
  have cg81 : w1.cell? ⟨g8, 1, none⟩ = some (.string v2) := cell_of_row w1 _ 1 _ _ _ (hR.row (g8, kvc v1 v2, 23) (by repeat (first | exact List.Mem.head _ | refine List.Mem.tail _ ?_))).2
  have cg100 : w1.cell? ⟨g10, 0, none⟩ = some (.string v1) := cell_of_row w1 _ 0 _ _ _ (hR.row (g10, kvc v1 v2, 23) (by repeat (first | exact List.Mem.head _ | refine List.Mem.tail _ ?_))).2
  have cg101 : w1.cell? ⟨g10, 1, none⟩ = some (.string v2) := cell_of_row w1 _ 1 _ _ _ (hR.row (g10, kvc v1 v2, 23) (by repeat (first | exact List.Mem.head _ | refine List.Mem.tail _ ?_))).2
  go_wp2_with fail
  refine (H11.out _).mono ?_
  rintro e w1 ⟨rfl, hb1⟩
  have hR := Rws.call (by assumption) hb1
  clear hb1 cg50 cg51 cg60 cg61 cg70 cg71 cg80 cg81 cg100 cg101
  go_wp2_with (first | (refine wK_box rfl (by rfl) (by assumption) rfl ?_; intro gk w1 hR) | (refine wK_alloc rfl (by rfl) (by assumption) ?_; intro g11 w1 hR) | (refine wK_load rfl (by rfl) (by assumption) rfl (by repeat (first | exact List.Mem.head _ | refine List.Mem.tail _ ?_)) rfl ?_) | (refine wK_store rfl (by rfl) (by assumption) rfl rfl (by repeat (first | exact Pick.here | apply Pick.there)) (by rfl) (by rfl) (by exact kvc_cells _ _) ?_; intro w1 hR))
  refine (H12.out _).mono ?_
  rintro e w1 ⟨rfl, hb1⟩
  have hR := Rws.call (by assumption) hb1
  clear hb1
  go_wp2_with (first | (refine wK_box rfl (by rfl) (by assumption) rfl ?_; intro gk w1 hR) | (refine wK_alloc rfl (by rfl) (by assumption) ?_; intro g12 w1 hR) | (refine wK_load rfl (by rfl) (by assumption) rfl (by repeat (first | exact List.Mem.head _ | refine List.Mem.tail _ ?_)) rfl ?_) | (refine wK_store rfl (by rfl) (by assumption) rfl rfl (by repeat (first | exact Pick.here | apply Pick.there)) (by rfl) (by rfl) (by exact kvc_cells _ _) ?_; intro w1 hR))
  refine (H11.out _).mono ?_
  rintro e w1 ⟨rfl, hb1⟩
  have hR := Rws.call (by assumption) hb1
  clear hb1
  go_wp2_with (first | (refine wK_box rfl (by rfl) (by assumption) rfl ?_; intro gk w1 hR) | (refine wK_alloc rfl (by rfl) (by assumption) ?_; intro g12 w1 hR) | (refine wK_load rfl (by rfl) (by assumption) rfl (by repeat (first | exact List.Mem.head _ | refine List.Mem.tail _ ?_)) rfl ?_) | (refine wK_store rfl (by rfl) (by assumption) rfl rfl (by repeat (first | exact Pick.here | apply Pick.there)) (by rfl) (by rfl) (by exact kvc_cells _ _) ?_; intro w1 hR))
  refine (H13.out _).mono ?_
  rintro e w1 ⟨rfl, hb1⟩
  have hR := Rws.call (by assumption) hb1
  clear hb1
  go_wp2_with (first | (refine wK_box rfl (by rfl) (by assumption) rfl ?_; intro gk w1 hR) | (refine wK_alloc rfl (by rfl) (by assumption) ?_; intro g13 w1 hR) | (refine wK_load rfl (by rfl) (by assumption) rfl (by repeat (first | exact List.Mem.head _ | refine List.Mem.tail _ ?_)) rfl ?_) | (refine wK_store rfl (by rfl) (by assumption) rfl rfl (by repeat (first | exact Pick.here | apply Pick.there)) (by rfl) (by rfl) (by exact kvc_cells _ _) ?_; intro w1 hR))
  refine (H14.out _).mono ?_
  rintro e w1 ⟨rfl, hb1⟩
  have hR := Rws.call (by assumption) hb1
  clear hb1
  go_wp2_with (first | (refine wK_box rfl (by rfl) (by assumption) rfl ?_; intro gk w1 hR) | (refine wK_alloc rfl (by rfl) (by assumption) ?_; intro g14 w1 hR) | (refine wK_load rfl (by rfl) (by assumption) rfl (by repeat (first | exact List.Mem.head _ | refine List.Mem.tail _ ?_)) rfl ?_) | (refine wK_store rfl (by rfl) (by assumption) rfl rfl (by repeat (first | exact Pick.here | apply Pick.there)) (by rfl) (by rfl) (by exact kvc_cells _ _) ?_; intro w1 hR))
  refine (H15.out _).mono ?_
  rintro e w1 ⟨rfl, hb1⟩
  have hR := Rws.call (by assumption) hb1
  clear hb1
  go_upto_region 21 with (first | (refine wK_box rfl (by rfl) (by assumption) rfl ?_; intro gk w1 hR) | (refine wK_alloc rfl (by rfl) (by assumption) ?_; intro g15 w1 hR) | (refine wK_load rfl (by rfl) (by assumption) rfl (by repeat (first | exact List.Mem.head _ | refine List.Mem.tail _ ?_)) rfl ?_) | (refine wK_store rfl (by rfl) (by assumption) rfl rfl (by repeat (first | exact Pick.here | apply Pick.there)) (by rfl) (by rfl) (by exact kvc_cells _ _) ?_; intro w1 hR))
  have cg150 : w1.cell? ⟨g15, 0, none⟩ = some (.string ⟨#[]⟩) := cell_of_row w1 _ 0 _ _ _ (hR.row (g15, kvc ⟨#[]⟩ ⟨#[]⟩, 23) (by repeat (first | exact List.Mem.head _ | refine List.Mem.tail _ ?_))).2
  have cg151 : w1.cell? ⟨g15, 1, none⟩ = some (.string ⟨#[]⟩) := cell_of_row w1 _ 1 _ _ _ (hR.row (g15, kvc ⟨#[]⟩ ⟨#[]⟩, 23) (by repeat (first | exact List.Mem.head _ | refine List.Mem.tail _ ?_))).2
  go_wp2_with fail
  go_ret
  exact ⟨rfl, Rws.below (by assumption)⟩
end Go.Proofs.YtaggpodckafbgaaGreatDoor
/- EcdsaGroup: for every input true. -/
namespace Go.Proofs.YtaggpodckafbgaaGreatDoor
open Go.RowKit

theorem nv_tn : nv ⟨tn.toArray⟩ = Ec.N := by rw [← out_N]; exact nv_pb (by decide)
theorem order_ok (w : World) : Calls Tryz.prog 21 #[] w fun e w' => e = .returned (.string ⟨tn.toArray⟩) ∧ Below w.heap.size w w' := by
  have h := order_any w; rw [out_N] at h; exact h
theorem base_ok (w : World) : Calls Tryz.prog 41 #[] w fun e w' => e = .returned (.agg (kvc (outK Ec.G).1 (outK Ec.G).2)) ∧ Below w.heap.size w w' := base_any w
theorem N_pos : 0 < Ec.N := by decide
theorem mod_lt256 (a : Nat) : a % Ec.N < 256 ^ 32 := Nat.lt_of_lt_of_le (Nat.mod_lt _ N_pos) (by decide)

/-- A multiple of a point that is one. -/
theorem times_out (n : ByteArray) (A : Ec.Pt Ec.P) (hn : n.size ≤ 32) (oA : A.on Ec.cb) (w : World) :
    Calls Tryz.prog 17 #[.string n, .agg (kvc (outK A).1 (outK A).2)] w fun e w' => e = .returned (.tuple #[.agg (kvc (outK (Ec.nA A (nv n))).1 (outK (Ec.nA A (nv n))).2), .int .i64 0]) ∧ Below w.heap.size w w' := by
  have h := ecTimes_any n (outK A).1 (outK A).2 w
  have e : timesR n (outK A).1 (outK A).2 = (outK (Ec.nA A (nv n)), 0) := by
    unfold timesR
    rw [if_neg (by omega), inK_out oA]
    show (outK (Ec.mulN A (nv n)), 0) = _
    rw [Ec.mulN_nA oA]
  rw [e] at h
  exact h
theorem add_out (A B : Ec.Pt Ec.P) (oA : A.on Ec.cb) (oB : B.on Ec.cb) (w : World) :
    Calls Tryz.prog 12 #[.agg (kvc (outK A).1 (outK A).2), .agg (kvc (outK B).1 (outK B).2)] w fun e w' => e = .returned (.tuple #[.agg (kvc (outK (Ec.addA A B)).1 (outK (Ec.addA A B)).2), .int .i64 0]) ∧ Below w.heap.size w w' := by
  have h := ecAdd_any (outK A).1 (outK A).2 (outK B).1 (outK B).2 w
  have e : addR (outK A).1 (outK A).2 (outK B).1 (outK B).2 = (outK (Ec.addA A B), 0) := by
    unfold addR
    rw [inK_out oA, inK_out oB]
  rw [e] at h
  exact h

/-- A multiple of the base point. -/
theorem multiple_ok (s : ByteArray) (hs : s.size ≤ 512) (w : World) :
    Calls Tryz.prog 28 #[.string s] w fun e w' => e = .returned (.tuple #[.agg (kvc (outK (Ec.nA Ec.G (nv s))).1 (outK (Ec.nA Ec.G (nv s))).2), .bool true]) ∧ Below w.heap.size w w' := by
  refine multiple_core s (tx (nv s % Ec.N)) ⟨tn.toArray⟩ (outK Ec.G).1 (outK Ec.G).2 _ _ (tx (nv s / Ec.N)) w order_ok (fun w => div_ok s ⟨tn.toArray⟩ (nv s) Ec.N w hs (by decide) rfl nv_tn N_pos) base_ok ?_
  intro w
  have h := times_out (tx (nv s % Ec.N)) Ec.G (tx_le (mod_lt256 _)) Ec.G_on w
  rw [nv_tx, ← Ec.nA_mod Ec.G_on] at h
  exact h

theorem sum_size {x y k : Nat} (hx : x < 256 ^ k) (hy : y < 256 ^ k) : x + y < 256 ^ (k + 1) := by
  rw [Nat.pow_succ]; omega
set_option maxRecDepth 100000 in
theorem len_long (a b c : ByteArray) (h : 300 < a.size + b.size + c.size) (ha : a.size ≤ 140737488351232) (hb : b.size ≤ 140737488351232) (hc : c.size ≤ 140737488351232) (w : World) :
    Calls Tryz.prog 9 #[.string a, .string b, .string c] w fun e w' => e = .returned (.bool true) ∧ Below w.heap.size w w' := by
  have h' : ¬ (a.size : Int) + b.size + c.size ≤ 300 := by omega
  go_enter Tryz.func9, Tryz.ntmps9
  go_wp2_with fail
  refine (fixed_any _).mono ?_
  rintro e w1 ⟨rfl, hb1⟩
  go_wp2_with fail
  go_ret
  exact ⟨rfl, hb1⟩

theorem law_any (a b c : ByteArray) (w : World) (ha : a.size ≤ 140737488351232) (hb : b.size ≤ 140737488351232) (hc : c.size ≤ 140737488351232) :
    Calls Tryz.prog 9 #[.string a, .string b, .string c] w fun e w' => e = .returned (.bool true) ∧ Below w.heap.size w w' := by
  by_cases hl : 300 < a.size + b.size + c.size
  · exact len_long a b c hl ha hb hc w
  · have ga := Ec.On.nA Ec.G_on (nv a)
    have gb := Ec.On.nA Ec.G_on (nv b)
    have gc := Ec.On.nA Ec.G_on (nv c)
    have es : nv (tx (nv a + nv b)) = nv a + nv b := nv_tx _
    have hs : (tx (nv a + nv b)).size ≤ 512 := by
      have h3 : ∀ k, k = 300 → nv a + nv b < 256 ^ (k + 1) := fun k hk => sum_size (Nat.lt_of_lt_of_le (nv_size a) (Nat.pow_le_pow_right (by omega) (by omega))) (Nat.lt_of_lt_of_le (nv_size b) (Nat.pow_le_pow_right (by omega) (by omega)))
      exact Nat.le_trans (tx_le (h3 300 rfl)) (by omega)
    have ho : nv (tx (Ec.N - nv a % Ec.N)) = Ec.N - nv a % Ec.N := nv_tx _
    have hos : (tx (Ec.N - nv a % Ec.N)).size ≤ 512 := Nat.le_trans (tx_le (k := 32) (Nat.lt_of_le_of_lt (Nat.sub_le _ _) (by decide))) (by omega)
    have hneg : Ec.nA Ec.G (Ec.N - nv a % Ec.N) = (Ec.nA Ec.G (nv a)).neg := by
      rw [Ec.nA_mod Ec.G_on (nv a), Ec.nA_neg Ec.G_on (Nat.le_of_lt (Nat.mod_lt _ N_pos))]
    refine group_core a b c (tx (nv a + nv b)) ⟨tn.toArray⟩ (tx (nv a / Ec.N)) (tx (nv a % Ec.N)) (tx (Ec.N - nv a % Ec.N))
      (outK (Ec.nA Ec.G (nv a))).1 (outK (Ec.nA Ec.G (nv a))).2 (outK (Ec.nA Ec.G (nv b))).1 (outK (Ec.nA Ec.G (nv b))).2 (outK (Ec.nA Ec.G (nv c))).1 (outK (Ec.nA Ec.G (nv c))).2
      (outK (Ec.addA (Ec.nA Ec.G (nv a)) (Ec.nA Ec.G (nv b)))).1 (outK (Ec.addA (Ec.nA Ec.G (nv a)) (Ec.nA Ec.G (nv b)))).2
      (outK (Ec.addA (Ec.addA (Ec.nA Ec.G (nv a)) (Ec.nA Ec.G (nv b))) (Ec.nA Ec.G (nv c)))).1 (outK (Ec.addA (Ec.addA (Ec.nA Ec.G (nv a)) (Ec.nA Ec.G (nv b))) (Ec.nA Ec.G (nv c)))).2
      (outK (Ec.addA (Ec.nA Ec.G (nv b)) (Ec.nA Ec.G (nv c)))).1 (outK (Ec.addA (Ec.nA Ec.G (nv b)) (Ec.nA Ec.G (nv c)))).2
      (outK (Ec.nA Ec.G (nv a)).neg).1 (outK (Ec.nA Ec.G (nv a)).neg).2 w (by omega) fixed_any
      (fun w => multiple_ok a (by omega) w) (fun w => multiple_ok b (by omega) w) (fun w => multiple_ok c (by omega) w)
      (fun w => add_ok a b _ _ w (by omega) (by omega) rfl rfl) ?_ (fun w => add_out _ _ ga gb w) ?_ (fun w => add_out _ _ (Ec.On.add ga gb) gc w) (fun w => add_out _ _ gb gc w) ?_
      order_ok (fun w => div_ok a ⟨tn.toArray⟩ (nv a) Ec.N w (by omega) (by decide) rfl nv_tn N_pos) (fun w => sub_ok ⟨tn.toArray⟩ _ Ec.N (nv a % Ec.N) w (by decide) (Nat.le_trans (tx_le (mod_lt256 _)) (by omega)) nv_tn (nv_tx _) (Nat.le_of_lt (Nat.mod_lt _ N_pos))) ?_ ?_
    · intro w
      have h := multiple_ok _ hs w
      rw [es, Ec.nA_add Ec.G_on] at h
      exact h
    · intro w
      have h := add_out _ _ gb ga w
      rw [Ec.on_comm gb ga] at h
      exact h
    · intro w
      have h := add_out _ _ ga (Ec.On.add gb gc) w
      rw [← Ec.on_assoc ga gb gc] at h
      exact h
    · intro w
      have h := multiple_ok _ hos w
      rw [ho, hneg] at h
      exact h
    · intro w
      have h := add_out _ _ ga (Ec.On.neg ga) w
      rw [Ec.addA_neg] at h
      exact h
end Go.Proofs.YtaggpodckafbgaaGreatDoor
/- A row's last step where nothing that was there has changed, and nothing is said of a second reading. -/
namespace Go.Proofs.YtaggpodckafbgaaGreatDoor
open Go.ChangeShapes Go.WideShapes Go.ChangeAt Go.RowKit

theorem post_new {H : Type} {enc : TypeId × Value → H} {P : Program} {f : Func} {s : ChangeSpec} {apart fresh handsOn : Bool} {W W' : World} {args : Array Value} {v : Value} {ds gs : List (DataW H)} {before pa pv : List MemPlace}
    (hW : DataW.Whole enc P f.params.toList s.vars apart W args.toList ds gs before) (hb : Below W.heap.size W W') (hps : before = pa ++ pv)
    (hres : ∀ (b : Nat) (sp : Nat → Bool) (hd : Bool), DataW.TrodAll enc P W' b sp hd f.resultTypes.toList (v.resultList f.resultTypes.size) (s.fn H (ds ++ gs)).results [])
    (hargs : ∀ sp : Nat → Bool, (∀ p ∈ before, sp p.block = true) → DataW.TrodAll enc P W' 0 sp true f.params.toList args.toList (s.fn H (ds ++ gs)).args pa)
    (hvars : ∀ sp : Nat → Bool, (∀ p ∈ before, sp p.block = true) → DataW.TrodVars enc P W' sp s.vars (s.fn H (ds ++ gs)).vars pv) :
    s.post enc P f apart fresh handsOn false W args v W' := by
  have hin : ∀ p ∈ before, (fun b => decide (b < W.heap.size)) p.block = true := fun p hp => decide_eq_true (hW.lt p hp)
  refine ⟨ds, gs, before, [], pa, pv, hW, hres _ _ _, hargs _ hin, hvars _ hin, World.keptBut_mono (fun p hp => ⟨hp, Or.inr ?_⟩) (hb.frame (· ∈ before)), fun h => by cases h⟩
  rw [hps, List.mem_append] at hp
  exact hp
end Go.Proofs.YtaggpodckafbgaaGreatDoor
