/- Verify: what it answers where all is fine. -/
import Derived.Test.YtaggpodckafbgaaGreatDoorZV1
import Derived.Test.YtaggpodckafbgaaGreatDoorZECheck
import Derived.Test.YtaggpodckafbgaaGreatDoorZA0
namespace Go.Proofs.YtaggpodckafbgaaGreatDoor
open Go.RowKit
theorem run_neqs {P : Program} {t : TypeId} (a b : ByteArray) (w : World) : (binOp .neq t (.string a) (.string b)).run P w = .ok (.bool (!(a.toList == b.toList))) w := by
  simp [binOp, Op.stringOp]
set_option maxRecDepth 100000 in
set_option maxHeartbeats 3200000 in
theorem verify_yes (kx ky s sig bx b_y h ox oy : ByteArray) (j1 j2 j3 j4 j5 : Ec.Jac Ec.P) (r t i n rm tm hv u v : Nat) (xv xm : Nat) (q : Bool) (w : World) (hl : sig.size = 64) (hrl : r < 115792089237316195423570985008687907853269984665640564039457584007913129639936) (htl : t < 115792089237316195423570985008687907853269984665640564039457584007913129639936) (hrm : rm < 115792089237316195423570985008687907853269984665640564039457584007913129639936) (htm : tm < 115792089237316195423570985008687907853269984665640564039457584007913129639936) (hc1 : decide (r = 0) = false) (hc2 : (!decide (rm = r)) = false) (hc3 : (!decide (tm = t)) = false) (hne : (!(ox.toList == (⟨#[]⟩ : ByteArray).toList)) = true) (hxm : xm < 115792089237316195423570985008687907853269984665640564039457584007913129639936) (hq : decide (xm = r) = q)
    (h1 : ∀ w : World, Calls Tryz.prog 11 #[.agg (kvc kx ky)] w fun e w' => e = .returned (.int .i64 0) ∧ Below w.heap.size w w')
    (h2 : ∀ w : World, Calls Tryz.prog 45 #[.string (sig.extract 0 32)] w fun e w' => e = .returned (.agg (nmc r)) ∧ Below w.heap.size w w')
    (h3 : ∀ w : World, Calls Tryz.prog 45 #[.string (sig.extract 32 sig.size)] w fun e w' => e = .returned (.agg (nmc t)) ∧ Below w.heap.size w w')
    (h4 : ∀ w : World, Calls Tryz.prog 47 #[.int .i64 1, .agg (nmc t)] w fun e w' => e = .returned (.tuple #[.agg (nmc i), .bool true]) ∧ Below w.heap.size w w')
    (h5 : ∀ w : World, Calls Tryz.prog 49 #[.int .i64 1] w fun e w' => e = .returned (.agg (nmc n)) ∧ Below w.heap.size w w')
    (h6 : ∀ w : World, Calls Tryz.prog 48 #[.agg (nmc r), .agg (nmc n)] w fun e w' => e = .returned (.agg (nmc rm)) ∧ Below w.heap.size w w')
    (h7 : ∀ w : World, Calls Tryz.prog 48 #[.agg (nmc t), .agg (nmc n)] w fun e w' => e = .returned (.agg (nmc tm)) ∧ Below w.heap.size w w')
    (h8 : ∀ w : World, Calls Tryz.prog 41 #[] w fun e w' => e = .returned (.agg (kvc bx b_y)) ∧ Below w.heap.size w w')
    (h9 : ∀ w : World, Calls Tryz.prog 31 #[.agg (kvc bx b_y)] w fun e w' => e = .returned (.tuple #[.agg (jv j1), .bool true]) ∧ Below w.heap.size w w')
    (h10 : ∀ w : World, Calls Tryz.prog 31 #[.agg (kvc kx ky)] w fun e w' => e = .returned (.tuple #[.agg (jv j2), .bool true]) ∧ Below w.heap.size w w')
    (h11 : ∀ w : World, Calls Tryz.prog 29 #[.string s] w fun e w' => e = .returned (.string h) ∧ Below w.heap.size w w')
    (h12 : ∀ w : World, Calls Tryz.prog 45 #[.string h] w fun e w' => e = .returned (.agg (nmc hv)) ∧ Below w.heap.size w w')
    (h13 : ∀ w : World, Calls Tryz.prog 50 #[.int .i64 1, .agg (nmc hv), .agg (nmc i)] w fun e w' => e = .returned (.agg (nmc u)) ∧ Below w.heap.size w w')
    (h14 : ∀ w : World, Calls Tryz.prog 44 #[.agg (jv j1), .agg (nmc u)] w fun e w' => e = .returned (.agg (jv j3)) ∧ Below w.heap.size w w')
    (h15 : ∀ w : World, Calls Tryz.prog 50 #[.int .i64 1, .agg (nmc r), .agg (nmc i)] w fun e w' => e = .returned (.agg (nmc v)) ∧ Below w.heap.size w w')
    (h16 : ∀ w : World, Calls Tryz.prog 44 #[.agg (jv j2), .agg (nmc v)] w fun e w' => e = .returned (.agg (jv j4)) ∧ Below w.heap.size w w')
    (h17 : ∀ w : World, Calls Tryz.prog 32 #[.agg (jv j3), .agg (jv j4)] w fun e w' => e = .returned (.agg (jv j5)) ∧ Below w.heap.size w w')
    (h18 : ∀ w : World, Calls Tryz.prog 33 #[.agg (jv j5)] w fun e w' => e = .returned (.agg (kvc ox oy)) ∧ Below w.heap.size w w')
    (h19 : ∀ w : World, Calls Tryz.prog 45 #[.string ox] w fun e w' => e = .returned (.agg (nmc xv)) ∧ Below w.heap.size w w')
    (h20 : ∀ w : World, Calls Tryz.prog 48 #[.agg (nmc xv), .agg (nmc n)] w fun e w' => e = .returned (.agg (nmc xm)) ∧ Below w.heap.size w w') :
    Calls Tryz.prog 19 #[.agg (kvc kx ky), .string s, .string sig] w fun e w' => e = .returned (.bool q) ∧ Below w.heap.size w w' := by
  have HNE := Lib.hid hne; have HXM := Lib.hid hxm; have HQ := Lib.hid hq
  clear hne hxm hq
  have HRL := Lib.hid hrl; have HTL := Lib.hid htl; have HRM := Lib.hid hrm; have HTM := Lib.hid htm; have HC1 := Lib.hid hc1; have HC2 := Lib.hid hc2; have HC3 := Lib.hid hc3; 
  have H1 := Lib.hid h1; have H2 := Lib.hid h2; have H3 := Lib.hid h3; have H4 := Lib.hid h4; have H5 := Lib.hid h5; have H6 := Lib.hid h6; have H7 := Lib.hid h7; have H8 := Lib.hid h8; have H9 := Lib.hid h9; have H10 := Lib.hid h10; have H11 := Lib.hid h11; have H12 := Lib.hid h12; have H13 := Lib.hid h13; have H14 := Lib.hid h14; have H15 := Lib.hid h15; have H16 := Lib.hid h16; have H17 := Lib.hid h17; have H18 := Lib.hid h18; have H19 := Lib.hid h19; have H20 := Lib.hid h20
  have hs1 : ∀ w : World, (Instr.sliceAt 9 (.string sig) none (some (.int .i64 ((32 : Nat) : Int))) none).run Tryz.prog w = .ok (.string (sig.extract 0 32)) w := run_cutS_h Tryz.underlying9 (by omega)
  have hs2 : ∀ w : World, (Instr.sliceAt 9 (.string sig) (some (.int .i64 ((32 : Nat) : Int))) none none).run Tryz.prog w = .ok (.string (sig.extract 32 sig.size)) w := run_cutS_l Tryz.underlying9 (by omega)
  have HS1 := Lib.hid hs1; have HS2 := Lib.hid hs2
  clear h1 h2 h3 h4 h5 h6 h7 h8 h9 h10 h11 h12 h13 h14 h15 h16 h17 h18 h19 h20
  clear hs1 hs2 hrl htl hrm htm hc1 hc2 hc3
  have hsz : (sig.size : Int) = 64 := by omega
  have hR0 := Rws.start w
  go_enter Tryz.func19, Tryz.ntmps19
  go_upto_region 3 with (first
    | (refine wK_box rfl (by rfl) (by assumption) rfl ?_; intro gk w1 hR)
    | (refine wK_alloc rfl (by rfl) (by assumption) ?_; intro go w1 hR)
    | (refine wP_alloc rfl (by rfl) (by assumption) ?_; intro gp w1 hR)
    | (refine wN_alloc rfl (by rfl) (by assumption) ?_; intro gn w1 hR)
    | (refine wK_load rfl (by rfl) (by assumption) rfl (by repeat (first | exact pzH | refine pzM ?_)) rfl ?_)
    | (refine wN_load rfl (by rfl) (by assumption) rfl (by repeat (first | exact pzH | refine pzM ?_)) rfl ?_)
    | (refine wK_store rfl (by rfl) (by assumption) rfl rfl (by repeat (first | exact Pick.here | apply Pick.there)) (by rfl) (by rfl) (by exact kvc_cells _ _) ?_; intro w1 hR)
    | (refine wN_store rfl (by rfl) (by assumption) rfl rfl (by repeat (first | exact Pick.here | apply Pick.there)) rfl rfl (by exact nmc_cells _) ?_; intro w1 hR)
    | (refine wP_store rfl (by rfl) (by assumption) rfl rfl (by repeat (first | exact Pick.here | apply Pick.there)) (by rfl) (by exact jv_size _) (by exact jv_cells _) ?_; intro w1 hR)
    | (go_at_call 11; refine (H1.out _).mono ?_; rintro e w1 ⟨rfl, hb1⟩; have hR := Rws.call (by assumption) hb1))
  clear hsz
  refine wp_region_calm 8 (by kernel_rfl) (by kernel_rfl) (by assumption) ?_
  refine lexC_move (by rfl) rfl ?_
  simp only [Act.put, pzT, pzA, pzB]
  refine lexC_cutv (by rfl) rfl rfl rfl HS1.out ?_
  simp only [Act.put, pzT, pzA, pzB]
  refine lexC_call rfl Tryz.func45 (by kernel_rfl) rfl rfl (fun w _ => H2.out w) ?_
  simp only [Act.put, pzT, pzA, pzB]
  refine lexC_move (by rfl) rfl ?_
  simp only [Act.put, pzT, pzA, pzB]
  refine lexC_cutv (by rfl) rfl rfl rfl HS2.out ?_
  simp only [Act.put, pzT, pzA, pzB]
  refine lexC_call rfl Tryz.func45 (by kernel_rfl) rfl rfl (fun w _ => H3.out w) ?_
  iterate 2 ((simp only [Act.put, pzT, pzA, pzB]); (refine lexC_alloc (by rfl) ?_))
  simp only [Act.put, pzT, pzA, pzB]
  refine lexC_zero ?_; simp only [pzC, pzD, pzE, pzF]; (repeat (first | (refine aN_cons (by rfl) ?_; intro g; simp only [Act.put, pzT, pzA, pzB]) | (refine afterAl_skip (by rfl) ?_))); refine afterAl_nil ?_; intro w1 hR
  go_upto_region 4 with (first
    | (refine wK_box rfl (by rfl) (by assumption) rfl ?_; intro gk w1 hR)
    | (refine wK_alloc rfl (by rfl) (by assumption) ?_; intro go w1 hR)
    | (refine wP_alloc rfl (by rfl) (by assumption) ?_; intro gp w1 hR)
    | (refine wN_alloc rfl (by rfl) (by assumption) ?_; intro gn w1 hR)
    | (refine wK_load rfl (by rfl) (by assumption) rfl (by repeat (first | exact pzH | refine pzM ?_)) rfl ?_)
    | (refine wN_load rfl (by rfl) (by assumption) rfl (by repeat (first | exact pzH | refine pzM ?_)) rfl ?_)
    | (refine wK_store rfl (by rfl) (by assumption) rfl rfl (by repeat (first | exact Pick.here | apply Pick.there)) (by rfl) (by rfl) (by exact kvc_cells _ _) ?_; intro w1 hR)
    | (refine wN_store rfl (by rfl) (by assumption) rfl rfl (by repeat (first | exact Pick.here | apply Pick.there)) rfl rfl (by exact nmc_cells _) ?_; intro w1 hR)
    | (refine wP_store rfl (by rfl) (by assumption) rfl rfl (by repeat (first | exact Pick.here | apply Pick.there)) (by rfl) (by exact jv_size _) (by exact jv_cells _) ?_; intro w1 hR))
  go_upto_region 5 with (first
    | (refine wK_box rfl (by rfl) (by assumption) rfl ?_; intro gk w1 hR)
    | (refine wK_alloc rfl (by rfl) (by assumption) ?_; intro go w1 hR)
    | (refine wP_alloc rfl (by rfl) (by assumption) ?_; intro gp w1 hR)
    | (refine wN_alloc rfl (by rfl) (by assumption) ?_; intro gn w1 hR)
    | (refine wK_load rfl (by rfl) (by assumption) rfl (by repeat (first | exact pzH | refine pzM ?_)) rfl ?_)
    | (refine wN_load rfl (by rfl) (by assumption) rfl (by repeat (first | exact pzH | refine pzM ?_)) rfl ?_)
    | (refine wK_store rfl (by rfl) (by assumption) rfl rfl (by repeat (first | exact Pick.here | apply Pick.there)) (by rfl) (by rfl) (by exact kvc_cells _ _) ?_; intro w1 hR)
    | (refine wN_store rfl (by rfl) (by assumption) rfl rfl (by repeat (first | exact Pick.here | apply Pick.there)) rfl rfl (by exact nmc_cells _) ?_; intro w1 hR)
    | (refine wP_store rfl (by rfl) (by assumption) rfl rfl (by repeat (first | exact Pick.here | apply Pick.there)) (by rfl) (by exact jv_size _) (by exact jv_cells _) ?_; intro w1 hR)
    | (go_at_call 47; refine (H4.out _).mono ?_; rintro e w1 ⟨rfl, hb1⟩; have hR := Rws.call (by assumption) hb1))
  refine wp_region_calm 20 (by kernel_rfl) (by kernel_rfl) (by assumption) ?_
  refine cN_load (by rfl) rfl (by repeat (first | exact pzH | refine pzM ?_)) rfl ?_
  simp only [Act.put, pzT, pzA, pzB]
  refine lexC_build (cs := nmc 0) (by rfl) (by kernel_rfl) ?_
  simp only [Act.put, pzT, pzA, pzB]
  refine cN_eq (b := false) (by rfl) rfl rfl HRL.out (by decide) HC1.out ?_
  simp only [Act.put, pzT, pzA, pzB]
  refine lexC_move (v := .bool false) (by rfl) rfl ?_
  simp only [Act.put, pzT, pzA, pzB]
  refine lexC_move (v := .bool true) (by rfl) rfl ?_
  simp only [Act.put, pzT, pzA, pzB]
  refine lexC_un (r := .bool false) (by rfl) rfl (fun _ => rfl) ?_
  simp only [Act.put, pzT, pzA, pzB]
  refine c_pickF (v := .bool false) (by rfl) rfl rfl ?_
  simp only [Act.put, pzT, pzA, pzB]
  refine lexC_move (v := .bool false) (by rfl) rfl ?_
  simp only [Act.put, pzT, pzA, pzB]
  refine cN_load (by rfl) rfl (by repeat (first | exact pzH | refine pzM ?_)) rfl ?_
  simp only [Act.put, pzT, pzA, pzB]
  refine lexC_call rfl Tryz.func49 (by kernel_rfl) rfl rfl (fun w _ => H5.out w) ?_
  simp only [Act.put, pzT, pzA, pzB]
  refine lexC_call rfl Tryz.func48 (by kernel_rfl) rfl rfl (fun w _ => H6.out w) ?_
  simp only [Act.put, pzT, pzA, pzB]
  refine cN_load (by rfl) rfl (by repeat (first | exact pzH | refine pzM ?_)) rfl ?_
  simp only [Act.put, pzT, pzA, pzB]
  refine cN_ne (b := false) (by rfl) rfl rfl HRM.out HRL.out HC2.out ?_
  simp only [Act.put, pzT, pzA, pzB]
  refine c_pickF (v := .bool false) (by rfl) rfl rfl ?_
  simp only [Act.put, pzT, pzA, pzB]
  refine lexC_move (v := .bool false) (by rfl) rfl ?_
  simp only [Act.put, pzT, pzA, pzB]
  refine cN_load (by rfl) rfl (by repeat (first | exact pzH | refine pzM ?_)) rfl ?_
  simp only [Act.put, pzT, pzA, pzB]
  refine lexC_call rfl Tryz.func49 (by kernel_rfl) rfl rfl (fun w _ => H5.out w) ?_
  simp only [Act.put, pzT, pzA, pzB]
  refine lexC_call rfl Tryz.func48 (by kernel_rfl) rfl rfl (fun w _ => H7.out w) ?_
  simp only [Act.put, pzT, pzA, pzB]
  refine cN_load (by rfl) rfl (by repeat (first | exact pzH | refine pzM ?_)) rfl ?_
  simp only [Act.put, pzT, pzA, pzB]
  refine cN_ne (b := false) (by rfl) rfl rfl HTM.out HTL.out HC3.out ?_
  simp only [Act.put, pzT, pzA, pzB]
  refine lexC_zero ?_; simp only [pzC, pzD, pzE, pzF]; (repeat (first | (refine aN_cons (by rfl) ?_; intro g; simp only [Act.put, pzT, pzA, pzB]) | (refine afterAl_skip (by rfl) ?_))); refine afterAl_nil ?_; intro w1 hR
  go_upto_region 7 with (fail)
  go_upto_region 8 with (first
    | (refine wK_box rfl (by rfl) (by assumption) rfl ?_; intro gk w1 hR)
    | (refine wK_alloc rfl (by rfl) (by assumption) ?_; intro go w1 hR)
    | (refine wP_alloc rfl (by rfl) (by assumption) ?_; intro gp w1 hR)
    | (refine wN_alloc rfl (by rfl) (by assumption) ?_; intro gn w1 hR)
    | (refine wK_load rfl (by rfl) (by assumption) rfl (by repeat (first | exact pzH | refine pzM ?_)) rfl ?_)
    | (refine wN_load rfl (by rfl) (by assumption) rfl (by repeat (first | exact pzH | refine pzM ?_)) rfl ?_)
    | (refine wK_store rfl (by rfl) (by assumption) rfl rfl (by repeat (first | exact Pick.here | apply Pick.there)) (by rfl) (by rfl) (by exact kvc_cells _ _) ?_; intro w1 hR)
    | (refine wN_store rfl (by rfl) (by assumption) rfl rfl (by repeat (first | exact Pick.here | apply Pick.there)) rfl rfl (by exact nmc_cells _) ?_; intro w1 hR)
    | (refine wP_store rfl (by rfl) (by assumption) rfl rfl (by repeat (first | exact Pick.here | apply Pick.there)) (by rfl) (by exact jv_size _) (by exact jv_cells _) ?_; intro w1 hR)
    | (go_at_call 41; refine (H8.out _).mono ?_; rintro e w1 ⟨rfl, hb1⟩; have hR := Rws.call (by assumption) hb1)
    | (go_at_call 31; refine (H9.out _).mono ?_; rintro e w1 ⟨rfl, hb1⟩; have hR := Rws.call (by assumption) hb1))
  go_upto_region 9 with (first
    | (refine wK_box rfl (by rfl) (by assumption) rfl ?_; intro gk w1 hR)
    | (refine wK_alloc rfl (by rfl) (by assumption) ?_; intro go w1 hR)
    | (refine wP_alloc rfl (by rfl) (by assumption) ?_; intro gp w1 hR)
    | (refine wN_alloc rfl (by rfl) (by assumption) ?_; intro gn w1 hR)
    | (refine wK_load rfl (by rfl) (by assumption) rfl (by repeat (first | exact pzH | refine pzM ?_)) rfl ?_)
    | (refine wN_load rfl (by rfl) (by assumption) rfl (by repeat (first | exact pzH | refine pzM ?_)) rfl ?_)
    | (refine wK_store rfl (by rfl) (by assumption) rfl rfl (by repeat (first | exact Pick.here | apply Pick.there)) (by rfl) (by rfl) (by exact kvc_cells _ _) ?_; intro w1 hR)
    | (refine wN_store rfl (by rfl) (by assumption) rfl rfl (by repeat (first | exact Pick.here | apply Pick.there)) rfl rfl (by exact nmc_cells _) ?_; intro w1 hR)
    | (refine wP_store rfl (by rfl) (by assumption) rfl rfl (by repeat (first | exact Pick.here | apply Pick.there)) (by rfl) (by exact jv_size _) (by exact jv_cells _) ?_; intro w1 hR)
    | (go_at_call 31; refine (H10.out _).mono ?_; rintro e w1 ⟨rfl, hb1⟩; have hR := Rws.call (by assumption) hb1))
  refine wp_region_calm 15 (by kernel_rfl) (by kernel_rfl) (by assumption) ?_
  refine cP_loadAll (by rfl) rfl (by repeat (first | exact pzH | refine pzM ?_)) (by exact jv_size _) ?_
  simp only [Act.put, pzT, pzA, pzB]
  refine lexC_move (by rfl) rfl ?_
  simp only [Act.put, pzT, pzA, pzB]
  refine lexC_call rfl Tryz.func29 (by kernel_rfl) rfl rfl (fun w _ => H11.out w) ?_
  simp only [Act.put, pzT, pzA, pzB]
  refine lexC_call rfl Tryz.func45 (by kernel_rfl) rfl rfl (fun w _ => H12.out w) ?_
  simp only [Act.put, pzT, pzA, pzB]
  refine cN_load (by rfl) rfl (by repeat (first | exact pzH | refine pzM ?_)) rfl ?_
  simp only [Act.put, pzT, pzA, pzB]
  refine lexC_call rfl Tryz.func50 (by kernel_rfl) rfl rfl (fun w _ => H13.out w) ?_
  simp only [Act.put, pzT, pzA, pzB]
  refine lexC_call rfl Tryz.func44 (by kernel_rfl) rfl rfl (fun w _ => H14.out w) ?_
  simp only [Act.put, pzT, pzA, pzB]
  refine cP_loadAll (by rfl) rfl (by repeat (first | exact pzH | refine pzM ?_)) (by exact jv_size _) ?_
  iterate 2 ((simp only [Act.put, pzT, pzA, pzB]); (refine cN_load (by rfl) rfl (by repeat (first | exact pzH | refine pzM ?_)) rfl ?_))
  simp only [Act.put, pzT, pzA, pzB]
  refine lexC_call rfl Tryz.func50 (by kernel_rfl) rfl rfl (fun w _ => H15.out w) ?_
  simp only [Act.put, pzT, pzA, pzB]
  refine lexC_call rfl Tryz.func44 (by kernel_rfl) rfl rfl (fun w _ => H16.out w) ?_
  simp only [Act.put, pzT, pzA, pzB]
  refine lexC_call rfl Tryz.func32 (by kernel_rfl) rfl rfl (fun w _ => H17.out w) ?_
  simp only [Act.put, pzT, pzA, pzB]
  refine lexC_call rfl Tryz.func33 (by kernel_rfl) rfl rfl (fun w _ => H18.out w) ?_
  simp only [Act.put, pzT, pzA, pzB]
  refine lexC_alloc (by rfl) ?_
  simp only [Act.put, pzT, pzA, pzB]
  refine lexC_zero ?_; simp only [pzC, pzD, pzE, pzF]; (repeat (first | (refine afterAl_cons (by rfl) zero_key rfl ?_; intro go; simp only [Act.put, pzT, pzA, pzB]) | (refine afterAl_skip (by rfl) ?_))); refine afterAl_nil ?_; intro w1 hR
  go_upto_region 10 with (first
    | (refine wK_box rfl (by rfl) (by assumption) rfl ?_; intro gk w1 hR)
    | (refine wK_alloc rfl (by rfl) (by assumption) ?_; intro go w1 hR)
    | (refine wP_alloc rfl (by rfl) (by assumption) ?_; intro gp w1 hR)
    | (refine wN_alloc rfl (by rfl) (by assumption) ?_; intro gn w1 hR)
    | (refine wK_load rfl (by rfl) (by assumption) rfl (by repeat (first | exact pzH | refine pzM ?_)) rfl ?_)
    | (refine wN_load rfl (by rfl) (by assumption) rfl (by repeat (first | exact pzH | refine pzM ?_)) rfl ?_)
    | (refine wK_store rfl (by rfl) (by assumption) rfl rfl (by repeat (first | exact Pick.here | apply Pick.there)) (by rfl) (by rfl) (by exact kvc_cells _ _) ?_; intro w1 hR)
    | (refine wN_store rfl (by rfl) (by assumption) rfl rfl (by repeat (first | exact Pick.here | apply Pick.there)) rfl rfl (by exact nmc_cells _) ?_; intro w1 hR)
    | (refine wP_store rfl (by rfl) (by assumption) rfl rfl (by repeat (first | exact Pick.here | apply Pick.there)) (by rfl) (by exact jv_size _) (by exact jv_cells _) ?_; intro w1 hR))
  refine wp_region_calm 12 (by kernel_rfl) (by kernel_rfl) (by assumption) ?_
  refine cK_f0 (by rfl) rfl ?_
  simp only [Act.put, pzT, pzA, pzB]
  refine cK_s0 (by rfl) rfl (by repeat (first | exact pzH | refine pzM ?_)) ?_
  simp only [Act.put, pzT, pzA, pzB]
  refine lexC_bin (u := .string ox) (v := .string ⟨#[]⟩) (r := .bool true) (by rfl) rfl rfl (fun w => by rw [run_neqs, HNE.out]) (fun _ => rfl) ?_
  simp only [Act.put, pzT, pzA, pzB]
  refine lexC_move (v := .bool true) (by rfl) rfl ?_
  simp only [Act.put, pzT, pzA, pzB]
  refine cK_f0 (by rfl) rfl ?_
  simp only [Act.put, pzT, pzA, pzB]
  refine cK_s0 (by rfl) rfl (by repeat (first | exact pzH | refine pzM ?_)) ?_
  simp only [Act.put, pzT, pzA, pzB]
  refine lexC_call rfl Tryz.func45 (by kernel_rfl) rfl rfl (fun w _ => H19.out w) ?_
  simp only [Act.put, pzT, pzA, pzB]
  refine lexC_call rfl Tryz.func49 (by kernel_rfl) rfl rfl (fun w _ => H5.out w) ?_
  simp only [Act.put, pzT, pzA, pzB]
  refine lexC_call rfl Tryz.func48 (by kernel_rfl) rfl rfl (fun w _ => H20.out w) ?_
  simp only [Act.put, pzT, pzA, pzB]
  refine cN_load (by rfl) rfl (by repeat (first | exact pzH | refine pzM ?_)) rfl ?_
  simp only [Act.put, pzT, pzA, pzB]
  refine cN_eq (b := q) (by rfl) rfl rfl HXM.out HRL.out HQ.out ?_
  simp only [Act.put, pzT, pzA, pzB]
  refine c_pickT (v := .bool q) (by rfl) rfl rfl ?_
  simp only [Act.put, pzT, pzA, pzB]
  refine lexC_zero ?_; simp only [pzC, pzD, pzE, pzF]; (repeat (first | (refine aN_cons (by rfl) ?_; intro g; simp only [Act.put, pzT, pzA, pzB]) | (refine afterAl_skip (by rfl) ?_))); refine afterAl_nil ?_; intro w1 hR
  go_wp2_with fail
  go_ret
  exact ⟨rfl, hR.below⟩
set_option maxRecDepth 100000 in
set_option maxHeartbeats 3200000 in
theorem verify_far (kx ky s sig bx b_y h ox oy : ByteArray) (j1 j2 j3 j4 j5 : Ec.Jac Ec.P) (r t i n rm tm hv u v : Nat) (w : World) (hl : sig.size = 64) (hrl : r < 115792089237316195423570985008687907853269984665640564039457584007913129639936) (htl : t < 115792089237316195423570985008687907853269984665640564039457584007913129639936) (hrm : rm < 115792089237316195423570985008687907853269984665640564039457584007913129639936) (htm : tm < 115792089237316195423570985008687907853269984665640564039457584007913129639936) (hc1 : decide (r = 0) = false) (hc2 : (!decide (rm = r)) = false) (hc3 : (!decide (tm = t)) = false) (hne : (!(ox.toList == (⟨#[]⟩ : ByteArray).toList)) = false) 
    (h1 : ∀ w : World, Calls Tryz.prog 11 #[.agg (kvc kx ky)] w fun e w' => e = .returned (.int .i64 0) ∧ Below w.heap.size w w')
    (h2 : ∀ w : World, Calls Tryz.prog 45 #[.string (sig.extract 0 32)] w fun e w' => e = .returned (.agg (nmc r)) ∧ Below w.heap.size w w')
    (h3 : ∀ w : World, Calls Tryz.prog 45 #[.string (sig.extract 32 sig.size)] w fun e w' => e = .returned (.agg (nmc t)) ∧ Below w.heap.size w w')
    (h4 : ∀ w : World, Calls Tryz.prog 47 #[.int .i64 1, .agg (nmc t)] w fun e w' => e = .returned (.tuple #[.agg (nmc i), .bool true]) ∧ Below w.heap.size w w')
    (h5 : ∀ w : World, Calls Tryz.prog 49 #[.int .i64 1] w fun e w' => e = .returned (.agg (nmc n)) ∧ Below w.heap.size w w')
    (h6 : ∀ w : World, Calls Tryz.prog 48 #[.agg (nmc r), .agg (nmc n)] w fun e w' => e = .returned (.agg (nmc rm)) ∧ Below w.heap.size w w')
    (h7 : ∀ w : World, Calls Tryz.prog 48 #[.agg (nmc t), .agg (nmc n)] w fun e w' => e = .returned (.agg (nmc tm)) ∧ Below w.heap.size w w')
    (h8 : ∀ w : World, Calls Tryz.prog 41 #[] w fun e w' => e = .returned (.agg (kvc bx b_y)) ∧ Below w.heap.size w w')
    (h9 : ∀ w : World, Calls Tryz.prog 31 #[.agg (kvc bx b_y)] w fun e w' => e = .returned (.tuple #[.agg (jv j1), .bool true]) ∧ Below w.heap.size w w')
    (h10 : ∀ w : World, Calls Tryz.prog 31 #[.agg (kvc kx ky)] w fun e w' => e = .returned (.tuple #[.agg (jv j2), .bool true]) ∧ Below w.heap.size w w')
    (h11 : ∀ w : World, Calls Tryz.prog 29 #[.string s] w fun e w' => e = .returned (.string h) ∧ Below w.heap.size w w')
    (h12 : ∀ w : World, Calls Tryz.prog 45 #[.string h] w fun e w' => e = .returned (.agg (nmc hv)) ∧ Below w.heap.size w w')
    (h13 : ∀ w : World, Calls Tryz.prog 50 #[.int .i64 1, .agg (nmc hv), .agg (nmc i)] w fun e w' => e = .returned (.agg (nmc u)) ∧ Below w.heap.size w w')
    (h14 : ∀ w : World, Calls Tryz.prog 44 #[.agg (jv j1), .agg (nmc u)] w fun e w' => e = .returned (.agg (jv j3)) ∧ Below w.heap.size w w')
    (h15 : ∀ w : World, Calls Tryz.prog 50 #[.int .i64 1, .agg (nmc r), .agg (nmc i)] w fun e w' => e = .returned (.agg (nmc v)) ∧ Below w.heap.size w w')
    (h16 : ∀ w : World, Calls Tryz.prog 44 #[.agg (jv j2), .agg (nmc v)] w fun e w' => e = .returned (.agg (jv j4)) ∧ Below w.heap.size w w')
    (h17 : ∀ w : World, Calls Tryz.prog 32 #[.agg (jv j3), .agg (jv j4)] w fun e w' => e = .returned (.agg (jv j5)) ∧ Below w.heap.size w w')
    (h18 : ∀ w : World, Calls Tryz.prog 33 #[.agg (jv j5)] w fun e w' => e = .returned (.agg (kvc ox oy)) ∧ Below w.heap.size w w') :
    Calls Tryz.prog 19 #[.agg (kvc kx ky), .string s, .string sig] w fun e w' => e = .returned (.bool false) ∧ Below w.heap.size w w' := by
  have HNE := Lib.hid hne
  clear hne 
  have HRL := Lib.hid hrl; have HTL := Lib.hid htl; have HRM := Lib.hid hrm; have HTM := Lib.hid htm; have HC1 := Lib.hid hc1; have HC2 := Lib.hid hc2; have HC3 := Lib.hid hc3; 
  have H1 := Lib.hid h1; have H2 := Lib.hid h2; have H3 := Lib.hid h3; have H4 := Lib.hid h4; have H5 := Lib.hid h5; have H6 := Lib.hid h6; have H7 := Lib.hid h7; have H8 := Lib.hid h8; have H9 := Lib.hid h9; have H10 := Lib.hid h10; have H11 := Lib.hid h11; have H12 := Lib.hid h12; have H13 := Lib.hid h13; have H14 := Lib.hid h14; have H15 := Lib.hid h15; have H16 := Lib.hid h16; have H17 := Lib.hid h17; have H18 := Lib.hid h18
  have hs1 : ∀ w : World, (Instr.sliceAt 9 (.string sig) none (some (.int .i64 ((32 : Nat) : Int))) none).run Tryz.prog w = .ok (.string (sig.extract 0 32)) w := run_cutS_h Tryz.underlying9 (by omega)
  have hs2 : ∀ w : World, (Instr.sliceAt 9 (.string sig) (some (.int .i64 ((32 : Nat) : Int))) none none).run Tryz.prog w = .ok (.string (sig.extract 32 sig.size)) w := run_cutS_l Tryz.underlying9 (by omega)
  have HS1 := Lib.hid hs1; have HS2 := Lib.hid hs2
  clear h1 h2 h3 h4 h5 h6 h7 h8 h9 h10 h11 h12 h13 h14 h15 h16 h17 h18
  clear hs1 hs2 hrl htl hrm htm hc1 hc2 hc3
  have hsz : (sig.size : Int) = 64 := by omega
  have hR0 := Rws.start w
  go_enter Tryz.func19, Tryz.ntmps19
  go_upto_region 3 with (first
    | (refine wK_box rfl (by rfl) (by assumption) rfl ?_; intro gk w1 hR)
    | (refine wK_alloc rfl (by rfl) (by assumption) ?_; intro go w1 hR)
    | (refine wP_alloc rfl (by rfl) (by assumption) ?_; intro gp w1 hR)
    | (refine wN_alloc rfl (by rfl) (by assumption) ?_; intro gn w1 hR)
    | (refine wK_load rfl (by rfl) (by assumption) rfl (by repeat (first | exact pzH | refine pzM ?_)) rfl ?_)
    | (refine wN_load rfl (by rfl) (by assumption) rfl (by repeat (first | exact pzH | refine pzM ?_)) rfl ?_)
    | (refine wK_store rfl (by rfl) (by assumption) rfl rfl (by repeat (first | exact Pick.here | apply Pick.there)) (by rfl) (by rfl) (by exact kvc_cells _ _) ?_; intro w1 hR)
    | (refine wN_store rfl (by rfl) (by assumption) rfl rfl (by repeat (first | exact Pick.here | apply Pick.there)) rfl rfl (by exact nmc_cells _) ?_; intro w1 hR)
    | (refine wP_store rfl (by rfl) (by assumption) rfl rfl (by repeat (first | exact Pick.here | apply Pick.there)) (by rfl) (by exact jv_size _) (by exact jv_cells _) ?_; intro w1 hR)
    | (go_at_call 11; refine (H1.out _).mono ?_; rintro e w1 ⟨rfl, hb1⟩; have hR := Rws.call (by assumption) hb1))
  clear hsz
  refine wp_region_calm 8 (by kernel_rfl) (by kernel_rfl) (by assumption) ?_
  refine lexC_move (by rfl) rfl ?_
  simp only [Act.put, pzT, pzA, pzB]
  refine lexC_cutv (by rfl) rfl rfl rfl HS1.out ?_
  simp only [Act.put, pzT, pzA, pzB]
  refine lexC_call rfl Tryz.func45 (by kernel_rfl) rfl rfl (fun w _ => H2.out w) ?_
  simp only [Act.put, pzT, pzA, pzB]
  refine lexC_move (by rfl) rfl ?_
  simp only [Act.put, pzT, pzA, pzB]
  refine lexC_cutv (by rfl) rfl rfl rfl HS2.out ?_
  simp only [Act.put, pzT, pzA, pzB]
  refine lexC_call rfl Tryz.func45 (by kernel_rfl) rfl rfl (fun w _ => H3.out w) ?_
  iterate 2 ((simp only [Act.put, pzT, pzA, pzB]); (refine lexC_alloc (by rfl) ?_))
  simp only [Act.put, pzT, pzA, pzB]
  refine lexC_zero ?_; simp only [pzC, pzD, pzE, pzF]; (repeat (first | (refine aN_cons (by rfl) ?_; intro g; simp only [Act.put, pzT, pzA, pzB]) | (refine afterAl_skip (by rfl) ?_))); refine afterAl_nil ?_; intro w1 hR
  go_upto_region 4 with (first
    | (refine wK_box rfl (by rfl) (by assumption) rfl ?_; intro gk w1 hR)
    | (refine wK_alloc rfl (by rfl) (by assumption) ?_; intro go w1 hR)
    | (refine wP_alloc rfl (by rfl) (by assumption) ?_; intro gp w1 hR)
    | (refine wN_alloc rfl (by rfl) (by assumption) ?_; intro gn w1 hR)
    | (refine wK_load rfl (by rfl) (by assumption) rfl (by repeat (first | exact pzH | refine pzM ?_)) rfl ?_)
    | (refine wN_load rfl (by rfl) (by assumption) rfl (by repeat (first | exact pzH | refine pzM ?_)) rfl ?_)
    | (refine wK_store rfl (by rfl) (by assumption) rfl rfl (by repeat (first | exact Pick.here | apply Pick.there)) (by rfl) (by rfl) (by exact kvc_cells _ _) ?_; intro w1 hR)
    | (refine wN_store rfl (by rfl) (by assumption) rfl rfl (by repeat (first | exact Pick.here | apply Pick.there)) rfl rfl (by exact nmc_cells _) ?_; intro w1 hR)
    | (refine wP_store rfl (by rfl) (by assumption) rfl rfl (by repeat (first | exact Pick.here | apply Pick.there)) (by rfl) (by exact jv_size _) (by exact jv_cells _) ?_; intro w1 hR))
  go_upto_region 5 with (first
    | (refine wK_box rfl (by rfl) (by assumption) rfl ?_; intro gk w1 hR)
    | (refine wK_alloc rfl (by rfl) (by assumption) ?_; intro go w1 hR)
    | (refine wP_alloc rfl (by rfl) (by assumption) ?_; intro gp w1 hR)
    | (refine wN_alloc rfl (by rfl) (by assumption) ?_; intro gn w1 hR)
    | (refine wK_load rfl (by rfl) (by assumption) rfl (by repeat (first | exact pzH | refine pzM ?_)) rfl ?_)
    | (refine wN_load rfl (by rfl) (by assumption) rfl (by repeat (first | exact pzH | refine pzM ?_)) rfl ?_)
    | (refine wK_store rfl (by rfl) (by assumption) rfl rfl (by repeat (first | exact Pick.here | apply Pick.there)) (by rfl) (by rfl) (by exact kvc_cells _ _) ?_; intro w1 hR)
    | (refine wN_store rfl (by rfl) (by assumption) rfl rfl (by repeat (first | exact Pick.here | apply Pick.there)) rfl rfl (by exact nmc_cells _) ?_; intro w1 hR)
    | (refine wP_store rfl (by rfl) (by assumption) rfl rfl (by repeat (first | exact Pick.here | apply Pick.there)) (by rfl) (by exact jv_size _) (by exact jv_cells _) ?_; intro w1 hR)
    | (go_at_call 47; refine (H4.out _).mono ?_; rintro e w1 ⟨rfl, hb1⟩; have hR := Rws.call (by assumption) hb1))
  refine wp_region_calm 20 (by kernel_rfl) (by kernel_rfl) (by assumption) ?_
  refine cN_load (by rfl) rfl (by repeat (first | exact pzH | refine pzM ?_)) rfl ?_
  simp only [Act.put, pzT, pzA, pzB]
  refine lexC_build (cs := nmc 0) (by rfl) (by kernel_rfl) ?_
  simp only [Act.put, pzT, pzA, pzB]
  refine cN_eq (b := false) (by rfl) rfl rfl HRL.out (by decide) HC1.out ?_
  simp only [Act.put, pzT, pzA, pzB]
  refine lexC_move (v := .bool false) (by rfl) rfl ?_
  simp only [Act.put, pzT, pzA, pzB]
  refine lexC_move (v := .bool true) (by rfl) rfl ?_
  simp only [Act.put, pzT, pzA, pzB]
  refine lexC_un (r := .bool false) (by rfl) rfl (fun _ => rfl) ?_
  simp only [Act.put, pzT, pzA, pzB]
  refine c_pickF (v := .bool false) (by rfl) rfl rfl ?_
  simp only [Act.put, pzT, pzA, pzB]
  refine lexC_move (v := .bool false) (by rfl) rfl ?_
  simp only [Act.put, pzT, pzA, pzB]
  refine cN_load (by rfl) rfl (by repeat (first | exact pzH | refine pzM ?_)) rfl ?_
  simp only [Act.put, pzT, pzA, pzB]
  refine lexC_call rfl Tryz.func49 (by kernel_rfl) rfl rfl (fun w _ => H5.out w) ?_
  simp only [Act.put, pzT, pzA, pzB]
  refine lexC_call rfl Tryz.func48 (by kernel_rfl) rfl rfl (fun w _ => H6.out w) ?_
  simp only [Act.put, pzT, pzA, pzB]
  refine cN_load (by rfl) rfl (by repeat (first | exact pzH | refine pzM ?_)) rfl ?_
  simp only [Act.put, pzT, pzA, pzB]
  refine cN_ne (b := false) (by rfl) rfl rfl HRM.out HRL.out HC2.out ?_
  simp only [Act.put, pzT, pzA, pzB]
  refine c_pickF (v := .bool false) (by rfl) rfl rfl ?_
  simp only [Act.put, pzT, pzA, pzB]
  refine lexC_move (v := .bool false) (by rfl) rfl ?_
  simp only [Act.put, pzT, pzA, pzB]
  refine cN_load (by rfl) rfl (by repeat (first | exact pzH | refine pzM ?_)) rfl ?_
  simp only [Act.put, pzT, pzA, pzB]
  refine lexC_call rfl Tryz.func49 (by kernel_rfl) rfl rfl (fun w _ => H5.out w) ?_
  simp only [Act.put, pzT, pzA, pzB]
  refine lexC_call rfl Tryz.func48 (by kernel_rfl) rfl rfl (fun w _ => H7.out w) ?_
  simp only [Act.put, pzT, pzA, pzB]
  refine cN_load (by rfl) rfl (by repeat (first | exact pzH | refine pzM ?_)) rfl ?_
  simp only [Act.put, pzT, pzA, pzB]
  refine cN_ne (b := false) (by rfl) rfl rfl HTM.out HTL.out HC3.out ?_
  simp only [Act.put, pzT, pzA, pzB]
  refine lexC_zero ?_; simp only [pzC, pzD, pzE, pzF]; (repeat (first | (refine aN_cons (by rfl) ?_; intro g; simp only [Act.put, pzT, pzA, pzB]) | (refine afterAl_skip (by rfl) ?_))); refine afterAl_nil ?_; intro w1 hR
  go_upto_region 7 with (fail)
  go_upto_region 8 with (first
    | (refine wK_box rfl (by rfl) (by assumption) rfl ?_; intro gk w1 hR)
    | (refine wK_alloc rfl (by rfl) (by assumption) ?_; intro go w1 hR)
    | (refine wP_alloc rfl (by rfl) (by assumption) ?_; intro gp w1 hR)
    | (refine wN_alloc rfl (by rfl) (by assumption) ?_; intro gn w1 hR)
    | (refine wK_load rfl (by rfl) (by assumption) rfl (by repeat (first | exact pzH | refine pzM ?_)) rfl ?_)
    | (refine wN_load rfl (by rfl) (by assumption) rfl (by repeat (first | exact pzH | refine pzM ?_)) rfl ?_)
    | (refine wK_store rfl (by rfl) (by assumption) rfl rfl (by repeat (first | exact Pick.here | apply Pick.there)) (by rfl) (by rfl) (by exact kvc_cells _ _) ?_; intro w1 hR)
    | (refine wN_store rfl (by rfl) (by assumption) rfl rfl (by repeat (first | exact Pick.here | apply Pick.there)) rfl rfl (by exact nmc_cells _) ?_; intro w1 hR)
    | (refine wP_store rfl (by rfl) (by assumption) rfl rfl (by repeat (first | exact Pick.here | apply Pick.there)) (by rfl) (by exact jv_size _) (by exact jv_cells _) ?_; intro w1 hR)
    | (go_at_call 41; refine (H8.out _).mono ?_; rintro e w1 ⟨rfl, hb1⟩; have hR := Rws.call (by assumption) hb1)
    | (go_at_call 31; refine (H9.out _).mono ?_; rintro e w1 ⟨rfl, hb1⟩; have hR := Rws.call (by assumption) hb1))
  go_upto_region 9 with (first
    | (refine wK_box rfl (by rfl) (by assumption) rfl ?_; intro gk w1 hR)
    | (refine wK_alloc rfl (by rfl) (by assumption) ?_; intro go w1 hR)
    | (refine wP_alloc rfl (by rfl) (by assumption) ?_; intro gp w1 hR)
    | (refine wN_alloc rfl (by rfl) (by assumption) ?_; intro gn w1 hR)
    | (refine wK_load rfl (by rfl) (by assumption) rfl (by repeat (first | exact pzH | refine pzM ?_)) rfl ?_)
    | (refine wN_load rfl (by rfl) (by assumption) rfl (by repeat (first | exact pzH | refine pzM ?_)) rfl ?_)
    | (refine wK_store rfl (by rfl) (by assumption) rfl rfl (by repeat (first | exact Pick.here | apply Pick.there)) (by rfl) (by rfl) (by exact kvc_cells _ _) ?_; intro w1 hR)
    | (refine wN_store rfl (by rfl) (by assumption) rfl rfl (by repeat (first | exact Pick.here | apply Pick.there)) rfl rfl (by exact nmc_cells _) ?_; intro w1 hR)
    | (refine wP_store rfl (by rfl) (by assumption) rfl rfl (by repeat (first | exact Pick.here | apply Pick.there)) (by rfl) (by exact jv_size _) (by exact jv_cells _) ?_; intro w1 hR)
    | (go_at_call 31; refine (H10.out _).mono ?_; rintro e w1 ⟨rfl, hb1⟩; have hR := Rws.call (by assumption) hb1))
  refine wp_region_calm 15 (by kernel_rfl) (by kernel_rfl) (by assumption) ?_
  refine cP_loadAll (by rfl) rfl (by repeat (first | exact pzH | refine pzM ?_)) (by exact jv_size _) ?_
  simp only [Act.put, pzT, pzA, pzB]
  refine lexC_move (by rfl) rfl ?_
  simp only [Act.put, pzT, pzA, pzB]
  refine lexC_call rfl Tryz.func29 (by kernel_rfl) rfl rfl (fun w _ => H11.out w) ?_
  simp only [Act.put, pzT, pzA, pzB]
  refine lexC_call rfl Tryz.func45 (by kernel_rfl) rfl rfl (fun w _ => H12.out w) ?_
  simp only [Act.put, pzT, pzA, pzB]
  refine cN_load (by rfl) rfl (by repeat (first | exact pzH | refine pzM ?_)) rfl ?_
  simp only [Act.put, pzT, pzA, pzB]
  refine lexC_call rfl Tryz.func50 (by kernel_rfl) rfl rfl (fun w _ => H13.out w) ?_
  simp only [Act.put, pzT, pzA, pzB]
  refine lexC_call rfl Tryz.func44 (by kernel_rfl) rfl rfl (fun w _ => H14.out w) ?_
  simp only [Act.put, pzT, pzA, pzB]
  refine cP_loadAll (by rfl) rfl (by repeat (first | exact pzH | refine pzM ?_)) (by exact jv_size _) ?_
  iterate 2 ((simp only [Act.put, pzT, pzA, pzB]); (refine cN_load (by rfl) rfl (by repeat (first | exact pzH | refine pzM ?_)) rfl ?_))
  simp only [Act.put, pzT, pzA, pzB]
  refine lexC_call rfl Tryz.func50 (by kernel_rfl) rfl rfl (fun w _ => H15.out w) ?_
  simp only [Act.put, pzT, pzA, pzB]
  refine lexC_call rfl Tryz.func44 (by kernel_rfl) rfl rfl (fun w _ => H16.out w) ?_
  simp only [Act.put, pzT, pzA, pzB]
  refine lexC_call rfl Tryz.func32 (by kernel_rfl) rfl rfl (fun w _ => H17.out w) ?_
  simp only [Act.put, pzT, pzA, pzB]
  refine lexC_call rfl Tryz.func33 (by kernel_rfl) rfl rfl (fun w _ => H18.out w) ?_
  simp only [Act.put, pzT, pzA, pzB]
  refine lexC_alloc (by rfl) ?_
  simp only [Act.put, pzT, pzA, pzB]
  refine lexC_zero ?_; simp only [pzC, pzD, pzE, pzF]; (repeat (first | (refine afterAl_cons (by rfl) zero_key rfl ?_; intro go; simp only [Act.put, pzT, pzA, pzB]) | (refine afterAl_skip (by rfl) ?_))); refine afterAl_nil ?_; intro w1 hR
  go_upto_region 10 with (first
    | (refine wK_box rfl (by rfl) (by assumption) rfl ?_; intro gk w1 hR)
    | (refine wK_alloc rfl (by rfl) (by assumption) ?_; intro go w1 hR)
    | (refine wP_alloc rfl (by rfl) (by assumption) ?_; intro gp w1 hR)
    | (refine wN_alloc rfl (by rfl) (by assumption) ?_; intro gn w1 hR)
    | (refine wK_load rfl (by rfl) (by assumption) rfl (by repeat (first | exact pzH | refine pzM ?_)) rfl ?_)
    | (refine wN_load rfl (by rfl) (by assumption) rfl (by repeat (first | exact pzH | refine pzM ?_)) rfl ?_)
    | (refine wK_store rfl (by rfl) (by assumption) rfl rfl (by repeat (first | exact Pick.here | apply Pick.there)) (by rfl) (by rfl) (by exact kvc_cells _ _) ?_; intro w1 hR)
    | (refine wN_store rfl (by rfl) (by assumption) rfl rfl (by repeat (first | exact Pick.here | apply Pick.there)) rfl rfl (by exact nmc_cells _) ?_; intro w1 hR)
    | (refine wP_store rfl (by rfl) (by assumption) rfl rfl (by repeat (first | exact Pick.here | apply Pick.there)) (by rfl) (by exact jv_size _) (by exact jv_cells _) ?_; intro w1 hR))
  refine wp_region_calm 12 (by kernel_rfl) (by kernel_rfl) (by assumption) ?_
  refine cK_f0 (by rfl) rfl ?_
  simp only [Act.put, pzT, pzA, pzB]
  refine cK_s0 (by rfl) rfl (by repeat (first | exact pzH | refine pzM ?_)) ?_
  simp only [Act.put, pzT, pzA, pzB]
  refine lexC_bin (u := .string ox) (v := .string ⟨#[]⟩) (r := .bool false) (by rfl) rfl rfl (fun w => by rw [run_neqs, HNE.out]) (fun _ => rfl) ?_
  simp only [Act.put, pzT, pzA, pzB]
  refine lexC_move (v := .bool false) (by rfl) rfl ?_
  iterate 7 ((simp only [Act.put, pzT, pzA, pzB]); (refine lexC_skip (by rfl) (by rfl) ?_))
  simp only [Act.put, pzT, pzA, pzB]
  refine c_pickF (v := .bool false) (by rfl) rfl rfl ?_
  simp only [Act.put, pzT, pzA, pzB]
  refine lexC_zero ?_; simp only [pzC, pzD, pzE, pzF]; (repeat (first | (refine aN_cons (by rfl) ?_; intro g; simp only [Act.put, pzT, pzA, pzB]) | (refine afterAl_skip (by rfl) ?_))); refine afterAl_nil ?_; intro w1 hR
  go_wp2_with fail
  go_ret
  exact ⟨rfl, hR.below⟩
end Go.Proofs.YtaggpodckafbgaaGreatDoor
