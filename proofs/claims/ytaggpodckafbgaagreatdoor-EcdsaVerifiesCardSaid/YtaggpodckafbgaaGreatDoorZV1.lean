/- Verify: what it answers, out of what it calls. -/
import Derived.Test.YtaggpodckafbgaaGreatDoorZEF
import Derived.Test.YtaggpodckafbgaaGreatDoorZH3
import Derived.Test.YtaggpodckafbgaaGreatDoorZA0
namespace Go.Proofs.YtaggpodckafbgaaGreatDoor
open Go.RowKit
theorem run_cutS_h {P : Program} {t : TypeId} {s : ByteArray} {h : Nat} (ht : P.underlying t = some .string) (hh : h ≤ s.size) (w : World) : (Instr.sliceAt t (.string s) none (some (.int .i64 (h : Int))) none).run P w = .ok (.string (s.extract 0 h)) w := by
  rw [run_sliceAt_string (h := ht)]
  simp [Instr.slice, run_underlying ht, Instr.sliceBounds, run_sliceBound, Sem.run_bind, Result.andThen, hh]
theorem run_cutS_l {P : Program} {t : TypeId} {s : ByteArray} {l : Nat} (ht : P.underlying t = some .string) (hl : l ≤ s.size) (w : World) : (Instr.sliceAt t (.string s) (some (.int .i64 (l : Int))) none none).run P w = .ok (.string (s.extract l s.size)) w := by
  rw [run_sliceAt_string (h := ht)]
  simp [Instr.slice, run_underlying ht, Instr.sliceBounds, run_sliceBound, Sem.run_bind, Result.andThen, hl]
section
variable {P : Program} {B : Nat} {w0 w : World} {L : List (Nat × Array Value × TypeId)} {S : StRow} {ops : Array Oper} {l : List Oper} {n : Nat} {a : Act} {Q' : Act → Prop} {o : Oper}
theorem lexC_cutv {t : TypeId} {x : Operand} {lo hi : Option Operand} {u v : Value} {l0 h0 : Option Value} (ho : o.op = .slice t x lo hi none) (hx : a.eval x = u) (hl : lo.map a.eval = l0) (hh : hi.map a.eval = h0) (hr : ∀ w : World, (Instr.sliceAt t u l0 h0 none).run P w = .ok v w)
    (h : lexC P B w0 L S ops Q' n l (a.put o.dst v)) (hwt : Region.wanted o (yielded ops a.tmps) = true := by rfl) : lexC P B w0 L S ops Q' (n + 1) (o :: l) a :=
  lexC_val (fun w => by
    unfold execOp
    simp only [ho, hx, Option.map_none, hl, hh]
    rw [Sem.run_bind, hr w]
    rfl) h hwt (by rw [ho]; rfl)
theorem cN_ne {x y : Operand} {r : TypeId} {p q : Nat} {b : Bool} (ho : o.op = .binOp .neq 53 x y r) (hx : a.eval x = .agg (nmc p)) (hy : a.eval y = .agg (nmc q)) (hp : p < 115792089237316195423570985008687907853269984665640564039457584007913129639936) (hq : q < 115792089237316195423570985008687907853269984665640564039457584007913129639936) (hb : (!decide (p = q)) = b)
    (h : lexC Tryz.prog B w0 L S ops Q' n l (a.put o.dst (.bool b))) (hwt : Region.wanted o (yielded ops a.tmps) = true := by rfl) : lexC Tryz.prog B w0 L S ops Q' (n + 1) (o :: l) a :=
  lexC_val (fun w => by
    have h1 : (eqGuard .neq 53 x y (.agg (nmc p)) (.agg (nmc q))).run Tryz.prog w = .ok () w := run_eqGuard_agg w _ _ _ _ _ _ (by kernel_rfl)
    have h2 : (binOp .neq 53 (.agg (nmc p)) (.agg (nmc q))).run Tryz.prog w = .ok (.bool b) w := by
      rw [run_neq_struct, eq_num p q hp hq w, ← hb]; rfl
    unfold execOp
    simp only [ho, hx, hy]
    simp only [Sem.run_bind, h1, h2, Result.andThen_ok, Sem.run_pure]) h hwt (by rw [ho]; rfl)
end
set_option maxRecDepth 100000 in
set_option maxHeartbeats 3200000 in
theorem verify_no0 (kx ky s sig : ByteArray) (r t i n rm tm : Nat) (b : Bool) (w : World) (hl : sig.size = 64) (hrl : r < 115792089237316195423570985008687907853269984665640564039457584007913129639936) (htl : t < 115792089237316195423570985008687907853269984665640564039457584007913129639936) (hrm : rm < 115792089237316195423570985008687907853269984665640564039457584007913129639936) (htm : tm < 115792089237316195423570985008687907853269984665640564039457584007913129639936) (hc1 : decide (r = 0) = true)
    (h1 : ∀ w : World, Calls Tryz.prog 11 #[.agg (kvc kx ky)] w fun e w' => e = .returned (.int .i64 0) ∧ Below w.heap.size w w')
    (h2 : ∀ w : World, Calls Tryz.prog 45 #[.string (sig.extract 0 32)] w fun e w' => e = .returned (.agg (nmc r)) ∧ Below w.heap.size w w')
    (h3 : ∀ w : World, Calls Tryz.prog 45 #[.string (sig.extract 32 sig.size)] w fun e w' => e = .returned (.agg (nmc t)) ∧ Below w.heap.size w w')
    (h4 : ∀ w : World, Calls Tryz.prog 47 #[.int .i64 1, .agg (nmc t)] w fun e w' => e = .returned (.tuple #[.agg (nmc i), .bool b]) ∧ Below w.heap.size w w')
    (h5 : ∀ w : World, Calls Tryz.prog 49 #[.int .i64 1] w fun e w' => e = .returned (.agg (nmc n)) ∧ Below w.heap.size w w')
    (h6 : ∀ w : World, Calls Tryz.prog 48 #[.agg (nmc r), .agg (nmc n)] w fun e w' => e = .returned (.agg (nmc rm)) ∧ Below w.heap.size w w')
    (h7 : ∀ w : World, Calls Tryz.prog 48 #[.agg (nmc t), .agg (nmc n)] w fun e w' => e = .returned (.agg (nmc tm)) ∧ Below w.heap.size w w') :
    Calls Tryz.prog 19 #[.agg (kvc kx ky), .string s, .string sig] w fun e w' => e = .returned (.bool false) ∧ Below w.heap.size w w' := by
  have HRL := Lib.hid hrl; have HTL := Lib.hid htl; have HRM := Lib.hid hrm; have HTM := Lib.hid htm; have HC1 := Lib.hid hc1; 
  have H1 := Lib.hid h1; have H2 := Lib.hid h2; have H3 := Lib.hid h3; have H4 := Lib.hid h4; have H5 := Lib.hid h5; have H6 := Lib.hid h6; have H7 := Lib.hid h7
  have hs1 : ∀ w : World, (Instr.sliceAt 9 (.string sig) none (some (.int .i64 ((32 : Nat) : Int))) none).run Tryz.prog w = .ok (.string (sig.extract 0 32)) w := run_cutS_h Tryz.underlying9 (by omega)
  have hs2 : ∀ w : World, (Instr.sliceAt 9 (.string sig) (some (.int .i64 ((32 : Nat) : Int))) none none).run Tryz.prog w = .ok (.string (sig.extract 32 sig.size)) w := run_cutS_l Tryz.underlying9 (by omega)
  have HS1 := Lib.hid hs1; have HS2 := Lib.hid hs2
  clear h1 h2 h3 h4 h5 h6 h7
  clear hs1 hs2 hrl htl hrm htm hc1 
  have hsz : (sig.size : Int) = 64 := by omega
  have hR0 := Rws.start w
  go_enter Tryz.func19, Tryz.ntmps19
  go_upto_region 3 with (first
    | (refine wK_box rfl (by rfl) (by assumption) rfl ?_; intro gk w1 hR)
    | (refine wK_alloc rfl (by rfl) (by assumption) ?_; intro go w1 hR)
    | (refine wP_alloc rfl (by rfl) (by assumption) ?_; intro gp w1 hR)
    | (refine wN_alloc rfl (by rfl) (by assumption) ?_; intro gn w1 hR)
    | (refine wK_load rfl (by rfl) (by assumption) rfl (by repeat (first | exact pzH | refine pzM ?_)) rfl ?_)
    | (refine wN_load rfl (by rfl) (by assumption) rfl (by repeat (first | exact pzH | refine pzM ?_)) rfl ?_)
    | (refine wK_store rfl (by rfl) (by assumption) rfl rfl (by repeat (first | exact Pick.here | apply Pick.there)) (by rfl) (by rfl) (by exact kvc_cells _ _) ?_; intro w1 hR)
    | (refine wN_store rfl (by rfl) (by assumption) rfl rfl (by repeat (first | exact Pick.here | apply Pick.there)) rfl rfl (by exact nmc_cells _) ?_; intro w1 hR)
    | (refine wP_store rfl (by rfl) (by assumption) rfl rfl (by repeat (first | exact Pick.here | apply Pick.there)) (by rfl) (by exact jv_size _) (by exact jv_cells _) ?_; intro w1 hR)
    | (go_at_call 11; refine (H1.out _).mono ?_; rintro e w1 ⟨rfl, hb1⟩; have hR := Rws.call (by assumption) hb1))
  clear hsz
  refine wp_region_calm 8 (by kernel_rfl) (by kernel_rfl) (by assumption) ?_
  refine lexC_move (by rfl) rfl ?_
  simp only [Act.put, pzT, pzA, pzB]
  refine lexC_cutv (by rfl) rfl rfl rfl HS1.out ?_
  simp only [Act.put, pzT, pzA, pzB]
  refine lexC_call rfl Tryz.func45 (by kernel_rfl) rfl rfl (fun w _ => H2.out w) ?_
  simp only [Act.put, pzT, pzA, pzB]
  refine lexC_move (by rfl) rfl ?_
  simp only [Act.put, pzT, pzA, pzB]
  refine lexC_cutv (by rfl) rfl rfl rfl HS2.out ?_
  simp only [Act.put, pzT, pzA, pzB]
  refine lexC_call rfl Tryz.func45 (by kernel_rfl) rfl rfl (fun w _ => H3.out w) ?_
  iterate 2 ((simp only [Act.put, pzT, pzA, pzB]); (refine lexC_alloc (by rfl) ?_))
  simp only [Act.put, pzT, pzA, pzB]
  refine lexC_zero ?_; simp only [pzC, pzD, pzE, pzF]; (repeat (first | (refine aN_cons (by rfl) ?_; intro g; simp only [Act.put, pzT, pzA, pzB]) | (refine afterAl_skip (by rfl) ?_))); refine afterAl_nil ?_; intro w1 hR
  go_upto_region 4 with (first
    | (refine wK_box rfl (by rfl) (by assumption) rfl ?_; intro gk w1 hR)
    | (refine wK_alloc rfl (by rfl) (by assumption) ?_; intro go w1 hR)
    | (refine wP_alloc rfl (by rfl) (by assumption) ?_; intro gp w1 hR)
    | (refine wN_alloc rfl (by rfl) (by assumption) ?_; intro gn w1 hR)
    | (refine wK_load rfl (by rfl) (by assumption) rfl (by repeat (first | exact pzH | refine pzM ?_)) rfl ?_)
    | (refine wN_load rfl (by rfl) (by assumption) rfl (by repeat (first | exact pzH | refine pzM ?_)) rfl ?_)
    | (refine wK_store rfl (by rfl) (by assumption) rfl rfl (by repeat (first | exact Pick.here | apply Pick.there)) (by rfl) (by rfl) (by exact kvc_cells _ _) ?_; intro w1 hR)
    | (refine wN_store rfl (by rfl) (by assumption) rfl rfl (by repeat (first | exact Pick.here | apply Pick.there)) rfl rfl (by exact nmc_cells _) ?_; intro w1 hR)
    | (refine wP_store rfl (by rfl) (by assumption) rfl rfl (by repeat (first | exact Pick.here | apply Pick.there)) (by rfl) (by exact jv_size _) (by exact jv_cells _) ?_; intro w1 hR))
  go_upto_region 5 with (first
    | (refine wK_box rfl (by rfl) (by assumption) rfl ?_; intro gk w1 hR)
    | (refine wK_alloc rfl (by rfl) (by assumption) ?_; intro go w1 hR)
    | (refine wP_alloc rfl (by rfl) (by assumption) ?_; intro gp w1 hR)
    | (refine wN_alloc rfl (by rfl) (by assumption) ?_; intro gn w1 hR)
    | (refine wK_load rfl (by rfl) (by assumption) rfl (by repeat (first | exact pzH | refine pzM ?_)) rfl ?_)
    | (refine wN_load rfl (by rfl) (by assumption) rfl (by repeat (first | exact pzH | refine pzM ?_)) rfl ?_)
    | (refine wK_store rfl (by rfl) (by assumption) rfl rfl (by repeat (first | exact Pick.here | apply Pick.there)) (by rfl) (by rfl) (by exact kvc_cells _ _) ?_; intro w1 hR)
    | (refine wN_store rfl (by rfl) (by assumption) rfl rfl (by repeat (first | exact Pick.here | apply Pick.there)) rfl rfl (by exact nmc_cells _) ?_; intro w1 hR)
    | (refine wP_store rfl (by rfl) (by assumption) rfl rfl (by repeat (first | exact Pick.here | apply Pick.there)) (by rfl) (by exact jv_size _) (by exact jv_cells _) ?_; intro w1 hR)
    | (go_at_call 47; refine (H4.out _).mono ?_; rintro e w1 ⟨rfl, hb1⟩; have hR := Rws.call (by assumption) hb1))
  refine wp_region_calm 20 (by kernel_rfl) (by kernel_rfl) (by assumption) ?_
  refine cN_load (by rfl) rfl (by repeat (first | exact pzH | refine pzM ?_)) rfl ?_
  simp only [Act.put, pzT, pzA, pzB]
  refine lexC_build (cs := nmc 0) (by rfl) (by kernel_rfl) ?_
  simp only [Act.put, pzT, pzA, pzB]
  refine cN_eq (b := true) (by rfl) rfl rfl HRL.out (by decide) HC1.out ?_
  simp only [Act.put, pzT, pzA, pzB]
  refine lexC_move (v := .bool true) (by rfl) rfl ?_
  iterate 2 ((simp only [Act.put, pzT, pzA, pzB]); (refine lexC_skip (by rfl) (by rfl) ?_))
  simp only [Act.put, pzT, pzA, pzB]
  refine c_pickT (v := .bool true) (by rfl) rfl rfl ?_
  simp only [Act.put, pzT, pzA, pzB]
  refine lexC_move (v := .bool true) (by rfl) rfl ?_
  iterate 5 ((simp only [Act.put, pzT, pzA, pzB]); (refine lexC_skip (by rfl) (by rfl) ?_))
  simp only [Act.put, pzT, pzA, pzB]
  refine c_pickT (v := .bool true) (by rfl) rfl rfl ?_
  simp only [Act.put, pzT, pzA, pzB]
  refine lexC_move (v := .bool true) (by rfl) rfl ?_
  iterate 5 ((simp only [Act.put, pzT, pzA, pzB]); (refine lexC_skip (by rfl) (by rfl) ?_))
  simp only [Act.put, pzT, pzA, pzB]
  refine lexC_zero ?_; simp only [pzC, pzD, pzE, pzF]; (repeat (first | (refine aN_cons (by rfl) ?_; intro g; simp only [Act.put, pzT, pzA, pzB]) | (refine afterAl_skip (by rfl) ?_))); refine afterAl_nil ?_; intro w1 hR
  go_wp2_with fail
  go_ret
  exact ⟨rfl, hR.below⟩
set_option maxRecDepth 100000 in
set_option maxHeartbeats 3200000 in
theorem verify_no1 (kx ky s sig : ByteArray) (r t i n rm tm : Nat) (w : World) (hl : sig.size = 64) (hrl : r < 115792089237316195423570985008687907853269984665640564039457584007913129639936) (htl : t < 115792089237316195423570985008687907853269984665640564039457584007913129639936) (hrm : rm < 115792089237316195423570985008687907853269984665640564039457584007913129639936) (htm : tm < 115792089237316195423570985008687907853269984665640564039457584007913129639936) (hc1 : decide (r = 0) = false)
    (h1 : ∀ w : World, Calls Tryz.prog 11 #[.agg (kvc kx ky)] w fun e w' => e = .returned (.int .i64 0) ∧ Below w.heap.size w w')
    (h2 : ∀ w : World, Calls Tryz.prog 45 #[.string (sig.extract 0 32)] w fun e w' => e = .returned (.agg (nmc r)) ∧ Below w.heap.size w w')
    (h3 : ∀ w : World, Calls Tryz.prog 45 #[.string (sig.extract 32 sig.size)] w fun e w' => e = .returned (.agg (nmc t)) ∧ Below w.heap.size w w')
    (h4 : ∀ w : World, Calls Tryz.prog 47 #[.int .i64 1, .agg (nmc t)] w fun e w' => e = .returned (.tuple #[.agg (nmc i), .bool false]) ∧ Below w.heap.size w w')
    (h5 : ∀ w : World, Calls Tryz.prog 49 #[.int .i64 1] w fun e w' => e = .returned (.agg (nmc n)) ∧ Below w.heap.size w w')
    (h6 : ∀ w : World, Calls Tryz.prog 48 #[.agg (nmc r), .agg (nmc n)] w fun e w' => e = .returned (.agg (nmc rm)) ∧ Below w.heap.size w w')
    (h7 : ∀ w : World, Calls Tryz.prog 48 #[.agg (nmc t), .agg (nmc n)] w fun e w' => e = .returned (.agg (nmc tm)) ∧ Below w.heap.size w w') :
    Calls Tryz.prog 19 #[.agg (kvc kx ky), .string s, .string sig] w fun e w' => e = .returned (.bool false) ∧ Below w.heap.size w w' := by
  have HRL := Lib.hid hrl; have HTL := Lib.hid htl; have HRM := Lib.hid hrm; have HTM := Lib.hid htm; have HC1 := Lib.hid hc1; 
  have H1 := Lib.hid h1; have H2 := Lib.hid h2; have H3 := Lib.hid h3; have H4 := Lib.hid h4; have H5 := Lib.hid h5; have H6 := Lib.hid h6; have H7 := Lib.hid h7
  have hs1 : ∀ w : World, (Instr.sliceAt 9 (.string sig) none (some (.int .i64 ((32 : Nat) : Int))) none).run Tryz.prog w = .ok (.string (sig.extract 0 32)) w := run_cutS_h Tryz.underlying9 (by omega)
  have hs2 : ∀ w : World, (Instr.sliceAt 9 (.string sig) (some (.int .i64 ((32 : Nat) : Int))) none none).run Tryz.prog w = .ok (.string (sig.extract 32 sig.size)) w := run_cutS_l Tryz.underlying9 (by omega)
  have HS1 := Lib.hid hs1; have HS2 := Lib.hid hs2
  clear h1 h2 h3 h4 h5 h6 h7
  clear hs1 hs2 hrl htl hrm htm hc1 
  have hsz : (sig.size : Int) = 64 := by omega
  have hR0 := Rws.start w
  go_enter Tryz.func19, Tryz.ntmps19
  go_upto_region 3 with (first
    | (refine wK_box rfl (by rfl) (by assumption) rfl ?_; intro gk w1 hR)
    | (refine wK_alloc rfl (by rfl) (by assumption) ?_; intro go w1 hR)
    | (refine wP_alloc rfl (by rfl) (by assumption) ?_; intro gp w1 hR)
    | (refine wN_alloc rfl (by rfl) (by assumption) ?_; intro gn w1 hR)
    | (refine wK_load rfl (by rfl) (by assumption) rfl (by repeat (first | exact pzH | refine pzM ?_)) rfl ?_)
    | (refine wN_load rfl (by rfl) (by assumption) rfl (by repeat (first | exact pzH | refine pzM ?_)) rfl ?_)
    | (refine wK_store rfl (by rfl) (by assumption) rfl rfl (by repeat (first | exact Pick.here | apply Pick.there)) (by rfl) (by rfl) (by exact kvc_cells _ _) ?_; intro w1 hR)
    | (refine wN_store rfl (by rfl) (by assumption) rfl rfl (by repeat (first | exact Pick.here | apply Pick.there)) rfl rfl (by exact nmc_cells _) ?_; intro w1 hR)
    | (refine wP_store rfl (by rfl) (by assumption) rfl rfl (by repeat (first | exact Pick.here | apply Pick.there)) (by rfl) (by exact jv_size _) (by exact jv_cells _) ?_; intro w1 hR)
    | (go_at_call 11; refine (H1.out _).mono ?_; rintro e w1 ⟨rfl, hb1⟩; have hR := Rws.call (by assumption) hb1))
  clear hsz
  refine wp_region_calm 8 (by kernel_rfl) (by kernel_rfl) (by assumption) ?_
  refine lexC_move (by rfl) rfl ?_
  simp only [Act.put, pzT, pzA, pzB]
  refine lexC_cutv (by rfl) rfl rfl rfl HS1.out ?_
  simp only [Act.put, pzT, pzA, pzB]
  refine lexC_call rfl Tryz.func45 (by kernel_rfl) rfl rfl (fun w _ => H2.out w) ?_
  simp only [Act.put, pzT, pzA, pzB]
  refine lexC_move (by rfl) rfl ?_
  simp only [Act.put, pzT, pzA, pzB]
  refine lexC_cutv (by rfl) rfl rfl rfl HS2.out ?_
  simp only [Act.put, pzT, pzA, pzB]
  refine lexC_call rfl Tryz.func45 (by kernel_rfl) rfl rfl (fun w _ => H3.out w) ?_
  iterate 2 ((simp only [Act.put, pzT, pzA, pzB]); (refine lexC_alloc (by rfl) ?_))
  simp only [Act.put, pzT, pzA, pzB]
  refine lexC_zero ?_; simp only [pzC, pzD, pzE, pzF]; (repeat (first | (refine aN_cons (by rfl) ?_; intro g; simp only [Act.put, pzT, pzA, pzB]) | (refine afterAl_skip (by rfl) ?_))); refine afterAl_nil ?_; intro w1 hR
  go_upto_region 4 with (first
    | (refine wK_box rfl (by rfl) (by assumption) rfl ?_; intro gk w1 hR)
    | (refine wK_alloc rfl (by rfl) (by assumption) ?_; intro go w1 hR)
    | (refine wP_alloc rfl (by rfl) (by assumption) ?_; intro gp w1 hR)
    | (refine wN_alloc rfl (by rfl) (by assumption) ?_; intro gn w1 hR)
    | (refine wK_load rfl (by rfl) (by assumption) rfl (by repeat (first | exact pzH | refine pzM ?_)) rfl ?_)
    | (refine wN_load rfl (by rfl) (by assumption) rfl (by repeat (first | exact pzH | refine pzM ?_)) rfl ?_)
    | (refine wK_store rfl (by rfl) (by assumption) rfl rfl (by repeat (first | exact Pick.here | apply Pick.there)) (by rfl) (by rfl) (by exact kvc_cells _ _) ?_; intro w1 hR)
    | (refine wN_store rfl (by rfl) (by assumption) rfl rfl (by repeat (first | exact Pick.here | apply Pick.there)) rfl rfl (by exact nmc_cells _) ?_; intro w1 hR)
    | (refine wP_store rfl (by rfl) (by assumption) rfl rfl (by repeat (first | exact Pick.here | apply Pick.there)) (by rfl) (by exact jv_size _) (by exact jv_cells _) ?_; intro w1 hR))
  go_upto_region 5 with (first
    | (refine wK_box rfl (by rfl) (by assumption) rfl ?_; intro gk w1 hR)
    | (refine wK_alloc rfl (by rfl) (by assumption) ?_; intro go w1 hR)
    | (refine wP_alloc rfl (by rfl) (by assumption) ?_; intro gp w1 hR)
    | (refine wN_alloc rfl (by rfl) (by assumption) ?_; intro gn w1 hR)
    | (refine wK_load rfl (by rfl) (by assumption) rfl (by repeat (first | exact pzH | refine pzM ?_)) rfl ?_)
    | (refine wN_load rfl (by rfl) (by assumption) rfl (by repeat (first | exact pzH | refine pzM ?_)) rfl ?_)
    | (refine wK_store rfl (by rfl) (by assumption) rfl rfl (by repeat (first | exact Pick.here | apply Pick.there)) (by rfl) (by rfl) (by exact kvc_cells _ _) ?_; intro w1 hR)
    | (refine wN_store rfl (by rfl) (by assumption) rfl rfl (by repeat (first | exact Pick.here | apply Pick.there)) rfl rfl (by exact nmc_cells _) ?_; intro w1 hR)
    | (refine wP_store rfl (by rfl) (by assumption) rfl rfl (by repeat (first | exact Pick.here | apply Pick.there)) (by rfl) (by exact jv_size _) (by exact jv_cells _) ?_; intro w1 hR)
    | (go_at_call 47; refine (H4.out _).mono ?_; rintro e w1 ⟨rfl, hb1⟩; have hR := Rws.call (by assumption) hb1))
  refine wp_region_calm 20 (by kernel_rfl) (by kernel_rfl) (by assumption) ?_
  refine cN_load (by rfl) rfl (by repeat (first | exact pzH | refine pzM ?_)) rfl ?_
  simp only [Act.put, pzT, pzA, pzB]
  refine lexC_build (cs := nmc 0) (by rfl) (by kernel_rfl) ?_
  simp only [Act.put, pzT, pzA, pzB]
  refine cN_eq (b := false) (by rfl) rfl rfl HRL.out (by decide) HC1.out ?_
  iterate 2 ((simp only [Act.put, pzT, pzA, pzB]); (refine lexC_move (v := .bool false) (by rfl) rfl ?_))
  simp only [Act.put, pzT, pzA, pzB]
  refine lexC_un (r := .bool true) (by rfl) rfl (fun _ => rfl) ?_
  simp only [Act.put, pzT, pzA, pzB]
  refine c_pickF (v := .bool true) (by rfl) rfl rfl ?_
  simp only [Act.put, pzT, pzA, pzB]
  refine lexC_move (v := .bool true) (by rfl) rfl ?_
  iterate 5 ((simp only [Act.put, pzT, pzA, pzB]); (refine lexC_skip (by rfl) (by rfl) ?_))
  simp only [Act.put, pzT, pzA, pzB]
  refine c_pickT (v := .bool true) (by rfl) rfl rfl ?_
  simp only [Act.put, pzT, pzA, pzB]
  refine lexC_move (v := .bool true) (by rfl) rfl ?_
  iterate 5 ((simp only [Act.put, pzT, pzA, pzB]); (refine lexC_skip (by rfl) (by rfl) ?_))
  simp only [Act.put, pzT, pzA, pzB]
  refine lexC_zero ?_; simp only [pzC, pzD, pzE, pzF]; (repeat (first | (refine aN_cons (by rfl) ?_; intro g; simp only [Act.put, pzT, pzA, pzB]) | (refine afterAl_skip (by rfl) ?_))); refine afterAl_nil ?_; intro w1 hR
  go_wp2_with fail
  go_ret
  exact ⟨rfl, hR.below⟩
set_option maxRecDepth 100000 in
set_option maxHeartbeats 3200000 in
theorem verify_no2 (kx ky s sig : ByteArray) (r t i n rm tm : Nat) (w : World) (hl : sig.size = 64) (hrl : r < 115792089237316195423570985008687907853269984665640564039457584007913129639936) (htl : t < 115792089237316195423570985008687907853269984665640564039457584007913129639936) (hrm : rm < 115792089237316195423570985008687907853269984665640564039457584007913129639936) (htm : tm < 115792089237316195423570985008687907853269984665640564039457584007913129639936) (hc1 : decide (r = 0) = false) (hc2 : (!decide (rm = r)) = true)
    (h1 : ∀ w : World, Calls Tryz.prog 11 #[.agg (kvc kx ky)] w fun e w' => e = .returned (.int .i64 0) ∧ Below w.heap.size w w')
    (h2 : ∀ w : World, Calls Tryz.prog 45 #[.string (sig.extract 0 32)] w fun e w' => e = .returned (.agg (nmc r)) ∧ Below w.heap.size w w')
    (h3 : ∀ w : World, Calls Tryz.prog 45 #[.string (sig.extract 32 sig.size)] w fun e w' => e = .returned (.agg (nmc t)) ∧ Below w.heap.size w w')
    (h4 : ∀ w : World, Calls Tryz.prog 47 #[.int .i64 1, .agg (nmc t)] w fun e w' => e = .returned (.tuple #[.agg (nmc i), .bool true]) ∧ Below w.heap.size w w')
    (h5 : ∀ w : World, Calls Tryz.prog 49 #[.int .i64 1] w fun e w' => e = .returned (.agg (nmc n)) ∧ Below w.heap.size w w')
    (h6 : ∀ w : World, Calls Tryz.prog 48 #[.agg (nmc r), .agg (nmc n)] w fun e w' => e = .returned (.agg (nmc rm)) ∧ Below w.heap.size w w')
    (h7 : ∀ w : World, Calls Tryz.prog 48 #[.agg (nmc t), .agg (nmc n)] w fun e w' => e = .returned (.agg (nmc tm)) ∧ Below w.heap.size w w') :
    Calls Tryz.prog 19 #[.agg (kvc kx ky), .string s, .string sig] w fun e w' => e = .returned (.bool false) ∧ Below w.heap.size w w' := by
  have HRL := Lib.hid hrl; have HTL := Lib.hid htl; have HRM := Lib.hid hrm; have HTM := Lib.hid htm; have HC1 := Lib.hid hc1; have HC2 := Lib.hid hc2; 
  have H1 := Lib.hid h1; have H2 := Lib.hid h2; have H3 := Lib.hid h3; have H4 := Lib.hid h4; have H5 := Lib.hid h5; have H6 := Lib.hid h6; have H7 := Lib.hid h7
  have hs1 : ∀ w : World, (Instr.sliceAt 9 (.string sig) none (some (.int .i64 ((32 : Nat) : Int))) none).run Tryz.prog w = .ok (.string (sig.extract 0 32)) w := run_cutS_h Tryz.underlying9 (by omega)
  have hs2 : ∀ w : World, (Instr.sliceAt 9 (.string sig) (some (.int .i64 ((32 : Nat) : Int))) none none).run Tryz.prog w = .ok (.string (sig.extract 32 sig.size)) w := run_cutS_l Tryz.underlying9 (by omega)
  have HS1 := Lib.hid hs1; have HS2 := Lib.hid hs2
  clear h1 h2 h3 h4 h5 h6 h7
  clear hs1 hs2 hrl htl hrm htm hc1 hc2 
  have hsz : (sig.size : Int) = 64 := by omega
  have hR0 := Rws.start w
  go_enter Tryz.func19, Tryz.ntmps19
  go_upto_region 3 with (first
    | (refine wK_box rfl (by rfl) (by assumption) rfl ?_; intro gk w1 hR)
    | (refine wK_alloc rfl (by rfl) (by assumption) ?_; intro go w1 hR)
    | (refine wP_alloc rfl (by rfl) (by assumption) ?_; intro gp w1 hR)
    | (refine wN_alloc rfl (by rfl) (by assumption) ?_; intro gn w1 hR)
    | (refine wK_load rfl (by rfl) (by assumption) rfl (by repeat (first | exact pzH | refine pzM ?_)) rfl ?_)
    | (refine wN_load rfl (by rfl) (by assumption) rfl (by repeat (first | exact pzH | refine pzM ?_)) rfl ?_)
    | (refine wK_store rfl (by rfl) (by assumption) rfl rfl (by repeat (first | exact Pick.here | apply Pick.there)) (by rfl) (by rfl) (by exact kvc_cells _ _) ?_; intro w1 hR)
    | (refine wN_store rfl (by rfl) (by assumption) rfl rfl (by repeat (first | exact Pick.here | apply Pick.there)) rfl rfl (by exact nmc_cells _) ?_; intro w1 hR)
    | (refine wP_store rfl (by rfl) (by assumption) rfl rfl (by repeat (first | exact Pick.here | apply Pick.there)) (by rfl) (by exact jv_size _) (by exact jv_cells _) ?_; intro w1 hR)
    | (go_at_call 11; refine (H1.out _).mono ?_; rintro e w1 ⟨rfl, hb1⟩; have hR := Rws.call (by assumption) hb1))
  clear hsz
  refine wp_region_calm 8 (by kernel_rfl) (by kernel_rfl) (by assumption) ?_
  refine lexC_move (by rfl) rfl ?_
  simp only [Act.put, pzT, pzA, pzB]
  refine lexC_cutv (by rfl) rfl rfl rfl HS1.out ?_
  simp only [Act.put, pzT, pzA, pzB]
  refine lexC_call rfl Tryz.func45 (by kernel_rfl) rfl rfl (fun w _ => H2.out w) ?_
  simp only [Act.put, pzT, pzA, pzB]
  refine lexC_move (by rfl) rfl ?_
  simp only [Act.put, pzT, pzA, pzB]
  refine lexC_cutv (by rfl) rfl rfl rfl HS2.out ?_
  simp only [Act.put, pzT, pzA, pzB]
  refine lexC_call rfl Tryz.func45 (by kernel_rfl) rfl rfl (fun w _ => H3.out w) ?_
  iterate 2 ((simp only [Act.put, pzT, pzA, pzB]); (refine lexC_alloc (by rfl) ?_))
  simp only [Act.put, pzT, pzA, pzB]
  refine lexC_zero ?_; simp only [pzC, pzD, pzE, pzF]; (repeat (first | (refine aN_cons (by rfl) ?_; intro g; simp only [Act.put, pzT, pzA, pzB]) | (refine afterAl_skip (by rfl) ?_))); refine afterAl_nil ?_; intro w1 hR
  go_upto_region 4 with (first
    | (refine wK_box rfl (by rfl) (by assumption) rfl ?_; intro gk w1 hR)
    | (refine wK_alloc rfl (by rfl) (by assumption) ?_; intro go w1 hR)
    | (refine wP_alloc rfl (by rfl) (by assumption) ?_; intro gp w1 hR)
    | (refine wN_alloc rfl (by rfl) (by assumption) ?_; intro gn w1 hR)
    | (refine wK_load rfl (by rfl) (by assumption) rfl (by repeat (first | exact pzH | refine pzM ?_)) rfl ?_)
    | (refine wN_load rfl (by rfl) (by assumption) rfl (by repeat (first | exact pzH | refine pzM ?_)) rfl ?_)
    | (refine wK_store rfl (by rfl) (by assumption) rfl rfl (by repeat (first | exact Pick.here | apply Pick.there)) (by rfl) (by rfl) (by exact kvc_cells _ _) ?_; intro w1 hR)
    | (refine wN_store rfl (by rfl) (by assumption) rfl rfl (by repeat (first | exact Pick.here | apply Pick.there)) rfl rfl (by exact nmc_cells _) ?_; intro w1 hR)
    | (refine wP_store rfl (by rfl) (by assumption) rfl rfl (by repeat (first | exact Pick.here | apply Pick.there)) (by rfl) (by exact jv_size _) (by exact jv_cells _) ?_; intro w1 hR))
  go_upto_region 5 with (first
    | (refine wK_box rfl (by rfl) (by assumption) rfl ?_; intro gk w1 hR)
    | (refine wK_alloc rfl (by rfl) (by assumption) ?_; intro go w1 hR)
    | (refine wP_alloc rfl (by rfl) (by assumption) ?_; intro gp w1 hR)
    | (refine wN_alloc rfl (by rfl) (by assumption) ?_; intro gn w1 hR)
    | (refine wK_load rfl (by rfl) (by assumption) rfl (by repeat (first | exact pzH | refine pzM ?_)) rfl ?_)
    | (refine wN_load rfl (by rfl) (by assumption) rfl (by repeat (first | exact pzH | refine pzM ?_)) rfl ?_)
    | (refine wK_store rfl (by rfl) (by assumption) rfl rfl (by repeat (first | exact Pick.here | apply Pick.there)) (by rfl) (by rfl) (by exact kvc_cells _ _) ?_; intro w1 hR)
    | (refine wN_store rfl (by rfl) (by assumption) rfl rfl (by repeat (first | exact Pick.here | apply Pick.there)) rfl rfl (by exact nmc_cells _) ?_; intro w1 hR)
    | (refine wP_store rfl (by rfl) (by assumption) rfl rfl (by repeat (first | exact Pick.here | apply Pick.there)) (by rfl) (by exact jv_size _) (by exact jv_cells _) ?_; intro w1 hR)
    | (go_at_call 47; refine (H4.out _).mono ?_; rintro e w1 ⟨rfl, hb1⟩; have hR := Rws.call (by assumption) hb1))
  refine wp_region_calm 20 (by kernel_rfl) (by kernel_rfl) (by assumption) ?_
  refine cN_load (by rfl) rfl (by repeat (first | exact pzH | refine pzM ?_)) rfl ?_
  simp only [Act.put, pzT, pzA, pzB]
  refine lexC_build (cs := nmc 0) (by rfl) (by kernel_rfl) ?_
  simp only [Act.put, pzT, pzA, pzB]
  refine cN_eq (b := false) (by rfl) rfl rfl HRL.out (by decide) HC1.out ?_
  simp only [Act.put, pzT, pzA, pzB]
  refine lexC_move (v := .bool false) (by rfl) rfl ?_
  simp only [Act.put, pzT, pzA, pzB]
  refine lexC_move (v := .bool true) (by rfl) rfl ?_
  simp only [Act.put, pzT, pzA, pzB]
  refine lexC_un (r := .bool false) (by rfl) rfl (fun _ => rfl) ?_
  simp only [Act.put, pzT, pzA, pzB]
  refine c_pickF (v := .bool false) (by rfl) rfl rfl ?_
  simp only [Act.put, pzT, pzA, pzB]
  refine lexC_move (v := .bool false) (by rfl) rfl ?_
  simp only [Act.put, pzT, pzA, pzB]
  refine cN_load (by rfl) rfl (by repeat (first | exact pzH | refine pzM ?_)) rfl ?_
  simp only [Act.put, pzT, pzA, pzB]
  refine lexC_call rfl Tryz.func49 (by kernel_rfl) rfl rfl (fun w _ => H5.out w) ?_
  simp only [Act.put, pzT, pzA, pzB]
  refine lexC_call rfl Tryz.func48 (by kernel_rfl) rfl rfl (fun w _ => H6.out w) ?_
  simp only [Act.put, pzT, pzA, pzB]
  refine cN_load (by rfl) rfl (by repeat (first | exact pzH | refine pzM ?_)) rfl ?_
  simp only [Act.put, pzT, pzA, pzB]
  refine cN_ne (b := true) (by rfl) rfl rfl HRM.out HRL.out HC2.out ?_
  simp only [Act.put, pzT, pzA, pzB]
  refine c_pickF (v := .bool true) (by rfl) rfl rfl ?_
  simp only [Act.put, pzT, pzA, pzB]
  refine lexC_move (v := .bool true) (by rfl) rfl ?_
  iterate 5 ((simp only [Act.put, pzT, pzA, pzB]); (refine lexC_skip (by rfl) (by rfl) ?_))
  simp only [Act.put, pzT, pzA, pzB]
  refine lexC_zero ?_; simp only [pzC, pzD, pzE, pzF]; (repeat (first | (refine aN_cons (by rfl) ?_; intro g; simp only [Act.put, pzT, pzA, pzB]) | (refine afterAl_skip (by rfl) ?_))); refine afterAl_nil ?_; intro w1 hR
  go_wp2_with fail
  go_ret
  exact ⟨rfl, hR.below⟩
set_option maxRecDepth 100000 in
set_option maxHeartbeats 3200000 in
theorem verify_no3 (kx ky s sig : ByteArray) (r t i n rm tm : Nat) (w : World) (hl : sig.size = 64) (hrl : r < 115792089237316195423570985008687907853269984665640564039457584007913129639936) (htl : t < 115792089237316195423570985008687907853269984665640564039457584007913129639936) (hrm : rm < 115792089237316195423570985008687907853269984665640564039457584007913129639936) (htm : tm < 115792089237316195423570985008687907853269984665640564039457584007913129639936) (hc1 : decide (r = 0) = false) (hc2 : (!decide (rm = r)) = false) (hc3 : (!decide (tm = t)) = true)
    (h1 : ∀ w : World, Calls Tryz.prog 11 #[.agg (kvc kx ky)] w fun e w' => e = .returned (.int .i64 0) ∧ Below w.heap.size w w')
    (h2 : ∀ w : World, Calls Tryz.prog 45 #[.string (sig.extract 0 32)] w fun e w' => e = .returned (.agg (nmc r)) ∧ Below w.heap.size w w')
    (h3 : ∀ w : World, Calls Tryz.prog 45 #[.string (sig.extract 32 sig.size)] w fun e w' => e = .returned (.agg (nmc t)) ∧ Below w.heap.size w w')
    (h4 : ∀ w : World, Calls Tryz.prog 47 #[.int .i64 1, .agg (nmc t)] w fun e w' => e = .returned (.tuple #[.agg (nmc i), .bool true]) ∧ Below w.heap.size w w')
    (h5 : ∀ w : World, Calls Tryz.prog 49 #[.int .i64 1] w fun e w' => e = .returned (.agg (nmc n)) ∧ Below w.heap.size w w')
    (h6 : ∀ w : World, Calls Tryz.prog 48 #[.agg (nmc r), .agg (nmc n)] w fun e w' => e = .returned (.agg (nmc rm)) ∧ Below w.heap.size w w')
    (h7 : ∀ w : World, Calls Tryz.prog 48 #[.agg (nmc t), .agg (nmc n)] w fun e w' => e = .returned (.agg (nmc tm)) ∧ Below w.heap.size w w') :
    Calls Tryz.prog 19 #[.agg (kvc kx ky), .string s, .string sig] w fun e w' => e = .returned (.bool false) ∧ Below w.heap.size w w' := by
  have HRL := Lib.hid hrl; have HTL := Lib.hid htl; have HRM := Lib.hid hrm; have HTM := Lib.hid htm; have HC1 := Lib.hid hc1; have HC2 := Lib.hid hc2; have HC3 := Lib.hid hc3; 
  have H1 := Lib.hid h1; have H2 := Lib.hid h2; have H3 := Lib.hid h3; have H4 := Lib.hid h4; have H5 := Lib.hid h5; have H6 := Lib.hid h6; have H7 := Lib.hid h7
  have hs1 : ∀ w : World, (Instr.sliceAt 9 (.string sig) none (some (.int .i64 ((32 : Nat) : Int))) none).run Tryz.prog w = .ok (.string (sig.extract 0 32)) w := run_cutS_h Tryz.underlying9 (by omega)
  have hs2 : ∀ w : World, (Instr.sliceAt 9 (.string sig) (some (.int .i64 ((32 : Nat) : Int))) none none).run Tryz.prog w = .ok (.string (sig.extract 32 sig.size)) w := run_cutS_l Tryz.underlying9 (by omega)
  have HS1 := Lib.hid hs1; have HS2 := Lib.hid hs2
  clear h1 h2 h3 h4 h5 h6 h7
  clear hs1 hs2 hrl htl hrm htm hc1 hc2 hc3
  have hsz : (sig.size : Int) = 64 := by omega
  have hR0 := Rws.start w
  go_enter Tryz.func19, Tryz.ntmps19
  go_upto_region 3 with (first
    | (refine wK_box rfl (by rfl) (by assumption) rfl ?_; intro gk w1 hR)
    | (refine wK_alloc rfl (by rfl) (by assumption) ?_; intro go w1 hR)
    | (refine wP_alloc rfl (by rfl) (by assumption) ?_; intro gp w1 hR)
    | (refine wN_alloc rfl (by rfl) (by assumption) ?_; intro gn w1 hR)
    | (refine wK_load rfl (by rfl) (by assumption) rfl (by repeat (first | exact pzH | refine pzM ?_)) rfl ?_)
    | (refine wN_load rfl (by rfl) (by assumption) rfl (by repeat (first | exact pzH | refine pzM ?_)) rfl ?_)
    | (refine wK_store rfl (by rfl) (by assumption) rfl rfl (by repeat (first | exact Pick.here | apply Pick.there)) (by rfl) (by rfl) (by exact kvc_cells _ _) ?_; intro w1 hR)
    | (refine wN_store rfl (by rfl) (by assumption) rfl rfl (by repeat (first | exact Pick.here | apply Pick.there)) rfl rfl (by exact nmc_cells _) ?_; intro w1 hR)
    | (refine wP_store rfl (by rfl) (by assumption) rfl rfl (by repeat (first | exact Pick.here | apply Pick.there)) (by rfl) (by exact jv_size _) (by exact jv_cells _) ?_; intro w1 hR)
    | (go_at_call 11; refine (H1.out _).mono ?_; rintro e w1 ⟨rfl, hb1⟩; have hR := Rws.call (by assumption) hb1))
  clear hsz
  refine wp_region_calm 8 (by kernel_rfl) (by kernel_rfl) (by assumption) ?_
  refine lexC_move (by rfl) rfl ?_
  simp only [Act.put, pzT, pzA, pzB]
  refine lexC_cutv (by rfl) rfl rfl rfl HS1.out ?_
  simp only [Act.put, pzT, pzA, pzB]
  refine lexC_call rfl Tryz.func45 (by kernel_rfl) rfl rfl (fun w _ => H2.out w) ?_
  simp only [Act.put, pzT, pzA, pzB]
  refine lexC_move (by rfl) rfl ?_
  simp only [Act.put, pzT, pzA, pzB]
  refine lexC_cutv (by rfl) rfl rfl rfl HS2.out ?_
  simp only [Act.put, pzT, pzA, pzB]
  refine lexC_call rfl Tryz.func45 (by kernel_rfl) rfl rfl (fun w _ => H3.out w) ?_
  iterate 2 ((simp only [Act.put, pzT, pzA, pzB]); (refine lexC_alloc (by rfl) ?_))
  simp only [Act.put, pzT, pzA, pzB]
  refine lexC_zero ?_; simp only [pzC, pzD, pzE, pzF]; (repeat (first | (refine aN_cons (by rfl) ?_; intro g; simp only [Act.put, pzT, pzA, pzB]) | (refine afterAl_skip (by rfl) ?_))); refine afterAl_nil ?_; intro w1 hR
  go_upto_region 4 with (first
    | (refine wK_box rfl (by rfl) (by assumption) rfl ?_; intro gk w1 hR)
    | (refine wK_alloc rfl (by rfl) (by assumption) ?_; intro go w1 hR)
    | (refine wP_alloc rfl (by rfl) (by assumption) ?_; intro gp w1 hR)
    | (refine wN_alloc rfl (by rfl) (by assumption) ?_; intro gn w1 hR)
    | (refine wK_load rfl (by rfl) (by assumption) rfl (by repeat (first | exact pzH | refine pzM ?_)) rfl ?_)
    | (refine wN_load rfl (by rfl) (by assumption) rfl (by repeat (first | exact pzH | refine pzM ?_)) rfl ?_)
    | (refine wK_store rfl (by rfl) (by assumption) rfl rfl (by repeat (first | exact Pick.here | apply Pick.there)) (by rfl) (by rfl) (by exact kvc_cells _ _) ?_; intro w1 hR)
    | (refine wN_store rfl (by rfl) (by assumption) rfl rfl (by repeat (first | exact Pick.here | apply Pick.there)) rfl rfl (by exact nmc_cells _) ?_; intro w1 hR)
    | (refine wP_store rfl (by rfl) (by assumption) rfl rfl (by repeat (first | exact Pick.here | apply Pick.there)) (by rfl) (by exact jv_size _) (by exact jv_cells _) ?_; intro w1 hR))
  go_upto_region 5 with (first
    | (refine wK_box rfl (by rfl) (by assumption) rfl ?_; intro gk w1 hR)
    | (refine wK_alloc rfl (by rfl) (by assumption) ?_; intro go w1 hR)
    | (refine wP_alloc rfl (by rfl) (by assumption) ?_; intro gp w1 hR)
    | (refine wN_alloc rfl (by rfl) (by assumption) ?_; intro gn w1 hR)
    | (refine wK_load rfl (by rfl) (by assumption) rfl (by repeat (first | exact pzH | refine pzM ?_)) rfl ?_)
    | (refine wN_load rfl (by rfl) (by assumption) rfl (by repeat (first | exact pzH | refine pzM ?_)) rfl ?_)
    | (refine wK_store rfl (by rfl) (by assumption) rfl rfl (by repeat (first | exact Pick.here | apply Pick.there)) (by rfl) (by rfl) (by exact kvc_cells _ _) ?_; intro w1 hR)
    | (refine wN_store rfl (by rfl) (by assumption) rfl rfl (by repeat (first | exact Pick.here | apply Pick.there)) rfl rfl (by exact nmc_cells _) ?_; intro w1 hR)
    | (refine wP_store rfl (by rfl) (by assumption) rfl rfl (by repeat (first | exact Pick.here | apply Pick.there)) (by rfl) (by exact jv_size _) (by exact jv_cells _) ?_; intro w1 hR)
    | (go_at_call 47; refine (H4.out _).mono ?_; rintro e w1 ⟨rfl, hb1⟩; have hR := Rws.call (by assumption) hb1))
  refine wp_region_calm 20 (by kernel_rfl) (by kernel_rfl) (by assumption) ?_
  refine cN_load (by rfl) rfl (by repeat (first | exact pzH | refine pzM ?_)) rfl ?_
  simp only [Act.put, pzT, pzA, pzB]
  refine lexC_build (cs := nmc 0) (by rfl) (by kernel_rfl) ?_
  simp only [Act.put, pzT, pzA, pzB]
  refine cN_eq (b := false) (by rfl) rfl rfl HRL.out (by decide) HC1.out ?_
  simp only [Act.put, pzT, pzA, pzB]
  refine lexC_move (v := .bool false) (by rfl) rfl ?_
  simp only [Act.put, pzT, pzA, pzB]
  refine lexC_move (v := .bool true) (by rfl) rfl ?_
  simp only [Act.put, pzT, pzA, pzB]
  refine lexC_un (r := .bool false) (by rfl) rfl (fun _ => rfl) ?_
  simp only [Act.put, pzT, pzA, pzB]
  refine c_pickF (v := .bool false) (by rfl) rfl rfl ?_
  simp only [Act.put, pzT, pzA, pzB]
  refine lexC_move (v := .bool false) (by rfl) rfl ?_
  simp only [Act.put, pzT, pzA, pzB]
  refine cN_load (by rfl) rfl (by repeat (first | exact pzH | refine pzM ?_)) rfl ?_
  simp only [Act.put, pzT, pzA, pzB]
  refine lexC_call rfl Tryz.func49 (by kernel_rfl) rfl rfl (fun w _ => H5.out w) ?_
  simp only [Act.put, pzT, pzA, pzB]
  refine lexC_call rfl Tryz.func48 (by kernel_rfl) rfl rfl (fun w _ => H6.out w) ?_
  simp only [Act.put, pzT, pzA, pzB]
  refine cN_load (by rfl) rfl (by repeat (first | exact pzH | refine pzM ?_)) rfl ?_
  simp only [Act.put, pzT, pzA, pzB]
  refine cN_ne (b := false) (by rfl) rfl rfl HRM.out HRL.out HC2.out ?_
  simp only [Act.put, pzT, pzA, pzB]
  refine c_pickF (v := .bool false) (by rfl) rfl rfl ?_
  simp only [Act.put, pzT, pzA, pzB]
  refine lexC_move (v := .bool false) (by rfl) rfl ?_
  simp only [Act.put, pzT, pzA, pzB]
  refine cN_load (by rfl) rfl (by repeat (first | exact pzH | refine pzM ?_)) rfl ?_
  simp only [Act.put, pzT, pzA, pzB]
  refine lexC_call rfl Tryz.func49 (by kernel_rfl) rfl rfl (fun w _ => H5.out w) ?_
  simp only [Act.put, pzT, pzA, pzB]
  refine lexC_call rfl Tryz.func48 (by kernel_rfl) rfl rfl (fun w _ => H7.out w) ?_
  simp only [Act.put, pzT, pzA, pzB]
  refine cN_load (by rfl) rfl (by repeat (first | exact pzH | refine pzM ?_)) rfl ?_
  simp only [Act.put, pzT, pzA, pzB]
  refine cN_ne (b := true) (by rfl) rfl rfl HTM.out HTL.out HC3.out ?_
  simp only [Act.put, pzT, pzA, pzB]
  refine lexC_zero ?_; simp only [pzC, pzD, pzE, pzF]; (repeat (first | (refine aN_cons (by rfl) ?_; intro g; simp only [Act.put, pzT, pzA, pzB]) | (refine afterAl_skip (by rfl) ?_))); refine afterAl_nil ?_; intro w1 hR
  go_wp2_with fail
  go_ret
  exact ⟨rfl, hR.below⟩
end Go.Proofs.YtaggpodckafbgaaGreatDoor
