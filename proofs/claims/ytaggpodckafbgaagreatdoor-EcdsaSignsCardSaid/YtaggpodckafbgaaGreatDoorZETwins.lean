/- EcdsaTwins: for every input true. -/
import Derived.Test.YtaggpodckafbgaaGreatDoorZEF
import Derived.Test.YtaggpodckafbgaaGreatDoorZELawKit2
import Derived.Test.YtaggpodckafbgaaGreatDoorZV3
namespace Go.Proofs.YtaggpodckafbgaaGreatDoor
open Go.RowKit

theorem run_adds {P : Program} {t : TypeId} {a b : ByteArray} (h : a.size + b.size ≤ 4611686018427387904) (w : World) : (binOp .add t (.string a) (.string b)).run P w = .ok (.string (a ++ b)) w := by
  simp [binOp, Op.stringOp]
  omega
theorem run_eqb (a b : Bool) (w : World) : (binOp .eql 4 (.bool a) (.bool b)).run Tryz.prog w = .ok (.bool (a == b)) w := by
  cases a <;> cases b <;> kernel_rfl

set_option maxRecDepth 100000 in
set_option maxHeartbeats 3200000 in
theorem twins_len (kx ky s sig : ByteArray) (w : World) (hl : ¬ (sig.size : Int) = 64)
    (h0 : ∀ w : World, Calls Tryz.prog 14 #[] w fun e w' => e = .returned (.bool true) ∧ Below w.heap.size w w')
    (h1 : ∀ w : World, Calls Tryz.prog 19 #[.agg (kvc kx ky), .string s, .string sig] w fun e w' => e = .returned (.bool false) ∧ Below w.heap.size w w') :
    Calls Tryz.prog 7 #[.agg (kvc kx ky), .string s, .string sig] w fun e w' => e = .returned (.bool true) ∧ Below w.heap.size w w' := by
  have H0 := Lib.hid h0; have H1 := Lib.hid h1
  clear h0 h1
  have hR0 := Rws.start w
  go_enter Tryz.func7, Tryz.ntmps7
  go_wp2_with (first | (refine wK_box rfl (by rfl) (by assumption) rfl ?_; intro gk w1 hR) | (refine wK_load rfl (by rfl) (by assumption) rfl (by repeat (first | exact List.Mem.head _ | refine List.Mem.tail _ ?_)) rfl ?_) | (go_at_call 14; refine (H0.out _).mono ?_; rintro e w1 ⟨rfl, hb1⟩; have hR := Rws.call (by assumption) hb1) | (go_at_call 19; refine (H1.out _).mono ?_; rintro e w1 ⟨rfl, hb1⟩; have hR := Rws.call (by assumption) hb1))
  go_ret
  exact ⟨rfl, Rws.below (by assumption)⟩

set_option maxRecDepth 100000 in
set_option maxHeartbeats 3200000 in
theorem twins_over (kx ky s sig n : ByteArray) (w : World) (hl : (sig.size : Int) = 64)
    (h0 : ∀ w : World, Calls Tryz.prog 14 #[] w fun e w' => e = .returned (.bool true) ∧ Below w.heap.size w w')
    (h1 : ∀ w : World, Calls Tryz.prog 19 #[.agg (kvc kx ky), .string s, .string sig] w fun e w' => e = .returned (.bool false) ∧ Below w.heap.size w w')
    (h2 : ∀ w : World, Calls Tryz.prog 21 #[] w fun e w' => e = .returned (.string n) ∧ Below w.heap.size w w')
    (h3 : ∀ w : World, Calls Tryz.prog 22 #[.string n, .string (sig.extract 32 sig.size)] w fun e w' => e = .returned (.tuple #[.string ⟨#[]⟩, .int .i64 32]) ∧ Below w.heap.size w w') :
    Calls Tryz.prog 7 #[.agg (kvc kx ky), .string s, .string sig] w fun e w' => e = .returned (.bool true) ∧ Below w.heap.size w w' := by
  have H0 := Lib.hid h0; have H1 := Lib.hid h1; have H2 := Lib.hid h2; have H3 := Lib.hid h3
  clear h0 h1 h2 h3
  have hR0 := Rws.start w
  go_enter Tryz.func7, Tryz.ntmps7
  go_wp2_with (first | (refine wK_box rfl (by rfl) (by assumption) rfl ?_; intro gk w1 hR) | (refine wK_load rfl (by rfl) (by assumption) rfl (by repeat (first | exact List.Mem.head _ | refine List.Mem.tail _ ?_)) rfl ?_) | (go_at_call 14; refine (H0.out _).mono ?_; rintro e w1 ⟨rfl, hb1⟩; have hR := Rws.call (by assumption) hb1) | (go_at_call 19; refine (H1.out _).mono ?_; rintro e w1 ⟨rfl, hb1⟩; have hR := Rws.call (by assumption) hb1) | (go_at_call 21; refine (H2.out _).mono ?_; rintro e w1 ⟨rfl, hb1⟩; have hR := Rws.call (by assumption) hb1) | (go_at_call 22; refine (H3.out _).mono ?_; rintro e w1 ⟨rfl, hb1⟩; have hR := Rws.call (by assumption) hb1))
  go_ret
  exact ⟨rfl, Rws.below (by assumption)⟩

set_option maxRecDepth 100000 in
set_option maxHeartbeats 3200000 in
theorem twins_none (kx ky s sig n x : ByteArray) (w : World) (hl : (sig.size : Int) = 64)
    (h0 : ∀ w : World, Calls Tryz.prog 14 #[] w fun e w' => e = .returned (.bool true) ∧ Below w.heap.size w w')
    (h1 : ∀ w : World, Calls Tryz.prog 19 #[.agg (kvc kx ky), .string s, .string sig] w fun e w' => e = .returned (.bool false) ∧ Below w.heap.size w w')
    (h2 : ∀ w : World, Calls Tryz.prog 21 #[] w fun e w' => e = .returned (.string n) ∧ Below w.heap.size w w')
    (h3 : ∀ w : World, Calls Tryz.prog 22 #[.string n, .string (sig.extract 32 sig.size)] w fun e w' => e = .returned (.tuple #[.string x, .int .i64 0]) ∧ Below w.heap.size w w')
    (h4 : ∀ w : World, Calls Tryz.prog 23 #[.string (sig.extract 32 sig.size)] w fun e w' => e = .returned (.string ⟨#[]⟩) ∧ Below w.heap.size w w') :
    Calls Tryz.prog 7 #[.agg (kvc kx ky), .string s, .string sig] w fun e w' => e = .returned (.bool true) ∧ Below w.heap.size w w' := by
  have H0 := Lib.hid h0; have H1 := Lib.hid h1; have H2 := Lib.hid h2; have H3 := Lib.hid h3; have H4 := Lib.hid h4
  clear h0 h1 h2 h3 h4
  have hR0 := Rws.start w
  go_enter Tryz.func7, Tryz.ntmps7
  go_wp2_with (first | (refine wK_box rfl (by rfl) (by assumption) rfl ?_; intro gk w1 hR) | (refine wK_load rfl (by rfl) (by assumption) rfl (by repeat (first | exact List.Mem.head _ | refine List.Mem.tail _ ?_)) rfl ?_) | (go_at_call 14; refine (H0.out _).mono ?_; rintro e w1 ⟨rfl, hb1⟩; have hR := Rws.call (by assumption) hb1) | (go_at_call 19; refine (H1.out _).mono ?_; rintro e w1 ⟨rfl, hb1⟩; have hR := Rws.call (by assumption) hb1) | (go_at_call 21; refine (H2.out _).mono ?_; rintro e w1 ⟨rfl, hb1⟩; have hR := Rws.call (by assumption) hb1) | (go_at_call 22; refine (H3.out _).mono ?_; rintro e w1 ⟨rfl, hb1⟩; have hR := Rws.call (by assumption) hb1) | (go_at_call 23; refine (H4.out _).mono ?_; rintro e w1 ⟨rfl, hb1⟩; have hR := Rws.call (by assumption) hb1))
  go_ret
  exact ⟨rfl, Rws.below (by assumption)⟩

set_option maxRecDepth 100000 in
set_option maxHeartbeats 3200000 in
theorem twins_two (kx ky s sig n x y z : ByteArray) (w : World) (a : Bool) (hl : (sig.size : Int) = 64) (hz : z.size = 32) (hy : y.toList.isEmpty = false)
    (h0 : ∀ w : World, Calls Tryz.prog 14 #[] w fun e w' => e = .returned (.bool true) ∧ Below w.heap.size w w')
    (h1 : ∀ w : World, Calls Tryz.prog 19 #[.agg (kvc kx ky), .string s, .string sig] w fun e w' => e = .returned (.bool a) ∧ Below w.heap.size w w')
    (h2 : ∀ w : World, Calls Tryz.prog 21 #[] w fun e w' => e = .returned (.string n) ∧ Below w.heap.size w w')
    (h3 : ∀ w : World, Calls Tryz.prog 22 #[.string n, .string (sig.extract 32 sig.size)] w fun e w' => e = .returned (.tuple #[.string x, .int .i64 0]) ∧ Below w.heap.size w w')
    (h4 : ∀ w : World, Calls Tryz.prog 23 #[.string (sig.extract 32 sig.size)] w fun e w' => e = .returned (.string y) ∧ Below w.heap.size w w')
    (h5 : ∀ w : World, Calls Tryz.prog 24 #[.string x, .int .i64 32] w fun e w' => e = .returned (.tuple #[.string z, .int .i64 0]) ∧ Below w.heap.size w w')
    (h6 : ∀ w : World, Calls Tryz.prog 19 #[.agg (kvc kx ky), .string s, .string (sig.extract 0 32 ++ z)] w fun e w' => e = .returned (.bool a) ∧ Below w.heap.size w w') :
    Calls Tryz.prog 7 #[.agg (kvc kx ky), .string s, .string sig] w fun e w' => e = .returned (.bool true) ∧ Below w.heap.size w w' := by
  have H0 := Lib.hid h0; have H1 := Lib.hid h1; have H2 := Lib.hid h2; have H3 := Lib.hid h3; have H4 := Lib.hid h4; have H5 := Lib.hid h5; have H6 := Lib.hid h6
  clear h0 h1 h2 h3 h4 h5 h6
  have hs1 : ∀ w : World, (Instr.sliceAt 9 (.string sig) none (some (.int .i64 ((32 : Nat) : Int))) none).run Tryz.prog w = .ok (.string (sig.extract 0 32)) w := run_cutS_h Tryz.underlying9 (by omega)
  have hs2 : ∀ w : World, (binOp .add 9 (.string (sig.extract 0 32)) (.string z)).run Tryz.prog w = .ok (.string (sig.extract 0 32 ++ z)) w := run_adds (by rw [ByteArray.size_extract]; omega)
  have HS1 := Lib.hid hs1; have HS2 := Lib.hid hs2
  clear hs1 hs2 hz
  have hR0 := Rws.start w
  go_enter Tryz.func7, Tryz.ntmps7
  go_upto_region 10 with (first | (refine wK_box rfl (by rfl) (by assumption) rfl ?_; intro gk w1 hR) | (refine wK_load rfl (by rfl) (by assumption) rfl (by repeat (first | exact List.Mem.head _ | refine List.Mem.tail _ ?_)) rfl ?_) | (go_at_call 14; refine (H0.out _).mono ?_; rintro e w1 ⟨rfl, hb1⟩; have hR := Rws.call (by assumption) hb1) | (go_at_call 21; refine (H2.out _).mono ?_; rintro e w1 ⟨rfl, hb1⟩; have hR := Rws.call (by assumption) hb1) | (go_at_call 22; refine (H3.out _).mono ?_; rintro e w1 ⟨rfl, hb1⟩; have hR := Rws.call (by assumption) hb1) | (go_at_call 23; refine (H4.out _).mono ?_; rintro e w1 ⟨rfl, hb1⟩; have hR := Rws.call (by assumption) hb1) | (go_at_call 24; refine (H5.out _).mono ?_; rintro e w1 ⟨rfl, hb1⟩; have hR := Rws.call (by assumption) hb1))
  refine wp_region_calm 16 (by kernel_rfl) (by kernel_rfl) (by assumption) ?_
  refine lexC_move (by rfl) rfl ?_
  simp only [Act.put, List.setIfInBounds_toArray, List.set_cons_succ, List.set_cons_zero]
  refine lexC_bin (u := .int .i64 0) (v := .int .i64 0) (r := .bool true) (by rfl) rfl rfl (fun _ => rfl) (fun _ => rfl) ?_
  simp only [Act.put, List.setIfInBounds_toArray, List.set_cons_succ, List.set_cons_zero]
  refine lexC_move (v := .bool true) (by rfl) rfl ?_
  simp only [Act.put, List.setIfInBounds_toArray, List.set_cons_succ, List.set_cons_zero]
  refine lexC_load0 (cs := kvc kx ky) (by rfl) rfl (by repeat (first | exact List.Mem.head _ | refine List.Mem.tail _ ?_)) Tryz.underlying23 rfl (by exact key_info rfl) ?_
  simp only [Act.put, List.setIfInBounds_toArray, List.set_cons_succ, List.set_cons_zero]
  refine lexC_move (by rfl) rfl ?_
  simp only [Act.put, List.setIfInBounds_toArray, List.set_cons_succ, List.set_cons_zero]
  refine lexC_move (by rfl) rfl ?_
  simp only [Act.put, List.setIfInBounds_toArray, List.set_cons_succ, List.set_cons_zero]
  refine lexC_call rfl Tryz.func19 (by kernel_rfl) rfl rfl (fun w _ => H1.out w) ?_
  simp only [Act.put, List.setIfInBounds_toArray, List.set_cons_succ, List.set_cons_zero]
  refine lexC_load0 (cs := kvc kx ky) (by rfl) rfl (by repeat (first | exact List.Mem.head _ | refine List.Mem.tail _ ?_)) Tryz.underlying23 rfl (by exact key_info rfl) ?_
  simp only [Act.put, List.setIfInBounds_toArray, List.set_cons_succ, List.set_cons_zero]
  refine lexC_move (by rfl) rfl ?_
  simp only [Act.put, List.setIfInBounds_toArray, List.set_cons_succ, List.set_cons_zero]
  refine lexC_move (by rfl) rfl ?_
  simp only [Act.put, List.setIfInBounds_toArray, List.set_cons_succ, List.set_cons_zero]
  refine lexC_cutv (by rfl) rfl rfl rfl HS1.out ?_
  simp only [Act.put, List.setIfInBounds_toArray, List.set_cons_succ, List.set_cons_zero]
  refine lexC_move (by rfl) rfl ?_
  simp only [Act.put, List.setIfInBounds_toArray, List.set_cons_succ, List.set_cons_zero]
  refine lexC_bin (u := .string (sig.extract 0 32)) (v := .string z) (by rfl) rfl rfl HS2.out (fun _ => rfl) ?_
  simp only [Act.put, List.setIfInBounds_toArray, List.set_cons_succ, List.set_cons_zero]
  refine lexC_call rfl Tryz.func19 (by kernel_rfl) rfl rfl (fun w _ => H6.out w) ?_
  simp only [Act.put, List.setIfInBounds_toArray, List.set_cons_succ, List.set_cons_zero]
  refine lexC_bin (u := .bool a) (v := .bool a) (r := .bool true) (by rfl) rfl rfl (fun w => by rw [run_eqb, beq_self_eq_true]) (fun _ => rfl) ?_
  simp only [Act.put, List.setIfInBounds_toArray, List.set_cons_succ, List.set_cons_zero]
  refine c_pickT (v := .bool true) (by rfl) rfl rfl ?_
  simp only [Act.put, List.setIfInBounds_toArray, List.set_cons_succ, List.set_cons_zero]
  refine lexC_zero ?_; simp only [List.take_succ_cons, List.take_zero, List.drop_succ_cons, List.drop_zero]; (repeat (first | (refine aN_cons (by rfl) ?_; intro g; simp only [Act.put, List.setIfInBounds_toArray, List.set_cons_succ, List.set_cons_zero]) | (refine afterAl_skip (by rfl) ?_))); refine afterAl_nil ?_; intro w1 hR
  go_wp2_with fail
  go_ret
  exact ⟨rfl, Rws.below (by assumption)⟩
end Go.Proofs.YtaggpodckafbgaaGreatDoor
