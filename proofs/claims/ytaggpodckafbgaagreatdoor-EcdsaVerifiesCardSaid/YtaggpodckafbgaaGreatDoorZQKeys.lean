/- The reference's Check, AddKeys (layer 5): the walks. -/
import Derived.Test.YtaggpodckafbgaaGreatDoorZQ6
import Derived.Test.YtaggpodckafbgaaGreatDoorZA0
namespace Go.Proofs.YtaggpodckafbgaaGreatDoor
open Go.RowKit
def checkB (kx ky : ByteArray) : Bool := match inK kx ky with
  | some (.at _ _) => true
  | _ => false
theorem in_none {kx ky : ByteArray} (h : inK kx ky = none) (w : World) : Calls Tryz.prog 13 #[.agg (kvc kx ky)] w fun e w' => ∃ pv : Array Value, pv.size = 3 ∧ pv.all (·.oneCell') = true ∧ e = .returned (.tuple #[.agg pv, .bool false]) ∧ Below w.heap.size w w' :=
  (rin_any kx ky w).mono fun _ _ ⟨pv, h1, h2, h3, _, h5⟩ => ⟨pv, h1, h2, by rw [h3, h]; rfl, h5⟩
theorem in_some {kx ky : ByteArray} {A : Ec.Pt Ec.P} (h : inK kx ky = some A) (w : World) : Calls Tryz.prog 13 #[.agg (kvc kx ky)] w fun e w' => ∃ pv : Array Value, e = .returned (.tuple #[.agg pv, .bool true]) ∧ PtC w' pv A ∧ Below w.heap.size w w' :=
  (rin_any kx ky w).mono fun _ _ ⟨pv, h1, h2, h3, h4, h5⟩ => ⟨pv, by rw [h3, h]; rfl, h4 A h, h5⟩
theorem wA_alloc {B : Nat} {w0 w : World} {L : List (Nat × Array Value × TypeId)} {ops : Array Oper} {rest : List Oper} {a : Act} {Q : Exit → Act → World → Prop} {o : Oper} (hgd : o.guard = none) (ty : TypeId) (ho : o.op = .alloc ty) (h : Rws B w0 w L) (cs : Array Value) (hz : ∀ w : World, (zeroValue ty).run Tryz.prog w = .ok (.agg cs) w)
    (hK : ∀ g w', Rws B w0 w' ((g, cs, ty) :: L) → Below w.heap.size w w' → wpList Tryz.prog ops Q rest (a.put o.dst (.pointer (some ⟨g, 0, none⟩))) w') : wpList Tryz.prog ops Q (o :: rest) a w :=
  wpList_plain hgd fun K hKK => by
    unfold Oper.wp execOp
    simp only [ho, Instr.alloc, Sem.run_bind, hz, Result.andThen_ok]
    exact hKK _ _ (hK _ _ (h.alloc cs ty) ((Below.refl _ _).alloc (Nat.le_refl _) _))
set_option maxRecDepth 100000 in
theorem rcheck_any (kx ky : ByteArray) (w : World) : Calls Tryz.prog 15 #[.agg (kvc kx ky)] w fun e w' => e = .returned (.bool (checkB kx ky)) ∧ Below w.heap.size w w' := by
  unfold checkB
  cases hA : inK kx ky with
  | none =>
    have H1 := Lib.hid (fun w => in_none hA w)
    clear hA
    have hR0 := Rws.start w
    go_enter Tryz.func15, Tryz.ntmps15
    go_wp2_with (first | (refine wpList_box_rws rfl _ _ (by rfl) (by assumption) _ rfl ?_; intro gp w1 hR) | (refine wpList_alloc_rws rfl _ (by rfl) (by assumption) _ (by first | exact zero_pt | exact zero_ln | exact zero_key) ?_; intro gr w1 hR) | (refine wF_load rfl (by rfl) (by assumption) rfl (by repeat (first | exact pzH | refine pzM ?_)) (by first | exact c3_0 | exact c3_1 | exact c3_2 | exact c2_0 | exact c2_1) (by first | exact isAgg_b | exact isAgg_q | exact isAgg_str) ?_) | (refine wQ_load rfl (by rfl) (by assumption) rfl (by repeat (first | exact pzH | refine pzM ?_)) (by first | rfl | exact PtC.size (by assumption)) ?_) | (refine wQ_loadL rfl (by rfl) (by assumption) rfl (by repeat (first | exact pzH | refine pzM ?_)) (by first | rfl | exact LnC.size (by assumption)) ?_) | (refine wK_load rfl (by rfl) (by assumption) rfl (by repeat (first | exact pzH | refine pzM ?_)) rfl ?_))
    refine (H1.out _).mono ?_
    rintro e w1 ⟨pv, hs, hc, rfl, hb1⟩
    have hR := Rws.call (by assumption) hb1
    go_wp2_with (first | (refine wpList_box_rws rfl _ _ (by rfl) (by assumption) _ rfl ?_; intro gp w1 hR) | (refine wpList_alloc_rws rfl _ (by rfl) (by assumption) _ (by first | exact zero_pt | exact zero_ln | exact zero_key) ?_; intro gr w1 hR) | (refine wF_load rfl (by rfl) (by assumption) rfl (by repeat (first | exact pzH | refine pzM ?_)) (by first | exact c3_0 | exact c3_1 | exact c3_2 | exact c2_0 | exact c2_1) (by first | exact isAgg_b | exact isAgg_q | exact isAgg_str) ?_) | (refine wQ_load rfl (by rfl) (by assumption) rfl (by repeat (first | exact pzH | refine pzM ?_)) (by first | rfl | exact PtC.size (by assumption)) ?_) | (refine wQ_loadL rfl (by rfl) (by assumption) rfl (by repeat (first | exact pzH | refine pzM ?_)) (by first | rfl | exact LnC.size (by assumption)) ?_) | (refine wB_store rfl (by rfl) (by assumption) rfl rfl (by repeat (first | exact Pick.here | apply Pick.there)) (by exact pt_info hs) (by rw [hs]; rfl) (by exact hc) ?_; intro w1 hR hbt hrr))
    go_ret
    exact ⟨rfl, Rws.below (by assumption)⟩
  | some A =>
    have H1 := Lib.hid (fun w => in_some hA w)
    clear hA
    have hR0 := Rws.start w
    cases A with
    | inf =>
      go_enter Tryz.func15, Tryz.ntmps15
      go_wp2_with (first | (refine wpList_box_rws rfl _ _ (by rfl) (by assumption) _ rfl ?_; intro gp w1 hR) | (refine wpList_alloc_rws rfl _ (by rfl) (by assumption) _ (by first | exact zero_pt | exact zero_ln | exact zero_key) ?_; intro gr w1 hR) | (refine wF_load rfl (by rfl) (by assumption) rfl (by repeat (first | exact pzH | refine pzM ?_)) (by first | exact c3_0 | exact c3_1 | exact c3_2 | exact c2_0 | exact c2_1) (by first | exact isAgg_b | exact isAgg_q | exact isAgg_str) ?_) | (refine wQ_load rfl (by rfl) (by assumption) rfl (by repeat (first | exact pzH | refine pzM ?_)) (by first | rfl | exact PtC.size (by assumption)) ?_) | (refine wQ_loadL rfl (by rfl) (by assumption) rfl (by repeat (first | exact pzH | refine pzM ?_)) (by first | rfl | exact LnC.size (by assumption)) ?_) | (refine wK_load rfl (by rfl) (by assumption) rfl (by repeat (first | exact pzH | refine pzM ?_)) rfl ?_))
      refine (H1.out _).mono ?_
      rintro e w1 ⟨pv, rfl, hp, hb1⟩
      obtain rfl : pv = #[.bool true, nilS, nilS] := hp
      have hR := Rws.call (by assumption) hb1
      go_upto_region 2 with (first | (refine wpList_box_rws rfl _ _ (by rfl) (by assumption) _ rfl ?_; intro gp w1 hR) | (refine wpList_alloc_rws rfl _ (by rfl) (by assumption) _ (by first | exact zero_pt | exact zero_ln | exact zero_key) ?_; intro gr w1 hR) | (refine wF_load rfl (by rfl) (by assumption) rfl (by repeat (first | exact pzH | refine pzM ?_)) (by first | exact c3_0 | exact c3_1 | exact c3_2 | exact c2_0 | exact c2_1) (by first | exact isAgg_b | exact isAgg_q | exact isAgg_str) ?_) | (refine wQ_load rfl (by rfl) (by assumption) rfl (by repeat (first | exact pzH | refine pzM ?_)) (by first | rfl | exact PtC.size (by assumption)) ?_) | (refine wQ_loadL rfl (by rfl) (by assumption) rfl (by repeat (first | exact pzH | refine pzM ?_)) (by first | rfl | exact LnC.size (by assumption)) ?_) | (refine wB_store rfl (by rfl) (by assumption) rfl rfl (by repeat (first | exact Pick.here | apply Pick.there)) (by first | exact pt_info (by rfl) | exact pt_info (PtC.size (by assumption)) | exact ln_info (by rfl) | exact ln_info (LnC.size (by assumption)) | exact key_info (by rfl)) (by first | rfl | (rw [PtC.size (by assumption)]; rfl) | (rw [LnC.size (by assumption)]; rfl)) (by first | rfl | exact inf_cells | exact zpt_cells | exact zln_cells | exact PtC.cells (by assumption) | exact LnC.cells (by assumption)) ?_; intro w1 hR hbt hrr))
      have k0 := cell_of_row w1 _ 0 _ _ _ (hR.row _ (List.Mem.head _)).2
      simp only [c3_0] at k0
      go_wp2_with fail
      go_ret
      exact ⟨rfl, Rws.below (by assumption)⟩
    | «at» x y =>
      go_enter Tryz.func15, Tryz.ntmps15
      go_wp2_with (first | (refine wpList_box_rws rfl _ _ (by rfl) (by assumption) _ rfl ?_; intro gp w1 hR) | (refine wpList_alloc_rws rfl _ (by rfl) (by assumption) _ (by first | exact zero_pt | exact zero_ln | exact zero_key) ?_; intro gr w1 hR) | (refine wF_load rfl (by rfl) (by assumption) rfl (by repeat (first | exact pzH | refine pzM ?_)) (by first | exact c3_0 | exact c3_1 | exact c3_2 | exact c2_0 | exact c2_1) (by first | exact isAgg_b | exact isAgg_q | exact isAgg_str) ?_) | (refine wQ_load rfl (by rfl) (by assumption) rfl (by repeat (first | exact pzH | refine pzM ?_)) (by first | rfl | exact PtC.size (by assumption)) ?_) | (refine wQ_loadL rfl (by rfl) (by assumption) rfl (by repeat (first | exact pzH | refine pzM ?_)) (by first | rfl | exact LnC.size (by assumption)) ?_) | (refine wK_load rfl (by rfl) (by assumption) rfl (by repeat (first | exact pzH | refine pzM ?_)) rfl ?_))
      refine (H1.out _).mono ?_
      rintro e w1 ⟨pv, rfl, hp, hb1⟩
      obtain ⟨X, Y, rfl, hX, hY⟩ := hp
      have hR := Rws.call (by assumption) hb1
      go_upto_region 2 with (first | (refine wpList_box_rws rfl _ _ (by rfl) (by assumption) _ rfl ?_; intro gp w1 hR) | (refine wpList_alloc_rws rfl _ (by rfl) (by assumption) _ (by first | exact zero_pt | exact zero_ln | exact zero_key) ?_; intro gr w1 hR) | (refine wF_load rfl (by rfl) (by assumption) rfl (by repeat (first | exact pzH | refine pzM ?_)) (by first | exact c3_0 | exact c3_1 | exact c3_2 | exact c2_0 | exact c2_1) (by first | exact isAgg_b | exact isAgg_q | exact isAgg_str) ?_) | (refine wQ_load rfl (by rfl) (by assumption) rfl (by repeat (first | exact pzH | refine pzM ?_)) (by first | rfl | exact PtC.size (by assumption)) ?_) | (refine wQ_loadL rfl (by rfl) (by assumption) rfl (by repeat (first | exact pzH | refine pzM ?_)) (by first | rfl | exact LnC.size (by assumption)) ?_) | (refine wB_store rfl (by rfl) (by assumption) rfl rfl (by repeat (first | exact Pick.here | apply Pick.there)) (by exact pt_info (by rfl)) (by rfl) (by simp [hX.one, hY.one]; rfl) ?_; intro w1 hR hbt hrr))
      have k0 := cell_of_row w1 _ 0 _ _ _ (hR.row _ (List.Mem.head _)).2
      simp only [c3_0] at k0
      go_wp2_with fail
      go_ret
      exact ⟨rfl, Rws.below (by assumption)⟩
end Go.Proofs.YtaggpodckafbgaaGreatDoor
