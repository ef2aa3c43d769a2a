/- The reference's Check, AddKeys (layer 5): the walks. -/
import Derived.Test.YtaggpodckafbgaaGreatDoorZQ6
namespace Go.Proofs.YtaggpodckafbgaaGreatDoor
open Go.RowKit

/-- May it be a key? -/
def checkB (kx ky : ByteArray) : Bool := match inK kx ky with
  | some (.at _ _) => true
  | _ => false
theorem in_none {kx ky : ByteArray} (h : inK kx ky = none) (w : World) : Calls Tryz.prog 13 #[.agg (kvc kx ky)] w fun e w' => ∃ pv : Array Value, pv.size = 3 ∧ pv.all (·.oneCell') = true ∧ e = .returned (.tuple #[.agg pv, .bool false]) ∧ Below w.heap.size w w' :=
  (rin_any kx ky w).mono fun _ _ ⟨pv, h1, h2, h3, _, h5⟩ => ⟨pv, h1, h2, by rw [h3, h]; rfl, h5⟩
theorem in_some {kx ky : ByteArray} {A : Ec.Pt Ec.P} (h : inK kx ky = some A) (w : World) : Calls Tryz.prog 13 #[.agg (kvc kx ky)] w fun e w' => ∃ pv : Array Value, e = .returned (.tuple #[.agg pv, .bool true]) ∧ PtC w' pv A ∧ Below w.heap.size w w' :=
  (rin_any kx ky w).mono fun _ _ ⟨pv, h1, h2, h3, h4, h5⟩ => ⟨pv, by rw [h3, h]; rfl, h4 A h, h5⟩

theorem in_all (kx ky : ByteArray) (w : World) : Calls Tryz.prog 13 #[.agg (kvc kx ky)] w fun e w' => ∃ pv : Array Value, pv.size = 3 ∧ pv.all (·.oneCell') = true ∧ e = .returned (.tuple #[.agg pv, .bool (inK kx ky).isSome]) ∧ Below w.heap.size w w' :=
  (rin_any kx ky w).mono fun _ _ ⟨pv, h1, h2, h3, _, h5⟩ => ⟨pv, h1, h2, h3, h5⟩
/-- A variable of its own is made: only a new block. -/
theorem wA_alloc {B : Nat} {w0 w : World} {L : List (Nat × Array Value × TypeId)} {ops : Array Oper} {rest : List Oper} {a : Act} {Q : Exit → Act → World → Prop} {o : Oper} (hgd : o.guard = none) (ty : TypeId) (ho : o.op = .alloc ty) (h : Rws B w0 w L) (cs : Array Value) (hz : ∀ w : World, (zeroValue ty).run Tryz.prog w = .ok (.agg cs) w)
    (hK : ∀ g w', Rws B w0 w' ((g, cs, ty) :: L) → Below w.heap.size w w' → wpList Tryz.prog ops Q rest (a.put o.dst (.pointer (some ⟨g, 0, none⟩))) w') : wpList Tryz.prog ops Q (o :: rest) a w :=
  wpList_plain hgd fun K hKK => by
    unfold Oper.wp execOp
    simp only [ho, Instr.alloc, Sem.run_bind, hz, Result.andThen_ok]
    exact hKK _ _ (hK _ _ (h.alloc cs ty) ((Below.refl _ _).alloc (Nat.le_refl _) _))

set_option maxRecDepth 100000 in
theorem rcheck_any (kx ky : ByteArray) (w : World) : Calls Tryz.prog 15 #[.agg (kvc kx ky)] w fun e w' => e = .returned (.bool (checkB kx ky)) ∧ Below w.heap.size w w' := by
  unfold checkB
  cases hA : inK kx ky with
  | none =>
    have H1 := Lib.hid (fun w => in_none hA w)
    clear hA
    have hR0 := Rws.start w
    go_enter Tryz.func15, Tryz.ntmps15
    go_wp2_with (first | (refine wpList_box_rws rfl _ _ (by rfl) (by assumption) _ rfl ?_; intro gp w1 hR) | (refine wpList_alloc_rws rfl _ (by rfl) (by assumption) _ (by first | exact zero_pt | exact zero_ln | exact zero_key) ?_; intro gr w1 hR) | (refine wF_load rfl (by rfl) (by assumption) rfl (by repeat (first | exact List.Mem.head _ | refine List.Mem.tail _ ?_)) (by first | exact c3_0 | exact c3_1 | exact c3_2 | exact c2_0 | exact c2_1) (by first | exact isAgg_b | exact isAgg_q | exact isAgg_str) ?_) | (refine wQ_load rfl (by rfl) (by assumption) rfl (by repeat (first | exact List.Mem.head _ | refine List.Mem.tail _ ?_)) (by first | rfl | exact PtC.size (by assumption)) ?_) | (refine wQ_loadL rfl (by rfl) (by assumption) rfl (by repeat (first | exact List.Mem.head _ | refine List.Mem.tail _ ?_)) (by first | rfl | exact LnC.size (by assumption)) ?_) | (refine wK_load rfl (by rfl) (by assumption) rfl (by repeat (first | exact List.Mem.head _ | refine List.Mem.tail _ ?_)) rfl ?_))
    refine (H1.out _).mono ?_
    rintro e w1 ⟨pv, hs, hc, rfl, hb1⟩
    have hR := Rws.call (by assumption) hb1
    go_wp2_with (first | (refine wpList_box_rws rfl _ _ (by rfl) (by assumption) _ rfl ?_; intro gp w1 hR) | (refine wpList_alloc_rws rfl _ (by rfl) (by assumption) _ (by first | exact zero_pt | exact zero_ln | exact zero_key) ?_; intro gr w1 hR) | (refine wF_load rfl (by rfl) (by assumption) rfl (by repeat (first | exact List.Mem.head _ | refine List.Mem.tail _ ?_)) (by first | exact c3_0 | exact c3_1 | exact c3_2 | exact c2_0 | exact c2_1) (by first | exact isAgg_b | exact isAgg_q | exact isAgg_str) ?_) | (refine wQ_load rfl (by rfl) (by assumption) rfl (by repeat (first | exact List.Mem.head _ | refine List.Mem.tail _ ?_)) (by first | rfl | exact PtC.size (by assumption)) ?_) | (refine wQ_loadL rfl (by rfl) (by assumption) rfl (by repeat (first | exact List.Mem.head _ | refine List.Mem.tail _ ?_)) (by first | rfl | exact LnC.size (by assumption)) ?_) | (refine wB_store rfl (by rfl) (by assumption) rfl rfl (by repeat (first | exact Pick.here | apply Pick.there)) (by exact pt_info hs) (by rw [hs]; rfl) (by exact hc) ?_; intro w1 hR hbt hrr))
    go_ret
    exact ⟨rfl, Rws.below (by assumption)⟩
  | some A =>
    have H1 := Lib.hid (fun w => in_some hA w)
    clear hA
    have hR0 := Rws.start w
    cases A with
    | inf =>
      go_enter Tryz.func15, Tryz.ntmps15
      go_wp2_with (first | (refine wpList_box_rws rfl _ _ (by rfl) (by assumption) _ rfl ?_; intro gp w1 hR) | (refine wpList_alloc_rws rfl _ (by rfl) (by assumption) _ (by first | exact zero_pt | exact zero_ln | exact zero_key) ?_; intro gr w1 hR) | (refine wF_load rfl (by rfl) (by assumption) rfl (by repeat (first | exact List.Mem.head _ | refine List.Mem.tail _ ?_)) (by first | exact c3_0 | exact c3_1 | exact c3_2 | exact c2_0 | exact c2_1) (by first | exact isAgg_b | exact isAgg_q | exact isAgg_str) ?_) | (refine wQ_load rfl (by rfl) (by assumption) rfl (by repeat (first | exact List.Mem.head _ | refine List.Mem.tail _ ?_)) (by first | rfl | exact PtC.size (by assumption)) ?_) | (refine wQ_loadL rfl (by rfl) (by assumption) rfl (by repeat (first | exact List.Mem.head _ | refine List.Mem.tail _ ?_)) (by first | rfl | exact LnC.size (by assumption)) ?_) | (refine wK_load rfl (by rfl) (by assumption) rfl (by repeat (first | exact List.Mem.head _ | refine List.Mem.tail _ ?_)) rfl ?_))
      refine (H1.out _).mono ?_
      rintro e w1 ⟨pv, rfl, hp, hb1⟩
      obtain rfl : pv = #[.bool true, nilS, nilS] := hp
      have hR := Rws.call (by assumption) hb1
      go_upto_region 2 with (first | (refine wpList_box_rws rfl _ _ (by rfl) (by assumption) _ rfl ?_; intro gp w1 hR) | (refine wpList_alloc_rws rfl _ (by rfl) (by assumption) _ (by first | exact zero_pt | exact zero_ln | exact zero_key) ?_; intro gr w1 hR) | (refine wF_load rfl (by rfl) (by assumption) rfl (by repeat (first | exact List.Mem.head _ | refine List.Mem.tail _ ?_)) (by first | exact c3_0 | exact c3_1 | exact c3_2 | exact c2_0 | exact c2_1) (by first | exact isAgg_b | exact isAgg_q | exact isAgg_str) ?_) | (refine wQ_load rfl (by rfl) (by assumption) rfl (by repeat (first | exact List.Mem.head _ | refine List.Mem.tail _ ?_)) (by first | rfl | exact PtC.size (by assumption)) ?_) | (refine wQ_loadL rfl (by rfl) (by assumption) rfl (by repeat (first | exact List.Mem.head _ | refine List.Mem.tail _ ?_)) (by first | rfl | exact LnC.size (by assumption)) ?_) | (refine wB_store rfl (by rfl) (by assumption) rfl rfl (by repeat (first | exact Pick.here | apply Pick.there)) (by first | exact pt_info (by rfl) | exact pt_info (PtC.size (by assumption)) | exact ln_info (by rfl) | exact ln_info (LnC.size (by assumption)) | exact key_info (by rfl)) (by first | rfl | (rw [PtC.size (by assumption)]; rfl) | (rw [LnC.size (by assumption)]; rfl)) (by first | rfl | exact inf_cells | exact zpt_cells | exact zln_cells | exact PtC.cells (by assumption) | exact LnC.cells (by assumption)) ?_; intro w1 hR hbt hrr))
      have k0 := cell_of_row w1 _ 0 _ _ _ (hR.row _ (List.Mem.head _)).2
      simp only [c3_0] at k0
      go_wp2_with fail
      go_ret
      exact ⟨rfl, Rws.below (by assumption)⟩
    | «at» x y =>
      go_enter Tryz.func15, Tryz.ntmps15
      go_wp2_with (first | (refine wpList_box_rws rfl _ _ (by rfl) (by assumption) _ rfl ?_; intro gp w1 hR) | (refine wpList_alloc_rws rfl _ (by rfl) (by assumption) _ (by first | exact zero_pt | exact zero_ln | exact zero_key) ?_; intro gr w1 hR) | (refine wF_load rfl (by rfl) (by assumption) rfl (by repeat (first | exact List.Mem.head _ | refine List.Mem.tail _ ?_)) (by first | exact c3_0 | exact c3_1 | exact c3_2 | exact c2_0 | exact c2_1) (by first | exact isAgg_b | exact isAgg_q | exact isAgg_str) ?_) | (refine wQ_load rfl (by rfl) (by assumption) rfl (by repeat (first | exact List.Mem.head _ | refine List.Mem.tail _ ?_)) (by first | rfl | exact PtC.size (by assumption)) ?_) | (refine wQ_loadL rfl (by rfl) (by assumption) rfl (by repeat (first | exact List.Mem.head _ | refine List.Mem.tail _ ?_)) (by first | rfl | exact LnC.size (by assumption)) ?_) | (refine wK_load rfl (by rfl) (by assumption) rfl (by repeat (first | exact List.Mem.head _ | refine List.Mem.tail _ ?_)) rfl ?_))
      refine (H1.out _).mono ?_
      rintro e w1 ⟨pv, rfl, hp, hb1⟩
      obtain ⟨X, Y, rfl, hX, hY⟩ := hp
      have hR := Rws.call (by assumption) hb1
      go_upto_region 2 with (first | (refine wpList_box_rws rfl _ _ (by rfl) (by assumption) _ rfl ?_; intro gp w1 hR) | (refine wpList_alloc_rws rfl _ (by rfl) (by assumption) _ (by first | exact zero_pt | exact zero_ln | exact zero_key) ?_; intro gr w1 hR) | (refine wF_load rfl (by rfl) (by assumption) rfl (by repeat (first | exact List.Mem.head _ | refine List.Mem.tail _ ?_)) (by first | exact c3_0 | exact c3_1 | exact c3_2 | exact c2_0 | exact c2_1) (by first | exact isAgg_b | exact isAgg_q | exact isAgg_str) ?_) | (refine wQ_load rfl (by rfl) (by assumption) rfl (by repeat (first | exact List.Mem.head _ | refine List.Mem.tail _ ?_)) (by first | rfl | exact PtC.size (by assumption)) ?_) | (refine wQ_loadL rfl (by rfl) (by assumption) rfl (by repeat (first | exact List.Mem.head _ | refine List.Mem.tail _ ?_)) (by first | rfl | exact LnC.size (by assumption)) ?_) | (refine wB_store rfl (by rfl) (by assumption) rfl rfl (by repeat (first | exact Pick.here | apply Pick.there)) (by exact pt_info (by rfl)) (by rfl) (by simp [hX.one, hY.one]; rfl) ?_; intro w1 hR hbt hrr))
      have k0 := cell_of_row w1 _ 0 _ _ _ (hR.row _ (List.Mem.head _)).2
      simp only [c3_0] at k0
      go_wp2_with fail
      go_ret
      exact ⟨rfl, Rws.below (by assumption)⟩

set_option maxRecDepth 100000 in
set_option maxHeartbeats 1600000 in
theorem raddkeys_any (kx ky lx ly : ByteArray) (w : World) : Calls Tryz.prog 16 #[.agg (kvc kx ky), .agg (kvc lx ly)] w fun e w' => e = retK (addR kx ky lx ly) ∧ Below w.heap.size w w' := by
  unfold addR
  cases hA : inK kx ky with
  | none =>
    have H1 := Lib.hid (fun w => in_none hA w)
    have HF := Lib.hid (show Ending.returned (.tuple #[.agg zkey, .int .i64 50]) = retK ((⟨#[]⟩, ⟨#[]⟩), 50) from rfl)
    clear hA
    have H2 := Lib.hid (fun w => in_all lx ly w)
    have hR0 := Rws.start w
    go_enter Tryz.func16, Tryz.ntmps16
    go_wp2_with (first | (refine wpList_box_rws rfl _ _ (by rfl) (by assumption) _ rfl ?_; intro gp w1 hR) | (refine wpList_alloc_rws rfl _ (by rfl) (by assumption) _ (by first | exact zero_pt | exact zero_ln | exact zero_key) ?_; intro gr w1 hR) | (refine wF_load rfl (by rfl) (by assumption) rfl (by repeat (first | exact List.Mem.head _ | refine List.Mem.tail _ ?_)) (by first | exact c3_0 | exact c3_1 | exact c3_2 | exact c2_0 | exact c2_1) (by first | exact isAgg_b | exact isAgg_q | exact isAgg_str) ?_) | (refine wQ_load rfl (by rfl) (by assumption) rfl (by repeat (first | exact List.Mem.head _ | refine List.Mem.tail _ ?_)) (by first | rfl | exact PtC.size (by assumption)) ?_) | (refine wQ_loadL rfl (by rfl) (by assumption) rfl (by repeat (first | exact List.Mem.head _ | refine List.Mem.tail _ ?_)) (by first | rfl | exact LnC.size (by assumption)) ?_) | (refine wK_load rfl (by rfl) (by assumption) rfl (by repeat (first | exact List.Mem.head _ | refine List.Mem.tail _ ?_)) rfl ?_))
    refine (H1.out _).mono ?_
    rintro e w1 ⟨pva, hsa, hca, rfl, hb1⟩
    have hR := Rws.call (by assumption) hb1
    go_wp2_with (first | (refine wpList_box_rws rfl _ _ (by rfl) (by assumption) _ rfl ?_; intro gp w1 hR) | (refine wpList_alloc_rws rfl _ (by rfl) (by assumption) _ (by first | exact zero_pt | exact zero_ln | exact zero_key) ?_; intro gr w1 hR) | (refine wF_load rfl (by rfl) (by assumption) rfl (by repeat (first | exact List.Mem.head _ | refine List.Mem.tail _ ?_)) (by first | exact c3_0 | exact c3_1 | exact c3_2 | exact c2_0 | exact c2_1) (by first | exact isAgg_b | exact isAgg_q | exact isAgg_str) ?_) | (refine wQ_load rfl (by rfl) (by assumption) rfl (by repeat (first | exact List.Mem.head _ | refine List.Mem.tail _ ?_)) (by first | rfl | exact PtC.size (by assumption)) ?_) | (refine wQ_loadL rfl (by rfl) (by assumption) rfl (by repeat (first | exact List.Mem.head _ | refine List.Mem.tail _ ?_)) (by first | rfl | exact LnC.size (by assumption)) ?_) | (refine wK_load rfl (by rfl) (by assumption) rfl (by repeat (first | exact List.Mem.head _ | refine List.Mem.tail _ ?_)) rfl ?_) | (refine wB_store rfl (by rfl) (by assumption) rfl rfl (by repeat (first | exact Pick.here | apply Pick.there)) (by exact pt_info hsa) (by rw [hsa]; rfl) (by exact hca) ?_; intro w1 hR hbt hrr))
    refine (H2.out _).mono ?_
    rintro e w1 ⟨pvb, hsb, hcb, rfl, hb1⟩
    have hR := Rws.call (by assumption) hb1
    go_wp2_with (first | (refine wpList_box_rws rfl _ _ (by rfl) (by assumption) _ rfl ?_; intro gp w1 hR) | (refine wpList_alloc_rws rfl _ (by rfl) (by assumption) _ (by first | exact zero_pt | exact zero_ln | exact zero_key) ?_; intro gr w1 hR) | (refine wF_load rfl (by rfl) (by assumption) rfl (by repeat (first | exact List.Mem.head _ | refine List.Mem.tail _ ?_)) (by first | exact c3_0 | exact c3_1 | exact c3_2 | exact c2_0 | exact c2_1) (by first | exact isAgg_b | exact isAgg_q | exact isAgg_str) ?_) | (refine wQ_load rfl (by rfl) (by assumption) rfl (by repeat (first | exact List.Mem.head _ | refine List.Mem.tail _ ?_)) (by first | rfl | exact PtC.size (by assumption)) ?_) | (refine wQ_loadL rfl (by rfl) (by assumption) rfl (by repeat (first | exact List.Mem.head _ | refine List.Mem.tail _ ?_)) (by first | rfl | exact LnC.size (by assumption)) ?_) | (refine wB_store rfl (by rfl) (by assumption) rfl rfl (by repeat (first | exact Pick.here | apply Pick.there)) (by exact pt_info hsb) (by rw [hsb]; rfl) (by exact hcb) ?_; intro w1 hR hbt hrr) | (refine wB_store rfl (by rfl) (by assumption) rfl rfl (by repeat (first | exact Pick.here | apply Pick.there)) (by exact key_info (by rfl)) (by rfl) (by exact kvc_cells _ _) ?_; intro w1 hR hbt hrr) | (refine wB_build (xs := []) (cs := zkey) rfl (by rfl) (by exact built_key0) ?_))
    exact end_key Tryz.results16 (by assumption) rfl (List.Mem.head _) rfl rfl rfl fun hb => ⟨HF.out, hb⟩
  | some A =>
    have oA := inK_on hA
    have H1 := Lib.hid (fun w => in_some hA w)
    clear hA
    cases hB : inK lx ly with
    | none =>
      have H2 := Lib.hid (fun w => in_none hB w)
      have HF := Lib.hid (show Ending.returned (.tuple #[.agg zkey, .int .i64 50]) = retK ((⟨#[]⟩, ⟨#[]⟩), 50) from rfl)
      clear hB oA
      have hR0 := Rws.start w
      go_enter Tryz.func16, Tryz.ntmps16
      go_wp2_with (first | (refine wpList_box_rws rfl _ _ (by rfl) (by assumption) _ rfl ?_; intro gp w1 hR) | (refine wpList_alloc_rws rfl _ (by rfl) (by assumption) _ (by first | exact zero_pt | exact zero_ln | exact zero_key) ?_; intro gr w1 hR) | (refine wF_load rfl (by rfl) (by assumption) rfl (by repeat (first | exact List.Mem.head _ | refine List.Mem.tail _ ?_)) (by first | exact c3_0 | exact c3_1 | exact c3_2 | exact c2_0 | exact c2_1) (by first | exact isAgg_b | exact isAgg_q | exact isAgg_str) ?_) | (refine wQ_load rfl (by rfl) (by assumption) rfl (by repeat (first | exact List.Mem.head _ | refine List.Mem.tail _ ?_)) (by first | rfl | exact PtC.size (by assumption)) ?_) | (refine wQ_loadL rfl (by rfl) (by assumption) rfl (by repeat (first | exact List.Mem.head _ | refine List.Mem.tail _ ?_)) (by first | rfl | exact LnC.size (by assumption)) ?_) | (refine wK_load rfl (by rfl) (by assumption) rfl (by repeat (first | exact List.Mem.head _ | refine List.Mem.tail _ ?_)) rfl ?_))
      refine (H1.out _).mono ?_
      rintro e w1 ⟨pva, rfl, hpa, hb1⟩
      have hR := Rws.call (by assumption) hb1
      go_wp2_with (first | (refine wpList_box_rws rfl _ _ (by rfl) (by assumption) _ rfl ?_; intro gp w1 hR) | (refine wpList_alloc_rws rfl _ (by rfl) (by assumption) _ (by first | exact zero_pt | exact zero_ln | exact zero_key) ?_; intro gr w1 hR) | (refine wF_load rfl (by rfl) (by assumption) rfl (by repeat (first | exact List.Mem.head _ | refine List.Mem.tail _ ?_)) (by first | exact c3_0 | exact c3_1 | exact c3_2 | exact c2_0 | exact c2_1) (by first | exact isAgg_b | exact isAgg_q | exact isAgg_str) ?_) | (refine wQ_load rfl (by rfl) (by assumption) rfl (by repeat (first | exact List.Mem.head _ | refine List.Mem.tail _ ?_)) (by first | rfl | exact PtC.size (by assumption)) ?_) | (refine wQ_loadL rfl (by rfl) (by assumption) rfl (by repeat (first | exact List.Mem.head _ | refine List.Mem.tail _ ?_)) (by first | rfl | exact LnC.size (by assumption)) ?_) | (refine wK_load rfl (by rfl) (by assumption) rfl (by repeat (first | exact List.Mem.head _ | refine List.Mem.tail _ ?_)) rfl ?_) | (refine wB_store rfl (by rfl) (by assumption) rfl rfl (by repeat (first | exact Pick.here | apply Pick.there)) (by exact pt_info hpa.size) (by rw [hpa.size]; rfl) (by exact hpa.cells) ?_; intro w1 hR hbt hrr))
      refine (H2.out _).mono ?_
      rintro e w1 ⟨pvb, hsb, hcb, rfl, hb1⟩
      have hR := Rws.call (by assumption) hb1
      go_wp2_with (first | (refine wpList_box_rws rfl _ _ (by rfl) (by assumption) _ rfl ?_; intro gp w1 hR) | (refine wpList_alloc_rws rfl _ (by rfl) (by assumption) _ (by first | exact zero_pt | exact zero_ln | exact zero_key) ?_; intro gr w1 hR) | (refine wF_load rfl (by rfl) (by assumption) rfl (by repeat (first | exact List.Mem.head _ | refine List.Mem.tail _ ?_)) (by first | exact c3_0 | exact c3_1 | exact c3_2 | exact c2_0 | exact c2_1) (by first | exact isAgg_b | exact isAgg_q | exact isAgg_str) ?_) | (refine wQ_load rfl (by rfl) (by assumption) rfl (by repeat (first | exact List.Mem.head _ | refine List.Mem.tail _ ?_)) (by first | rfl | exact PtC.size (by assumption)) ?_) | (refine wQ_loadL rfl (by rfl) (by assumption) rfl (by repeat (first | exact List.Mem.head _ | refine List.Mem.tail _ ?_)) (by first | rfl | exact LnC.size (by assumption)) ?_) | (refine wB_store rfl (by rfl) (by assumption) rfl rfl (by repeat (first | exact Pick.here | apply Pick.there)) (by exact pt_info hsb) (by rw [hsb]; rfl) (by exact hcb) ?_; intro w1 hR hbt hrr) | (refine wB_store rfl (by rfl) (by assumption) rfl rfl (by repeat (first | exact Pick.here | apply Pick.there)) (by exact key_info (by rfl)) (by rfl) (by exact kvc_cells _ _) ?_; intro w1 hR hbt hrr) | (refine wB_build (xs := []) (cs := zkey) rfl (by rfl) (by exact built_key0) ?_))
      exact end_key Tryz.results16 (by assumption) rfl (List.Mem.head _) rfl rfl rfl fun hb => ⟨HF.out, hb⟩
    | some A' =>
      have oB := inK_on hB
      have H2 := Lib.hid (fun w => in_some hB w)
      clear hB
      obtain ⟨ok, hok⟩ : ∃ o, o = outK (Ec.addA A A') := ⟨_, rfl⟩
      have HS := Lib.hid (fun w V U h1 h2 => rsum_any V U A A' w oA oB h1 h2)
      have HO := Lib.hid (fun w V (h : PtV (Ec.addA A A') w V) => rout_any V _ w h)
      rw [← hok] at HO
      have HF := Lib.hid (show Ending.returned (.tuple #[.agg (kvc ok.1 ok.2), .int .i64 0]) = retK (outK (Ec.addA A A'), 0) by rw [hok]; rfl)
      clear hok oA oB
      have hR0 := Rws.start w
      go_enter Tryz.func16, Tryz.ntmps16
      go_wp2_with (first | (refine wpList_box_rws rfl _ _ (by rfl) (by assumption) _ rfl ?_; intro gp w1 hR) | (refine wpList_alloc_rws rfl _ (by rfl) (by assumption) _ (by first | exact zero_pt | exact zero_ln | exact zero_key) ?_; intro gr w1 hR) | (refine wF_load rfl (by rfl) (by assumption) rfl (by repeat (first | exact List.Mem.head _ | refine List.Mem.tail _ ?_)) (by first | exact c3_0 | exact c3_1 | exact c3_2 | exact c2_0 | exact c2_1) (by first | exact isAgg_b | exact isAgg_q | exact isAgg_str) ?_) | (refine wQ_load rfl (by rfl) (by assumption) rfl (by repeat (first | exact List.Mem.head _ | refine List.Mem.tail _ ?_)) (by first | rfl | exact PtC.size (by assumption)) ?_) | (refine wQ_loadL rfl (by rfl) (by assumption) rfl (by repeat (first | exact List.Mem.head _ | refine List.Mem.tail _ ?_)) (by first | rfl | exact LnC.size (by assumption)) ?_) | (refine wK_load rfl (by rfl) (by assumption) rfl (by repeat (first | exact List.Mem.head _ | refine List.Mem.tail _ ?_)) rfl ?_))
      refine (H1.out _).mono ?_
      rintro e w1 ⟨pva, rfl, hpa, hb1⟩
      have hR := Rws.call (by assumption) hb1
      go_wp2_with (first | (refine wA_alloc rfl _ (by rfl) (by assumption) _ zero_pt ?_; intro ga w1 hR hbA; have hpa := hpa.below hbA) | (refine wB_store rfl (by rfl) (by assumption) rfl rfl (by repeat (first | exact Pick.here | apply Pick.there)) (by exact pt_info hpa.size) (by rw [hpa.size]; rfl) (by exact hpa.cells) ?_; intro w1 hR hbt hrr; have hpa := hpa.but hbt hrr zpt_noint) | (refine wK_load rfl (by rfl) (by assumption) rfl (by repeat (first | exact List.Mem.head _ | refine List.Mem.tail _ ?_)) rfl ?_))
      refine (H2.out _).mono ?_
      rintro e w1 ⟨pvb, rfl, hpb, hb1⟩
      have hR := Rws.call (by assumption) hb1
      have hpa := hpa.below hb1
      clear hb1
      go_upto_region 3 with (first | (refine wA_alloc rfl _ (by rfl) (by assumption) _ zero_pt ?_; intro ga w1 hR hbA; have hpa := hpa.below hbA; have hpb := hpb.below hbA) | (refine wB_store rfl (by rfl) (by assumption) rfl rfl (by repeat (first | exact Pick.here | apply Pick.there)) (by exact pt_info hpb.size) (by rw [hpb.size]; rfl) (by exact hpb.cells) ?_; intro w1 hR hbt hrr; have hpa := hpa.but hbt hrr zpt_noint; have hpb := hpb.but hbt hrr zpt_noint))
      go_upto_region 5 with (fail)
      refine wp_region_seq 4 (by kernel_rfl) (by rfl) (by assumption) ?_
      first | (refine s_fa (by rfl) (by exact fun _ _ _ h => h) Tryz.underlying31 (by rfl) ⟨0, by first | exact q_info | exact bool_info | exact str_info⟩ (by rfl) ?_) | (refine s_fa (by rfl) (by exact fun _ _ _ h => h) Tryz.underlying103 (by rfl) ⟨0, by first | exact q_info | exact bool_info | exact str_info⟩ (by rfl) ?_) | (refine s_fa (by rfl) (by exact fun _ _ _ h => h) Tryz.underlying23 (by rfl) ⟨0, by first | exact q_info | exact bool_info | exact str_info⟩ (by rfl) ?_) | (refine s_ldq (by rfl) (by exact fun _ _ _ h => h) (by repeat (first | exact List.Mem.head _ | refine List.Mem.tail _ ?_)) (by first | exact c3_0 | exact c3_1 | exact c3_2) (by assumption) ?_) | (refine s_lds (by rfl) (by exact fun _ _ _ h => h) (by repeat (first | exact List.Mem.head _ | refine List.Mem.tail _ ?_)) (by first | exact c2_0 | exact c2_1) ?_) | (refine s_ldp (by rfl) (by exact fun _ _ _ h => h) (by repeat (first | exact List.Mem.head _ | refine List.Mem.tail _ ?_)) (by assumption) ?_) | (refine s_ldl (by rfl) (by exact fun _ _ _ h => h) (by repeat (first | exact List.Mem.head _ | refine List.Mem.tail _ ?_)) (by assumption) ?_) | (refine s_move (by rfl) (stb_q _) (by exact has_fix (fun _ _ h => h) (by assumption)) ?_)
      first | (refine s_fa (by rfl) (by exact fun _ _ _ h => h) Tryz.underlying31 (by rfl) ⟨0, by first | exact q_info | exact bool_info | exact str_info⟩ (by rfl) ?_) | (refine s_fa (by rfl) (by exact fun _ _ _ h => h) Tryz.underlying103 (by rfl) ⟨0, by first | exact q_info | exact bool_info | exact str_info⟩ (by rfl) ?_) | (refine s_fa (by rfl) (by exact fun _ _ _ h => h) Tryz.underlying23 (by rfl) ⟨0, by first | exact q_info | exact bool_info | exact str_info⟩ (by rfl) ?_) | (refine s_ldq (by rfl) (by exact fun _ _ _ h => h) (by repeat (first | exact List.Mem.head _ | refine List.Mem.tail _ ?_)) (by first | exact c3_0 | exact c3_1 | exact c3_2) (by assumption) ?_) | (refine s_lds (by rfl) (by exact fun _ _ _ h => h) (by repeat (first | exact List.Mem.head _ | refine List.Mem.tail _ ?_)) (by first | exact c2_0 | exact c2_1) ?_) | (refine s_ldp (by rfl) (by exact fun _ _ _ h => h) (by repeat (first | exact List.Mem.head _ | refine List.Mem.tail _ ?_)) (by assumption) ?_) | (refine s_ldl (by rfl) (by exact fun _ _ _ h => h) (by repeat (first | exact List.Mem.head _ | refine List.Mem.tail _ ?_)) (by assumption) ?_) | (refine s_move (by rfl) (stb_q _) (by exact has_fix (fun _ _ h => h) (by assumption)) ?_)
      refine s_call2 (by rfl) Tryz.func42 (by kernel_rfl) rfl (stb_pt _) (A := PtV A) (A' := PtV A') (by exact fun _ _ _ h => h) (by exact fun _ _ _ h => h) (fun w v u h1 h2 => HS.out w v u h1 h2) ?_
      refine s_call1 (by rfl) Tryz.func43 (by kernel_rfl) rfl (stb_is (.agg (kvc ok.1 ok.2))) (A := PtV (Ec.addA A A')) (by exact fun _ _ _ h => h) (fun w v h => (HO.out w v h).mono fun e w' ⟨he, hb⟩ => ⟨_, he, rfl, hb⟩) ?_
      intro w5 hR hb_w5 v27 h27 v28 h28 v29 h29 v30 h30
      simp only [softEnd, Act.put, List.setIfInBounds_toArray, List.set_cons_succ, List.set_cons_zero, List.drop_succ_cons, List.drop_zero]
      clear h27 h28
      obtain rfl : v30 = .agg (kvc ok.1 ok.2) := h30
      go_wp2_with (first | (refine wB_store rfl (by rfl) (by assumption) rfl rfl (by repeat (first | exact Pick.here | apply Pick.there)) (by exact key_info (by rfl)) (by rfl) (by exact kvc_cells _ _) ?_; intro w1 hR hbt hrr))
      exact end_key Tryz.results16 (by assumption) rfl (List.Mem.head _) rfl rfl rfl fun hb => ⟨HF.out, hb⟩
end Go.Proofs.YtaggpodckafbgaaGreatDoor
