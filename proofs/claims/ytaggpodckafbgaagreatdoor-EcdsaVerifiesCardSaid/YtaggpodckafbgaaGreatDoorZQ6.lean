/- QIn QIn2, in one text. -/
import Derived.Test.YtaggpodckafbgaaGreatDoorZQ5
import Derived.Test.YtaggpodckafbgaaGreatDoorZECheck
import Derived.Test.YtaggpodckafbgaaGreatDoorZA0
/- The reference's keys: Out, In, Check, AddKeys (layer 5): the walks. -/
namespace Go.Proofs.YtaggpodckafbgaaGreatDoor
open Go.RowKit
section
variable {B : Nat} {w0 ws : World} {L : List (Nat × Array Value × TypeId)} {a0 : Act} {K : Act → World → Prop} {n : Nat} {l : List Oper} {o : Oper} {Γ : Env}
theorem cmp_res {e : Ending} {w w' : World} {a b : Ec.F} (h1 : a = b → e = .returned (.int .i64 0)) (h2 : a ≠ b → ∃ c : Int, c ≠ 0 ∧ e = .returned (.int .i64 c)) (hb : Below w.heap.size w w') :
    ∃ v, e = .returned v ∧ (∃ c : Int, v = .int .i64 c ∧ (c = 0 ↔ a = b)) ∧ Below w.heap.size w w' := by
  by_cases h : a = b
  · exact ⟨_, h1 h, ⟨0, rfl, ⟨fun _ => h, fun _ => rfl⟩⟩, hb⟩
  · obtain ⟨c, hc, he⟩ := h2 h
    exact ⟨_, he, ⟨c, rfl, ⟨fun e => absurd e hc, fun e => absurd e h⟩⟩, hb⟩
theorem s_eq0 {x : Operand} {p : Prop} (ho : o.op = .binOp .eql 3 x (.const (.int .i64 0)) 3) (hx : Has ws a0 Γ x (fun _ v => ∃ c : Int, v = .int .i64 c ∧ (c = 0 ↔ p)))
    (h : softW Tryz.prog B w0 ws L a0 K n l ((o.dst, fun _ v => ∃ b : Bool, v = .bool b ∧ (b = true ↔ p)) :: Γ)) : softW Tryz.prog B w0 ws L a0 K (n + 1) (o :: l) Γ :=
  s_any (fun _ _ _ _ h => h) (fun w e _ hb hat => by
    obtain ⟨c, h1, hc⟩ := hx w (e x) hb (hat x (by rw [ho]; exact Array.mem_def.2 (List.Mem.head _)))
    have h2 : e (.const (.int .i64 0)) = .int .i64 0 := hat (.const (.int .i64 0)) (by rw [ho]; exact Array.mem_def.2 (List.Mem.tail _ (List.Mem.head _)))
    have h3 : (execOp e o).run Tryz.prog w = .ok (.value (.bool (c == 0))) w := by
      unfold execOp
      simp only [ho, h1, h2]
      simp [go_sem]
    rw [h3]
    exact ⟨⟨_, rfl, by rw [beq_iff_eq]; exact hc⟩, Below.refl _ _⟩) h
end
def RetIn (w : World) (kx ky : ByteArray) (e : Ending) (w' : World) : Prop := ∃ pv : Array Value, pv.size = 3 ∧ pv.all (·.oneCell') = true ∧ e = .returned (.tuple #[.agg pv, .bool (inK kx ky).isSome]) ∧ (∀ A, inK kx ky = some A → PtC w' pv A) ∧ Below w.heap.size w w'
theorem wQ_end2 {B : Nat} {w0 w : World} {L : List (Nat × Array Value × TypeId)} {a : Act} {fn : Func} {R : Ending → World → Prop} {p q : Tmp} {g : Nat} {cs : Array Value} {b : Bool} (hf : fn.results = #[.cell p 31, .tmp q]) (h : Rws B w0 w L) (hp : a.tmps.getD p undef = .pointer (some ⟨g, 0, none⟩)) (hm : (g, cs, 31) ∈ L) (hs : cs.size = 3) (hq : a.tmps.getD q undef = .bool b)
    (hdef : a.defers = []) (hR : Below B w0 w → R (.returned (.tuple #[.agg cs, .bool b])) w) : bodyPost Tryz.prog fn R .ret a w :=
  bodyPost_rws2 hf h g hp cs _ hm _ Tryz.underlying31 rfl (pt_info hs) _ hq hdef hR
theorem RetIn.none {w w' : World} {kx ky : ByteArray} {pv : Array Value} {b : Bool} (h : inK kx ky = none) (hb : b = false) (hs : pv.size = 3) (hc : pv.all (·.oneCell') = true) (hbl : Below w.heap.size w w') : RetIn w kx ky (.returned (.tuple #[.agg pv, .bool b])) w' :=
  ⟨pv, hs, hc, by rw [h, hb]; rfl, fun A hA => (by rw [h] at hA; cases hA), hbl⟩
theorem RetIn.some {w w' : World} {kx ky : ByteArray} {pv : Array Value} {b : Bool} {A : Ec.Pt Ec.P} (h : inK kx ky = some A) (hb : b = true) (hc : PtC w' pv A) (hbl : Below w.heap.size w w') : RetIn w kx ky (.returned (.tuple #[.agg pv, .bool b])) w' :=
  ⟨pv, hc.size, hc.cells, by rw [h, hb]; rfl, fun A' hA => (by rw [h] at hA; rw [← Option.some.inj hA]; exact hc), hbl⟩
set_option maxRecDepth 100000 in
theorem rin_far (kx ky : ByteArray) (w : World) (h0 : kx.size = 0 ∧ ky.size = 0) : Calls Tryz.prog 13 #[.agg (kvc kx ky)] w (RetIn w kx ky) := by
  have HI := Lib.hid (show inK kx ky = some .inf from if_pos h0)
  have n1 := (nil_iff kx).2 h0.1
  have n2 := (nil_iff ky).2 h0.2
  have hR0 := Rws.start w
  clear h0
  go_enter Tryz.func13, Tryz.ntmps13
  go_upto_region 1 with (first | (refine wpList_box_rws rfl _ _ (by rfl) (by assumption) _ rfl ?_; intro gp w1 hR) | (refine wpList_alloc_rws rfl _ (by rfl) (by assumption) _ (by first | exact zero_pt | exact zero_ln | exact zero_key) ?_; intro gr w1 hR) | (refine wF_load rfl (by rfl) (by assumption) rfl (by repeat (first | exact pzH | refine pzM ?_)) (by first | exact c3_0 | exact c3_1 | exact c3_2 | exact c2_0 | exact c2_1) (by first | exact isAgg_b | exact isAgg_q | exact isAgg_str) ?_) | (refine wQ_load rfl (by rfl) (by assumption) rfl (by repeat (first | exact pzH | refine pzM ?_)) (by first | rfl | exact PtC.size (by assumption)) ?_) | (refine wQ_loadL rfl (by rfl) (by assumption) rfl (by repeat (first | exact pzH | refine pzM ?_)) (by first | rfl | exact LnC.size (by assumption)) ?_))
  have r0 := (hR.row _ (List.Mem.tail _ (List.Mem.head _))).2
  have k0 := cell_of_row w1 _ 0 _ _ _ r0; have k1 := cell_of_row w1 _ 1 _ _ _ r0
  simp only [c2_0, c2_1] at k0 k1
  clear r0
  go_wp2_with (first | (refine wB_store rfl (by rfl) (by assumption) rfl rfl (by repeat (first | exact Pick.here | apply Pick.there)) (by first | exact pt_info (by rfl) | exact pt_info (PtC.size (by assumption)) | exact ln_info (by rfl) | exact ln_info (LnC.size (by assumption)) | exact key_info (by rfl)) (by first | rfl | (rw [PtC.size (by assumption)]; rfl) | (rw [LnC.size (by assumption)]; rfl)) (by first | rfl | exact inf_cells | exact zpt_cells | exact zln_cells | exact PtC.cells (by assumption) | exact LnC.cells (by assumption)) ?_; intro w1 hR hbt hrr) | (refine wB_build (xs := [(0, .const (.bool true))]) (cs := #[.bool true, nilS, nilS]) rfl (by rfl) (by exact built_inf) ?_))
  exact wQ_end2 Tryz.results13 (by assumption) rfl (List.Mem.head _) rfl rfl rfl fun hb => RetIn.some HI.out rfl (pt_inf _) hb
set_option maxRecDepth 100000 in
theorem rin_len (kx ky : ByteArray) (w : World) (h0 : ¬ (kx.size = 0 ∧ ky.size = 0)) (h1 : ¬ (kx.size = 32 ∧ ky.size = 32)) : Calls Tryz.prog 13 #[.agg (kvc kx ky)] w (RetIn w kx ky) := by
  have HI := Lib.hid (show inK kx ky = none from by unfold inK; rw [if_neg h0, if_neg (fun h => h1 ⟨h.1, h.2.1⟩)])
  have n0 : kx.toList = [] → ky.toList.isEmpty = false := fun h => by
    cases he : ky.toList.isEmpty with
    | false => rfl
    | true => exact absurd ⟨(nil_iff kx).1 h, (nil_iff ky).1 (List.isEmpty_iff.1 he)⟩ h0
  have m0 : (kx.size : Int) = 32 → ¬ (ky.size : Int) = 32 := fun h h' => h1 ⟨by omega, by omega⟩
  have N0 := Lib.hid n0; have M0 := Lib.hid m0
  clear h0 h1 n0 m0
  have hR0 := Rws.start w
  by_cases n1 : kx.toList = []
  · have n2 := N0.out n1
    by_cases m1 : (kx.size : Int) = 32
    · have m2 := M0.out m1
      go_enter Tryz.func13, Tryz.ntmps13
      go_upto_region 1 with (first | (refine wpList_box_rws rfl _ _ (by rfl) (by assumption) _ rfl ?_; intro gp w1 hR) | (refine wpList_alloc_rws rfl _ (by rfl) (by assumption) _ (by first | exact zero_pt | exact zero_ln | exact zero_key) ?_; intro gr w1 hR) | (refine wF_load rfl (by rfl) (by assumption) rfl (by repeat (first | exact pzH | refine pzM ?_)) (by first | exact c3_0 | exact c3_1 | exact c3_2 | exact c2_0 | exact c2_1) (by first | exact isAgg_b | exact isAgg_q | exact isAgg_str) ?_) | (refine wQ_load rfl (by rfl) (by assumption) rfl (by repeat (first | exact pzH | refine pzM ?_)) (by first | rfl | exact PtC.size (by assumption)) ?_) | (refine wQ_loadL rfl (by rfl) (by assumption) rfl (by repeat (first | exact pzH | refine pzM ?_)) (by first | rfl | exact LnC.size (by assumption)) ?_))
      have r0 := (hR.row _ (List.Mem.tail _ (List.Mem.head _))).2
      have k0 := cell_of_row w1 _ 0 _ _ _ r0; have k1 := cell_of_row w1 _ 1 _ _ _ r0
      simp only [c2_0, c2_1] at k0 k1
      clear r0
      go_wp2_with (first | (refine wB_store rfl (by rfl) (by assumption) rfl rfl (by repeat (first | exact Pick.here | apply Pick.there)) (by first | exact pt_info (by rfl) | exact pt_info (PtC.size (by assumption)) | exact ln_info (by rfl) | exact ln_info (LnC.size (by assumption)) | exact key_info (by rfl)) (by first | rfl | (rw [PtC.size (by assumption)]; rfl) | (rw [LnC.size (by assumption)]; rfl)) (by first | rfl | exact inf_cells | exact zpt_cells | exact zln_cells | exact PtC.cells (by assumption) | exact LnC.cells (by assumption)) ?_; intro w1 hR hbt hrr) | (refine wB_build (xs := []) (cs := zpt) rfl (by rfl) (by exact built_none) ?_))
      exact wQ_end2 Tryz.results13 (by assumption) rfl (List.Mem.head _) rfl rfl rfl fun hb => RetIn.none HI.out rfl rfl zpt_cells hb
    · go_enter Tryz.func13, Tryz.ntmps13
      go_upto_region 1 with (first | (refine wpList_box_rws rfl _ _ (by rfl) (by assumption) _ rfl ?_; intro gp w1 hR) | (refine wpList_alloc_rws rfl _ (by rfl) (by assumption) _ (by first | exact zero_pt | exact zero_ln | exact zero_key) ?_; intro gr w1 hR) | (refine wF_load rfl (by rfl) (by assumption) rfl (by repeat (first | exact pzH | refine pzM ?_)) (by first | exact c3_0 | exact c3_1 | exact c3_2 | exact c2_0 | exact c2_1) (by first | exact isAgg_b | exact isAgg_q | exact isAgg_str) ?_) | (refine wQ_load rfl (by rfl) (by assumption) rfl (by repeat (first | exact pzH | refine pzM ?_)) (by first | rfl | exact PtC.size (by assumption)) ?_) | (refine wQ_loadL rfl (by rfl) (by assumption) rfl (by repeat (first | exact pzH | refine pzM ?_)) (by first | rfl | exact LnC.size (by assumption)) ?_))
      have r0 := (hR.row _ (List.Mem.tail _ (List.Mem.head _))).2
      have k0 := cell_of_row w1 _ 0 _ _ _ r0; have k1 := cell_of_row w1 _ 1 _ _ _ r0
      simp only [c2_0, c2_1] at k0 k1
      clear r0
      go_wp2_with (first | (refine wB_store rfl (by rfl) (by assumption) rfl rfl (by repeat (first | exact Pick.here | apply Pick.there)) (by first | exact pt_info (by rfl) | exact pt_info (PtC.size (by assumption)) | exact ln_info (by rfl) | exact ln_info (LnC.size (by assumption)) | exact key_info (by rfl)) (by first | rfl | (rw [PtC.size (by assumption)]; rfl) | (rw [LnC.size (by assumption)]; rfl)) (by first | rfl | exact inf_cells | exact zpt_cells | exact zln_cells | exact PtC.cells (by assumption) | exact LnC.cells (by assumption)) ?_; intro w1 hR hbt hrr) | (refine wB_build (xs := []) (cs := zpt) rfl (by rfl) (by exact built_none) ?_))
      exact wQ_end2 Tryz.results13 (by assumption) rfl (List.Mem.head _) rfl rfl rfl fun hb => RetIn.none HI.out rfl rfl zpt_cells hb
  · by_cases m1 : (kx.size : Int) = 32
    · have m2 := M0.out m1
      go_enter Tryz.func13, Tryz.ntmps13
      go_upto_region 1 with (first | (refine wpList_box_rws rfl _ _ (by rfl) (by assumption) _ rfl ?_; intro gp w1 hR) | (refine wpList_alloc_rws rfl _ (by rfl) (by assumption) _ (by first | exact zero_pt | exact zero_ln | exact zero_key) ?_; intro gr w1 hR) | (refine wF_load rfl (by rfl) (by assumption) rfl (by repeat (first | exact pzH | refine pzM ?_)) (by first | exact c3_0 | exact c3_1 | exact c3_2 | exact c2_0 | exact c2_1) (by first | exact isAgg_b | exact isAgg_q | exact isAgg_str) ?_) | (refine wQ_load rfl (by rfl) (by assumption) rfl (by repeat (first | exact pzH | refine pzM ?_)) (by first | rfl | exact PtC.size (by assumption)) ?_) | (refine wQ_loadL rfl (by rfl) (by assumption) rfl (by repeat (first | exact pzH | refine pzM ?_)) (by first | rfl | exact LnC.size (by assumption)) ?_))
      have r0 := (hR.row _ (List.Mem.tail _ (List.Mem.head _))).2
      have k0 := cell_of_row w1 _ 0 _ _ _ r0; have k1 := cell_of_row w1 _ 1 _ _ _ r0
      simp only [c2_0, c2_1] at k0 k1
      clear r0
      go_wp2_with (first | (refine wB_store rfl (by rfl) (by assumption) rfl rfl (by repeat (first | exact Pick.here | apply Pick.there)) (by first | exact pt_info (by rfl) | exact pt_info (PtC.size (by assumption)) | exact ln_info (by rfl) | exact ln_info (LnC.size (by assumption)) | exact key_info (by rfl)) (by first | rfl | (rw [PtC.size (by assumption)]; rfl) | (rw [LnC.size (by assumption)]; rfl)) (by first | rfl | exact inf_cells | exact zpt_cells | exact zln_cells | exact PtC.cells (by assumption) | exact LnC.cells (by assumption)) ?_; intro w1 hR hbt hrr) | (refine wB_build (xs := []) (cs := zpt) rfl (by rfl) (by exact built_none) ?_))
      exact wQ_end2 Tryz.results13 (by assumption) rfl (List.Mem.head _) rfl rfl rfl fun hb => RetIn.none HI.out rfl rfl zpt_cells hb
    · go_enter Tryz.func13, Tryz.ntmps13
      go_upto_region 1 with (first | (refine wpList_box_rws rfl _ _ (by rfl) (by assumption) _ rfl ?_; intro gp w1 hR) | (refine wpList_alloc_rws rfl _ (by rfl) (by assumption) _ (by first | exact zero_pt | exact zero_ln | exact zero_key) ?_; intro gr w1 hR) | (refine wF_load rfl (by rfl) (by assumption) rfl (by repeat (first | exact pzH | refine pzM ?_)) (by first | exact c3_0 | exact c3_1 | exact c3_2 | exact c2_0 | exact c2_1) (by first | exact isAgg_b | exact isAgg_q | exact isAgg_str) ?_) | (refine wQ_load rfl (by rfl) (by assumption) rfl (by repeat (first | exact pzH | refine pzM ?_)) (by first | rfl | exact PtC.size (by assumption)) ?_) | (refine wQ_loadL rfl (by rfl) (by assumption) rfl (by repeat (first | exact pzH | refine pzM ?_)) (by first | rfl | exact LnC.size (by assumption)) ?_))
      have r0 := (hR.row _ (List.Mem.tail _ (List.Mem.head _))).2
      have k0 := cell_of_row w1 _ 0 _ _ _ r0; have k1 := cell_of_row w1 _ 1 _ _ _ r0
      simp only [c2_0, c2_1] at k0 k1
      clear r0
      go_wp2_with (first | (refine wB_store rfl (by rfl) (by assumption) rfl rfl (by repeat (first | exact Pick.here | apply Pick.there)) (by first | exact pt_info (by rfl) | exact pt_info (PtC.size (by assumption)) | exact ln_info (by rfl) | exact ln_info (LnC.size (by assumption)) | exact key_info (by rfl)) (by first | rfl | (rw [PtC.size (by assumption)]; rfl) | (rw [LnC.size (by assumption)]; rfl)) (by first | rfl | exact inf_cells | exact zpt_cells | exact zln_cells | exact PtC.cells (by assumption) | exact LnC.cells (by assumption)) ?_; intro w1 hR hbt hrr) | (refine wB_build (xs := []) (cs := zpt) rfl (by rfl) (by exact built_none) ?_))
      exact wQ_end2 Tryz.results13 (by assumption) rfl (List.Mem.head _) rfl rfl rfl fun hb => RetIn.none HI.out rfl rfl zpt_cells hb
end Go.Proofs.YtaggpodckafbgaaGreatDoor
/- The reference's In (layer 5): the walk. -/
namespace Go.Proofs.YtaggpodckafbgaaGreatDoor
open Go.RowKit
theorem toF_lt {v : Nat} (h : v < Ec.P) : toF v = ⟨v, h⟩ := Fin.ext (by rw [toF_val]; exact Nat.mod_eq_of_lt h)
theorem cmpF_res {X Y : Value} {a b : Ec.F} {w : World} (hx : QV w X a.val) (hy : QV w Y b.val) : Calls Tryz.prog 35 #[X, Y] w fun e w' => ∃ v, e = .returned v ∧ (∃ c : Int, v = .int .i64 c ∧ (c = 0 ↔ a = b)) ∧ Below w.heap.size w w' :=
  (cmpF_v hx hy).mono fun _ _ h => cmp_res h.1 h.2.1 h.2.2
theorem inK_of {kx ky : ByteArray} (hx : kx.size = 32) (hy : ky.size = 32) : inK kx ky = if onK (nv kx) (nv ky) then some (.at (toF (nv kx)) (toF (nv ky))) else none := by
  unfold inK
  rw [if_neg (fun h => by have := h.1; omega)]
  by_cases h : onK (nv kx) (nv ky)
  · rw [if_pos ⟨hx, hy, h⟩, if_pos h]
  · rw [if_neg (fun h' => h h'.2.2), if_neg h]
set_option maxRecDepth 100000 in
set_option maxHeartbeats 1600000 in
theorem rin_bx (kx ky : ByteArray) (w : World) (hkx : kx.size = 32) (hky : ky.size = 32) (hx : ¬ nv kx < Ec.P) : Calls Tryz.prog 13 #[.agg (kvc kx ky)] w (RetIn w kx ky) := by
  have n1 : kx.toList.isEmpty = false := by
    cases he : kx.toList.isEmpty with
    | false => rfl
    | true => have := (nil_iff kx).1 (List.isEmpty_iff.1 he); omega
  have m1 : (kx.size : Int) = 32 := by omega
  have m2 : (ky.size : Int) = 32 := by omega
  have hvx : nv kx < 115792089237316195423570985008687907853269984665640564039457584007913129639936 := nv_lt32 (by omega)
  have hvy : nv ky < 115792089237316195423570985008687907853269984665640564039457584007913129639936 := nv_lt32 (by omega)
  have hR1 := fun w => qread_any kx w (by omega)
  have hR2 := fun w => qread_any ky w (by omega)
  have HI := Lib.hid (show inK kx ky = none from by rw [inK_of hkx hky]; exact if_neg (fun h => hx h.1))
  have HX := Lib.hid (show Ec.P ≤ nv kx by omega)
  clear hx
  have HR1 := Lib.hid (show ∀ w : World, Calls Tryz.prog 34 #[.string kx] w (RetQV w (nv kx)) from fun w => (hR1 w).mono fun _ _ h => h.v hvx)
  have HR2 := Lib.hid (show ∀ w : World, Calls Tryz.prog 34 #[.string ky] w (RetQV w (nv ky)) from fun w => (hR2 w).mono fun _ _ h => h.v hvy)
  clear hR1 hR2 hvx hvy hkx hky
  have hR0 := Rws.start w
  go_enter Tryz.func13, Tryz.ntmps13
  go_upto_region 1 with (first | (refine wpList_box_rws rfl _ _ (by rfl) (by assumption) _ rfl ?_; intro gp w1 hR) | (refine wpList_alloc_rws rfl _ (by rfl) (by assumption) _ (by first | exact zero_pt | exact zero_ln | exact zero_key) ?_; intro gr w1 hR) | (refine wF_load rfl (by rfl) (by assumption) rfl (by repeat (first | exact pzH | refine pzM ?_)) (by first | exact c3_0 | exact c3_1 | exact c3_2 | exact c2_0 | exact c2_1) (by first | exact isAgg_b | exact isAgg_q | exact isAgg_str) ?_) | (refine wQ_load rfl (by rfl) (by assumption) rfl (by repeat (first | exact pzH | refine pzM ?_)) (by first | rfl | exact PtC.size (by assumption)) ?_) | (refine wQ_loadL rfl (by rfl) (by assumption) rfl (by repeat (first | exact pzH | refine pzM ?_)) (by first | rfl | exact LnC.size (by assumption)) ?_))
  have r0 := (hR.row _ (List.Mem.tail _ (List.Mem.head _))).2
  have k0 := cell_of_row w1 _ 0 _ _ _ r0; have k1 := cell_of_row w1 _ 1 _ _ _ r0
  simp only [c2_0, c2_1] at k0 k1
  clear r0
  go_upto_region 5 with (fail)
  clear k0 k1 m1 m2 n1
  refine wp_region_soft 6 (by kernel_rfl) (by kernel_rfl) (by rfl) (by assumption) ?_
  iterate 2 (first | (refine sFa Tryz.underlying31 ?_) | (refine sFa Tryz.underlying103 ?_) | (refine sFa Tryz.underlying23 ?_) | (refine sLq ?_) | (refine sLs ?_) | (refine sLp ?_) | (refine sLl ?_) | (refine sMq ?_))
  refine s_call1 (by rfl) Tryz.func34 (by kernel_rfl) rfl (stb_q (nv kx)) (A := Is (.string kx)) (by exact fun _ _ _ h => h) (fun w v h => by rw [show v = _ from h]; exact HR1.out w) ?_
  iterate 2 (first | (refine sFa Tryz.underlying31 ?_) | (refine sFa Tryz.underlying103 ?_) | (refine sFa Tryz.underlying23 ?_) | (refine sLq ?_) | (refine sLs ?_) | (refine sLp ?_) | (refine sLl ?_) | (refine sMq ?_))
  refine s_call1 (by rfl) Tryz.func34 (by kernel_rfl) rfl (stb_q (nv ky)) (A := Is (.string ky)) (by exact fun _ _ _ h => h) (fun w v h => by rw [show v = _ from h]; exact HR2.out w) ?_
  intro w2 hR hb_w2 v27 h27 v28 h28 v29 h29 v30 h30 v31 h31 v32 h32
  simp only [softEnd, Act.put, List.setIfInBounds_toArray, List.set_cons_succ, List.set_cons_zero, List.drop_succ_cons, List.drop_zero]
  clear h27 h28 h30 h31
  have h29 : QV w2 v29 (nv kx) := h29
  have h32 : QV w2 v32 (nv ky) := h32
  go_wp2_with fail
  refine (qmod_any 0 _).mono ?_
  rintro e w3 ⟨po1, pn1, pc1, rfl, hqp1, hbp1⟩
  have hqp1 : QV w3 (.slice po1 pn1 pc1) Ec.P := by rw [pp0] at hqp1; exact QV.mk hqp1 (by decide)
  have h29 := h29.below hbp1; have h32 := h32.below hbp1; have hR := Rws.call (by assumption) hbp1
  go_wp2_with fail
  refine (cmp_yes _ _ _ _ _ h29 hqp1 HX.out).mono ?_
  rintro e w4 ⟨cu1, hcu1, rfl, hbc1⟩
  have h29 := h29.below hbc1; have h32 := h32.below hbc1; have hR := Rws.call (by assumption) hbc1
  have hdc : decide (0 ≤ cu1) = true := decide_eq_true hcu1
  go_wp2_with (first | (refine wB_store rfl (by rfl) (by assumption) rfl rfl (by repeat (first | exact Pick.here | apply Pick.there)) (by first | exact pt_info (by rfl) | exact pt_info (PtC.size (by assumption)) | exact ln_info (by rfl) | exact ln_info (LnC.size (by assumption)) | exact key_info (by rfl)) (by first | rfl | (rw [PtC.size (by assumption)]; rfl) | (rw [LnC.size (by assumption)]; rfl)) (by first | rfl | exact inf_cells | exact zpt_cells | exact zln_cells | exact PtC.cells (by assumption) | exact LnC.cells (by assumption)) ?_; intro w1 hR hbt hrr) | (refine wB_build (xs := []) (cs := zpt) rfl (by rfl) (by exact built_none) ?_))
  exact wQ_end2 Tryz.results13 (by assumption) rfl (List.Mem.head _) rfl rfl rfl fun hb => RetIn.none HI.out rfl rfl zpt_cells hb
set_option maxRecDepth 100000 in
set_option maxHeartbeats 1600000 in
theorem rin_by (kx ky : ByteArray) (w : World) (hkx : kx.size = 32) (hky : ky.size = 32) (hx : nv kx < Ec.P) (hy : ¬ nv ky < Ec.P) : Calls Tryz.prog 13 #[.agg (kvc kx ky)] w (RetIn w kx ky) := by
  have n1 : kx.toList.isEmpty = false := by
    cases he : kx.toList.isEmpty with
    | false => rfl
    | true => have := (nil_iff kx).1 (List.isEmpty_iff.1 he); omega
  have m1 : (kx.size : Int) = 32 := by omega
  have m2 : (ky.size : Int) = 32 := by omega
  have hvx : nv kx < 115792089237316195423570985008687907853269984665640564039457584007913129639936 := nv_lt32 (by omega)
  have hvy : nv ky < 115792089237316195423570985008687907853269984665640564039457584007913129639936 := nv_lt32 (by omega)
  have hR1 := fun w => qread_any kx w (by omega)
  have hR2 := fun w => qread_any ky w (by omega)
  have HI := Lib.hid (show inK kx ky = none from by rw [inK_of hkx hky]; exact if_neg (fun h => hy h.2.1))
  have HX := Lib.hid (show ¬ Ec.P ≤ nv kx by omega)
  have HY := Lib.hid (show Ec.P ≤ nv ky by omega)
  clear hx hy
  have HR1 := Lib.hid (show ∀ w : World, Calls Tryz.prog 34 #[.string kx] w (RetQV w (nv kx)) from fun w => (hR1 w).mono fun _ _ h => h.v hvx)
  have HR2 := Lib.hid (show ∀ w : World, Calls Tryz.prog 34 #[.string ky] w (RetQV w (nv ky)) from fun w => (hR2 w).mono fun _ _ h => h.v hvy)
  clear hR1 hR2 hvx hvy hkx hky
  have hR0 := Rws.start w
  go_enter Tryz.func13, Tryz.ntmps13
  go_upto_region 1 with (first | (refine wpList_box_rws rfl _ _ (by rfl) (by assumption) _ rfl ?_; intro gp w1 hR) | (refine wpList_alloc_rws rfl _ (by rfl) (by assumption) _ (by first | exact zero_pt | exact zero_ln | exact zero_key) ?_; intro gr w1 hR) | (refine wF_load rfl (by rfl) (by assumption) rfl (by repeat (first | exact pzH | refine pzM ?_)) (by first | exact c3_0 | exact c3_1 | exact c3_2 | exact c2_0 | exact c2_1) (by first | exact isAgg_b | exact isAgg_q | exact isAgg_str) ?_) | (refine wQ_load rfl (by rfl) (by assumption) rfl (by repeat (first | exact pzH | refine pzM ?_)) (by first | rfl | exact PtC.size (by assumption)) ?_) | (refine wQ_loadL rfl (by rfl) (by assumption) rfl (by repeat (first | exact pzH | refine pzM ?_)) (by first | rfl | exact LnC.size (by assumption)) ?_))
  have r0 := (hR.row _ (List.Mem.tail _ (List.Mem.head _))).2
  have k0 := cell_of_row w1 _ 0 _ _ _ r0; have k1 := cell_of_row w1 _ 1 _ _ _ r0
  simp only [c2_0, c2_1] at k0 k1
  clear r0
  go_upto_region 5 with (fail)
  clear k0 k1 m1 m2 n1
  refine wp_region_soft 6 (by kernel_rfl) (by kernel_rfl) (by rfl) (by assumption) ?_
  iterate 2 (first | (refine sFa Tryz.underlying31 ?_) | (refine sFa Tryz.underlying103 ?_) | (refine sFa Tryz.underlying23 ?_) | (refine sLq ?_) | (refine sLs ?_) | (refine sLp ?_) | (refine sLl ?_) | (refine sMq ?_))
  refine s_call1 (by rfl) Tryz.func34 (by kernel_rfl) rfl (stb_q (nv kx)) (A := Is (.string kx)) (by exact fun _ _ _ h => h) (fun w v h => by rw [show v = _ from h]; exact HR1.out w) ?_
  iterate 2 (first | (refine sFa Tryz.underlying31 ?_) | (refine sFa Tryz.underlying103 ?_) | (refine sFa Tryz.underlying23 ?_) | (refine sLq ?_) | (refine sLs ?_) | (refine sLp ?_) | (refine sLl ?_) | (refine sMq ?_))
  refine s_call1 (by rfl) Tryz.func34 (by kernel_rfl) rfl (stb_q (nv ky)) (A := Is (.string ky)) (by exact fun _ _ _ h => h) (fun w v h => by rw [show v = _ from h]; exact HR2.out w) ?_
  intro w2 hR hb_w2 v27 h27 v28 h28 v29 h29 v30 h30 v31 h31 v32 h32
  simp only [softEnd, Act.put, List.setIfInBounds_toArray, List.set_cons_succ, List.set_cons_zero, List.drop_succ_cons, List.drop_zero]
  clear h27 h28 h30 h31
  have h29 : QV w2 v29 (nv kx) := h29
  have h32 : QV w2 v32 (nv ky) := h32
  go_wp2_with fail
  refine (qmod_any 0 _).mono ?_
  rintro e w3 ⟨po1, pn1, pc1, rfl, hqp1, hbp1⟩
  have hqp1 : QV w3 (.slice po1 pn1 pc1) Ec.P := by rw [pp0] at hqp1; exact QV.mk hqp1 (by decide)
  have h29 := h29.below hbp1; have h32 := h32.below hbp1; have hR := Rws.call (by assumption) hbp1
  go_wp2_with fail
  refine (cmp_no _ _ _ _ _ h29 hqp1 HX.out).mono ?_
  rintro e w4 ⟨cu1, hcu1, rfl, hbc1⟩
  have h29 := h29.below hbc1; have h32 := h32.below hbc1; have hR := Rws.call (by assumption) hbc1
  have hdc1 : decide (0 ≤ cu1) = false := decide_eq_false (by omega)
  go_wp2_with fail
  refine (qmod_any 0 _).mono ?_
  rintro e w5 ⟨po2, pn2, pc2, rfl, hqp2, hbp2⟩
  have hqp2 : QV w5 (.slice po2 pn2 pc2) Ec.P := by rw [pp0] at hqp2; exact QV.mk hqp2 (by decide)
  have h29 := h29.below hbp2; have h32 := h32.below hbp2; have hR := Rws.call (by assumption) hbp2
  go_wp2_with fail
  refine (cmp_yes _ _ _ _ _ h32 hqp2 HY.out).mono ?_
  rintro e w6 ⟨cu2, hcu2, rfl, hbc2⟩
  have h29 := h29.below hbc2; have h32 := h32.below hbc2; have hR := Rws.call (by assumption) hbc2
  have hdc : decide (0 ≤ cu2) = true := decide_eq_true hcu2
  go_wp2_with (first | (refine wB_store rfl (by rfl) (by assumption) rfl rfl (by repeat (first | exact Pick.here | apply Pick.there)) (by first | exact pt_info (by rfl) | exact pt_info (PtC.size (by assumption)) | exact ln_info (by rfl) | exact ln_info (LnC.size (by assumption)) | exact key_info (by rfl)) (by first | rfl | (rw [PtC.size (by assumption)]; rfl) | (rw [LnC.size (by assumption)]; rfl)) (by first | rfl | exact inf_cells | exact zpt_cells | exact zln_cells | exact PtC.cells (by assumption) | exact LnC.cells (by assumption)) ?_; intro w1 hR hbt hrr) | (refine wB_build (xs := []) (cs := zpt) rfl (by rfl) (by exact built_none) ?_))
  exact wQ_end2 Tryz.results13 (by assumption) rfl (List.Mem.head _) rfl rfl rfl fun hb => RetIn.none HI.out rfl rfl zpt_cells hb
set_option maxRecDepth 100000 in
set_option maxHeartbeats 1600000 in
theorem rin_off (kx ky : ByteArray) (w : World) (hkx : kx.size = 32) (hky : ky.size = 32) (hx : nv kx < Ec.P) (hy : nv ky < Ec.P) (hc : ¬ (Ec.Pt.at (toF (nv kx)) (toF (nv ky))).on Ec.cb) : Calls Tryz.prog 13 #[.agg (kvc kx ky)] w (RetIn w kx ky) := by
  have n1 : kx.toList.isEmpty = false := by
    cases he : kx.toList.isEmpty with
    | false => rfl
    | true => have := (nil_iff kx).1 (List.isEmpty_iff.1 he); omega
  have m1 : (kx.size : Int) = 32 := by omega
  have m2 : (ky.size : Int) = 32 := by omega
  have hvx : nv kx < 115792089237316195423570985008687907853269984665640564039457584007913129639936 := nv_lt32 (by omega)
  have hvy : nv ky < 115792089237316195423570985008687907853269984665640564039457584007913129639936 := nv_lt32 (by omega)
  have hR1 := fun w => qread_any kx w (by omega)
  have hR2 := fun w => qread_any ky w (by omega)
  have HI := Lib.hid (show inK kx ky = none from by rw [inK_of hkx hky]; exact if_neg (fun h => hc h.2.2))
  have HX := Lib.hid (show ¬ Ec.P ≤ nv kx by omega)
  have HY := Lib.hid (show ¬ Ec.P ≤ nv ky by omega)
  have HC := Lib.hid hc
  obtain ⟨fx, hfx⟩ : ∃ fx : Ec.F, fx = toF (nv kx) := ⟨_, rfl⟩
  obtain ⟨fy, hfy⟩ : ∃ fy : Ec.F, fy = toF (nv ky) := ⟨_, rfl⟩
  have HFX := Lib.hid (show nv kx = fx.val by rw [hfx, toF_lt hx])
  have HFY := Lib.hid (show nv ky = fy.val by rw [hfy, toF_lt hy])
  rw [← hfx, ← hfy] at HC
  clear hc hfx hfy hx hy
  have HR1 := Lib.hid (show ∀ w : World, Calls Tryz.prog 34 #[.string kx] w (RetQV w (nv kx)) from fun w => (hR1 w).mono fun _ _ h => h.v hvx)
  have HR2 := Lib.hid (show ∀ w : World, Calls Tryz.prog 34 #[.string ky] w (RetQV w (nv ky)) from fun w => (hR2 w).mono fun _ _ h => h.v hvy)
  clear hR1 hR2 hvx hvy hkx hky
  have hR0 := Rws.start w
  go_enter Tryz.func13, Tryz.ntmps13
  go_upto_region 1 with (first | (refine wpList_box_rws rfl _ _ (by rfl) (by assumption) _ rfl ?_; intro gp w1 hR) | (refine wpList_alloc_rws rfl _ (by rfl) (by assumption) _ (by first | exact zero_pt | exact zero_ln | exact zero_key) ?_; intro gr w1 hR) | (refine wF_load rfl (by rfl) (by assumption) rfl (by repeat (first | exact pzH | refine pzM ?_)) (by first | exact c3_0 | exact c3_1 | exact c3_2 | exact c2_0 | exact c2_1) (by first | exact isAgg_b | exact isAgg_q | exact isAgg_str) ?_) | (refine wQ_load rfl (by rfl) (by assumption) rfl (by repeat (first | exact pzH | refine pzM ?_)) (by first | rfl | exact PtC.size (by assumption)) ?_) | (refine wQ_loadL rfl (by rfl) (by assumption) rfl (by repeat (first | exact pzH | refine pzM ?_)) (by first | rfl | exact LnC.size (by assumption)) ?_))
  have r0 := (hR.row _ (List.Mem.tail _ (List.Mem.head _))).2
  have k0 := cell_of_row w1 _ 0 _ _ _ r0; have k1 := cell_of_row w1 _ 1 _ _ _ r0
  simp only [c2_0, c2_1] at k0 k1
  clear r0
  go_upto_region 5 with (fail)
  clear k0 k1 m1 m2 n1
  refine wp_region_soft 6 (by kernel_rfl) (by kernel_rfl) (by rfl) (by assumption) ?_
  iterate 2 (first | (refine sFa Tryz.underlying31 ?_) | (refine sFa Tryz.underlying103 ?_) | (refine sFa Tryz.underlying23 ?_) | (refine sLq ?_) | (refine sLs ?_) | (refine sLp ?_) | (refine sLl ?_) | (refine sMq ?_))
  refine s_call1 (by rfl) Tryz.func34 (by kernel_rfl) rfl (stb_q (nv kx)) (A := Is (.string kx)) (by exact fun _ _ _ h => h) (fun w v h => by rw [show v = _ from h]; exact HR1.out w) ?_
  iterate 2 (first | (refine sFa Tryz.underlying31 ?_) | (refine sFa Tryz.underlying103 ?_) | (refine sFa Tryz.underlying23 ?_) | (refine sLq ?_) | (refine sLs ?_) | (refine sLp ?_) | (refine sLl ?_) | (refine sMq ?_))
  refine s_call1 (by rfl) Tryz.func34 (by kernel_rfl) rfl (stb_q (nv ky)) (A := Is (.string ky)) (by exact fun _ _ _ h => h) (fun w v h => by rw [show v = _ from h]; exact HR2.out w) ?_
  intro w2 hR hb_w2 v27 h27 v28 h28 v29 h29 v30 h30 v31 h31 v32 h32
  simp only [softEnd, Act.put, List.setIfInBounds_toArray, List.set_cons_succ, List.set_cons_zero, List.drop_succ_cons, List.drop_zero]
  clear h27 h28 h30 h31
  have h29 : QV w2 v29 (nv kx) := h29
  have h32 : QV w2 v32 (nv ky) := h32
  go_wp2_with fail
  refine (qmod_any 0 _).mono ?_
  rintro e w3 ⟨po1, pn1, pc1, rfl, hqp1, hbp1⟩
  have hqp1 : QV w3 (.slice po1 pn1 pc1) Ec.P := by rw [pp0] at hqp1; exact QV.mk hqp1 (by decide)
  have h29 := h29.below hbp1; have h32 := h32.below hbp1; have hR := Rws.call (by assumption) hbp1
  go_wp2_with fail
  refine (cmp_no _ _ _ _ _ h29 hqp1 HX.out).mono ?_
  rintro e w4 ⟨cu1, hcu1, rfl, hbc1⟩
  have h29 := h29.below hbc1; have h32 := h32.below hbc1; have hR := Rws.call (by assumption) hbc1
  have hdc1 : decide (0 ≤ cu1) = false := decide_eq_false (by omega)
  go_wp2_with fail
  refine (qmod_any 0 _).mono ?_
  rintro e w5 ⟨po2, pn2, pc2, rfl, hqp2, hbp2⟩
  have hqp2 : QV w5 (.slice po2 pn2 pc2) Ec.P := by rw [pp0] at hqp2; exact QV.mk hqp2 (by decide)
  have h29 := h29.below hbp2; have h32 := h32.below hbp2; have hR := Rws.call (by assumption) hbp2
  go_wp2_with fail
  refine (cmp_no _ _ _ _ _ h32 hqp2 HY.out).mono ?_
  rintro e w6 ⟨cu2, hcu2, rfl, hbc2⟩
  have h29 := h29.below hbc2; have h32 := h32.below hbc2; have hR := Rws.call (by assumption) hbc2
  have hdc2 : decide (0 ≤ cu2) = false := decide_eq_false (by omega)
  go_upto_region 8 with (fail)
  rw [HFX.out] at h29
  rw [HFY.out] at h32
  refine wp_region_seq 11 (by kernel_rfl) (by rfl) (by assumption) ?_
  iterate 3 (refine s_move (by rfl) (stb_q _) (by exact has_fix (fun _ _ h => h) (by assumption)) ?_)
  iterate 2 (refine s_call2 (by rfl) Tryz.func39 (by kernel_rfl) rfl (stb_q _) (by exact fun _ _ _ h => h) (by exact fun _ _ _ h => h) (fun w v u h1 h2 => times_v h1 h2) ?_)
  refine s_litF 3 3 (by rfl) (by decide) (by decide) Ec.val_3 ?_
  refine s_move (by rfl) (stb_q _) (by exact has_fix (fun _ _ h => h) (by assumption)) ?_
  refine s_call2 (by rfl) Tryz.func39 (by kernel_rfl) rfl (stb_q _) (by exact fun _ _ _ h => h) (by exact fun _ _ _ h => h) (fun w v u h1 h2 => times_v h1 h2) ?_
  refine s_call2 (by rfl) Tryz.func38 (by kernel_rfl) rfl (stb_q _) (by exact fun _ _ _ h => h) (by exact fun _ _ _ h => h) (fun w v u h1 h2 => minus_v h1 h2) ?_
  refine s_call (xs := []) (by rfl) Tryz.func40 (by kernel_rfl) rfl (stb_q Ec.cb.val) (fun w e _ _ => (qb_any w).mono fun _ _ h => h.v (F_lt _)) ?_
  refine s_call2 (by rfl) Tryz.func37 (by kernel_rfl) rfl (stb_q _) (by exact fun _ _ _ h => h) (by exact fun _ _ _ h => h) (fun w v u h1 h2 => plus_v h1 h2) ?_
  intro w7 hR hb_w7 v44 h44 v45 h45 v46 h46 v47 h47 v48 h48 v49 h49 v50 h50 v51 h51 v52 h52 v53 h53 v54 h54
  simp only [softEnd, Act.put, List.setIfInBounds_toArray, List.set_cons_succ, List.set_cons_zero, List.drop_succ_cons, List.drop_zero]
  have h29 := h29.below hb_w7
  have h32 := h32.below hb_w7
  clear h44 h45 h46 h50
  have h47 : QV w7 v47 _ := h47
  have h48 : QV w7 v48 _ := h48
  have h49 : QV w7 v49 _ := h49
  have h51 : QV w7 v51 _ := h51
  have h52 : QV w7 v52 _ := h52
  have h54 : QV w7 v54 _ := h54
  go_upto_region 9 with (fail)
  refine wp_region_seq 9 (by kernel_rfl) (by rfl) (by assumption) ?_
  iterate 2 (refine s_move (by rfl) (stb_q _) (by exact has_fix (fun _ _ h => h) (by assumption)) ?_)
  refine s_bpt (by rfl) (by exact fun _ _ _ h => h) (by exact fun _ _ _ h => h) ?_
  iterate 2 (refine s_move (by rfl) (stb_q _) (by exact has_fix (fun _ _ h => h) (by assumption)) ?_)
  refine s_call2 (by rfl) Tryz.func39 (by kernel_rfl) rfl (stb_q _) (by exact fun _ _ _ h => h) (by exact fun _ _ _ h => h) (fun w v u h1 h2 => times_v h1 h2) ?_
  refine s_move (by rfl) (stb_q _) (by exact has_fix (fun _ _ h => h) (by assumption)) ?_
  refine s_call2 (by rfl) Tryz.func35 (by kernel_rfl) rfl (fun _ _ _ _ h => h) (R := fun _ v => ∃ c : Int, v = .int .i64 c ∧ (c = 0 ↔ fy * fy = fx * (fx * fx) - 3 * fx + Ec.cb)) (A := QVp (fy * fy).val) (A' := QVp (fx * (fx * fx) - 3 * fx + Ec.cb).val) (by exact fun _ _ _ h => h) (by exact fun _ _ _ h => h) (fun w v u h1 h2 => cmpF_res h1 h2) ?_
  refine s_eq0 (by rfl) (by exact fun _ _ _ h => h) ?_
  intro w8 hR hb_w8 v55 h55 v56 h56 v57 h57 v58 h58 v59 h59 v60 h60 v61 h61 v62 h62 v63 h63
  simp only [softEnd, Act.put, List.setIfInBounds_toArray, List.set_cons_succ, List.set_cons_zero, List.drop_succ_cons, List.drop_zero]
  have h29 := h29.below hb_w8
  have h32 := h32.below hb_w8
  clear h55 h56 h58 h59 h61
  have h60 : QV w8 v60 _ := h60
  obtain ⟨b63, rfl, hb63⟩ := h63
  obtain ⟨cs9, rfl, hc9⟩ := h57
  go_wp2_with (refine wB_store rfl (by rfl) (by assumption) rfl rfl (by repeat (first | exact Pick.here | apply Pick.there)) (by exact pt_info hc9.size) (by rw [hc9.size]; rfl) (by exact hc9.cells) ?_; intro w9 hR hbt hrr)
  exact wQ_end2 Tryz.results13 hR rfl (List.Mem.head _) hc9.size rfl rfl fun hb => RetIn.none HI.out (by cases hq : b63 with
    | false => rfl
    | true => exact absurd (hb63.1 hq) HC.out) hc9.size hc9.cells hb
set_option maxRecDepth 100000 in
set_option maxHeartbeats 1600000 in
theorem rin_on (kx ky : ByteArray) (w : World) (hkx : kx.size = 32) (hky : ky.size = 32) (hx : nv kx < Ec.P) (hy : nv ky < Ec.P) (hc : (Ec.Pt.at (toF (nv kx)) (toF (nv ky))).on Ec.cb) : Calls Tryz.prog 13 #[.agg (kvc kx ky)] w (RetIn w kx ky) := by
  have n1 : kx.toList.isEmpty = false := by
    cases he : kx.toList.isEmpty with
    | false => rfl
    | true => have := (nil_iff kx).1 (List.isEmpty_iff.1 he); omega
  have m1 : (kx.size : Int) = 32 := by omega
  have m2 : (ky.size : Int) = 32 := by omega
  have hvx : nv kx < 115792089237316195423570985008687907853269984665640564039457584007913129639936 := nv_lt32 (by omega)
  have hvy : nv ky < 115792089237316195423570985008687907853269984665640564039457584007913129639936 := nv_lt32 (by omega)
  have hR1 := fun w => qread_any kx w (by omega)
  have hR2 := fun w => qread_any ky w (by omega)
  have HI := Lib.hid (show inK kx ky = some (.at (toF (nv kx)) (toF (nv ky))) from by rw [inK_of hkx hky]; exact if_pos ⟨hx, hy, hc⟩)
  have HX := Lib.hid (show ¬ Ec.P ≤ nv kx by omega)
  have HY := Lib.hid (show ¬ Ec.P ≤ nv ky by omega)
  have HC := Lib.hid hc
  obtain ⟨fx, hfx⟩ : ∃ fx : Ec.F, fx = toF (nv kx) := ⟨_, rfl⟩
  obtain ⟨fy, hfy⟩ : ∃ fy : Ec.F, fy = toF (nv ky) := ⟨_, rfl⟩
  have HFX := Lib.hid (show nv kx = fx.val by rw [hfx, toF_lt hx])
  have HFY := Lib.hid (show nv ky = fy.val by rw [hfy, toF_lt hy])
  rw [← hfx, ← hfy] at HC
  rw [← hfx, ← hfy] at HI
  clear hc hfx hfy hx hy
  have HR1 := Lib.hid (show ∀ w : World, Calls Tryz.prog 34 #[.string kx] w (RetQV w (nv kx)) from fun w => (hR1 w).mono fun _ _ h => h.v hvx)
  have HR2 := Lib.hid (show ∀ w : World, Calls Tryz.prog 34 #[.string ky] w (RetQV w (nv ky)) from fun w => (hR2 w).mono fun _ _ h => h.v hvy)
  clear hR1 hR2 hvx hvy hkx hky
  have hR0 := Rws.start w
  go_enter Tryz.func13, Tryz.ntmps13
  go_upto_region 1 with (first | (refine wpList_box_rws rfl _ _ (by rfl) (by assumption) _ rfl ?_; intro gp w1 hR) | (refine wpList_alloc_rws rfl _ (by rfl) (by assumption) _ (by first | exact zero_pt | exact zero_ln | exact zero_key) ?_; intro gr w1 hR) | (refine wF_load rfl (by rfl) (by assumption) rfl (by repeat (first | exact pzH | refine pzM ?_)) (by first | exact c3_0 | exact c3_1 | exact c3_2 | exact c2_0 | exact c2_1) (by first | exact isAgg_b | exact isAgg_q | exact isAgg_str) ?_) | (refine wQ_load rfl (by rfl) (by assumption) rfl (by repeat (first | exact pzH | refine pzM ?_)) (by first | rfl | exact PtC.size (by assumption)) ?_) | (refine wQ_loadL rfl (by rfl) (by assumption) rfl (by repeat (first | exact pzH | refine pzM ?_)) (by first | rfl | exact LnC.size (by assumption)) ?_))
  have r0 := (hR.row _ (List.Mem.tail _ (List.Mem.head _))).2
  have k0 := cell_of_row w1 _ 0 _ _ _ r0; have k1 := cell_of_row w1 _ 1 _ _ _ r0
  simp only [c2_0, c2_1] at k0 k1
  clear r0
  go_upto_region 5 with (fail)
  clear k0 k1 m1 m2 n1
  refine wp_region_soft 6 (by kernel_rfl) (by kernel_rfl) (by rfl) (by assumption) ?_
  iterate 2 (first | (refine sFa Tryz.underlying31 ?_) | (refine sFa Tryz.underlying103 ?_) | (refine sFa Tryz.underlying23 ?_) | (refine sLq ?_) | (refine sLs ?_) | (refine sLp ?_) | (refine sLl ?_) | (refine sMq ?_))
  refine s_call1 (by rfl) Tryz.func34 (by kernel_rfl) rfl (stb_q (nv kx)) (A := Is (.string kx)) (by exact fun _ _ _ h => h) (fun w v h => by rw [show v = _ from h]; exact HR1.out w) ?_
  iterate 2 (first | (refine sFa Tryz.underlying31 ?_) | (refine sFa Tryz.underlying103 ?_) | (refine sFa Tryz.underlying23 ?_) | (refine sLq ?_) | (refine sLs ?_) | (refine sLp ?_) | (refine sLl ?_) | (refine sMq ?_))
  refine s_call1 (by rfl) Tryz.func34 (by kernel_rfl) rfl (stb_q (nv ky)) (A := Is (.string ky)) (by exact fun _ _ _ h => h) (fun w v h => by rw [show v = _ from h]; exact HR2.out w) ?_
  intro w2 hR hb_w2 v27 h27 v28 h28 v29 h29 v30 h30 v31 h31 v32 h32
  simp only [softEnd, Act.put, List.setIfInBounds_toArray, List.set_cons_succ, List.set_cons_zero, List.drop_succ_cons, List.drop_zero]
  clear h27 h28 h30 h31
  have h29 : QV w2 v29 (nv kx) := h29
  have h32 : QV w2 v32 (nv ky) := h32
  go_wp2_with fail
  refine (qmod_any 0 _).mono ?_
  rintro e w3 ⟨po1, pn1, pc1, rfl, hqp1, hbp1⟩
  have hqp1 : QV w3 (.slice po1 pn1 pc1) Ec.P := by rw [pp0] at hqp1; exact QV.mk hqp1 (by decide)
  have h29 := h29.below hbp1; have h32 := h32.below hbp1; have hR := Rws.call (by assumption) hbp1
  go_wp2_with fail
  refine (cmp_no _ _ _ _ _ h29 hqp1 HX.out).mono ?_
  rintro e w4 ⟨cu1, hcu1, rfl, hbc1⟩
  have h29 := h29.below hbc1; have h32 := h32.below hbc1; have hR := Rws.call (by assumption) hbc1
  have hdc1 : decide (0 ≤ cu1) = false := decide_eq_false (by omega)
  go_wp2_with fail
  refine (qmod_any 0 _).mono ?_
  rintro e w5 ⟨po2, pn2, pc2, rfl, hqp2, hbp2⟩
  have hqp2 : QV w5 (.slice po2 pn2 pc2) Ec.P := by rw [pp0] at hqp2; exact QV.mk hqp2 (by decide)
  have h29 := h29.below hbp2; have h32 := h32.below hbp2; have hR := Rws.call (by assumption) hbp2
  go_wp2_with fail
  refine (cmp_no _ _ _ _ _ h32 hqp2 HY.out).mono ?_
  rintro e w6 ⟨cu2, hcu2, rfl, hbc2⟩
  have h29 := h29.below hbc2; have h32 := h32.below hbc2; have hR := Rws.call (by assumption) hbc2
  have hdc2 : decide (0 ≤ cu2) = false := decide_eq_false (by omega)
  go_upto_region 8 with (fail)
  rw [HFX.out] at h29
  rw [HFY.out] at h32
  refine wp_region_seq 11 (by kernel_rfl) (by rfl) (by assumption) ?_
  iterate 3 (refine s_move (by rfl) (stb_q _) (by exact has_fix (fun _ _ h => h) (by assumption)) ?_)
  iterate 2 (refine s_call2 (by rfl) Tryz.func39 (by kernel_rfl) rfl (stb_q _) (by exact fun _ _ _ h => h) (by exact fun _ _ _ h => h) (fun w v u h1 h2 => times_v h1 h2) ?_)
  refine s_litF 3 3 (by rfl) (by decide) (by decide) Ec.val_3 ?_
  refine s_move (by rfl) (stb_q _) (by exact has_fix (fun _ _ h => h) (by assumption)) ?_
  refine s_call2 (by rfl) Tryz.func39 (by kernel_rfl) rfl (stb_q _) (by exact fun _ _ _ h => h) (by exact fun _ _ _ h => h) (fun w v u h1 h2 => times_v h1 h2) ?_
  refine s_call2 (by rfl) Tryz.func38 (by kernel_rfl) rfl (stb_q _) (by exact fun _ _ _ h => h) (by exact fun _ _ _ h => h) (fun w v u h1 h2 => minus_v h1 h2) ?_
  refine s_call (xs := []) (by rfl) Tryz.func40 (by kernel_rfl) rfl (stb_q Ec.cb.val) (fun w e _ _ => (qb_any w).mono fun _ _ h => h.v (F_lt _)) ?_
  refine s_call2 (by rfl) Tryz.func37 (by kernel_rfl) rfl (stb_q _) (by exact fun _ _ _ h => h) (by exact fun _ _ _ h => h) (fun w v u h1 h2 => plus_v h1 h2) ?_
  intro w7 hR hb_w7 v44 h44 v45 h45 v46 h46 v47 h47 v48 h48 v49 h49 v50 h50 v51 h51 v52 h52 v53 h53 v54 h54
  simp only [softEnd, Act.put, List.setIfInBounds_toArray, List.set_cons_succ, List.set_cons_zero, List.drop_succ_cons, List.drop_zero]
  have h29 := h29.below hb_w7
  have h32 := h32.below hb_w7
  clear h44 h45 h46 h50
  have h47 : QV w7 v47 _ := h47
  have h48 : QV w7 v48 _ := h48
  have h49 : QV w7 v49 _ := h49
  have h51 : QV w7 v51 _ := h51
  have h52 : QV w7 v52 _ := h52
  have h54 : QV w7 v54 _ := h54
  go_upto_region 9 with (fail)
  refine wp_region_seq 9 (by kernel_rfl) (by rfl) (by assumption) ?_
  iterate 2 (refine s_move (by rfl) (stb_q _) (by exact has_fix (fun _ _ h => h) (by assumption)) ?_)
  refine s_bpt (by rfl) (by exact fun _ _ _ h => h) (by exact fun _ _ _ h => h) ?_
  iterate 2 (refine s_move (by rfl) (stb_q _) (by exact has_fix (fun _ _ h => h) (by assumption)) ?_)
  refine s_call2 (by rfl) Tryz.func39 (by kernel_rfl) rfl (stb_q _) (by exact fun _ _ _ h => h) (by exact fun _ _ _ h => h) (fun w v u h1 h2 => times_v h1 h2) ?_
  refine s_move (by rfl) (stb_q _) (by exact has_fix (fun _ _ h => h) (by assumption)) ?_
  refine s_call2 (by rfl) Tryz.func35 (by kernel_rfl) rfl (fun _ _ _ _ h => h) (R := fun _ v => ∃ c : Int, v = .int .i64 c ∧ (c = 0 ↔ fy * fy = fx * (fx * fx) - 3 * fx + Ec.cb)) (A := QVp (fy * fy).val) (A' := QVp (fx * (fx * fx) - 3 * fx + Ec.cb).val) (by exact fun _ _ _ h => h) (by exact fun _ _ _ h => h) (fun w v u h1 h2 => cmpF_res h1 h2) ?_
  refine s_eq0 (by rfl) (by exact fun _ _ _ h => h) ?_
  intro w8 hR hb_w8 v55 h55 v56 h56 v57 h57 v58 h58 v59 h59 v60 h60 v61 h61 v62 h62 v63 h63
  simp only [softEnd, Act.put, List.setIfInBounds_toArray, List.set_cons_succ, List.set_cons_zero, List.drop_succ_cons, List.drop_zero]
  have h29 := h29.below hb_w8
  have h32 := h32.below hb_w8
  clear h55 h56 h58 h59 h61
  have h60 : QV w8 v60 _ := h60
  obtain ⟨b63, rfl, hb63⟩ := h63
  obtain ⟨cs9, rfl, hc9⟩ := h57
  go_wp2_with (refine wB_store rfl (by rfl) (by assumption) rfl rfl (by repeat (first | exact Pick.here | apply Pick.there)) (by exact pt_info hc9.size) (by rw [hc9.size]; rfl) (by exact hc9.cells) ?_; intro w9 hR hbt hrr)
  exact wQ_end2 Tryz.results13 hR rfl (List.Mem.head _) hc9.size rfl rfl fun hb => RetIn.some HI.out (hb63.2 HC.out) (hc9.but hbt hrr zpt_noint) hb
theorem rin_any (kx ky : ByteArray) (w : World) : Calls Tryz.prog 13 #[.agg (kvc kx ky)] w (RetIn w kx ky) := by
  by_cases h0 : kx.size = 0 ∧ ky.size = 0
  · exact rin_far kx ky w h0
  · by_cases h1 : kx.size = 32 ∧ ky.size = 32
    · by_cases hx : nv kx < Ec.P
      · by_cases hy : nv ky < Ec.P
        · by_cases hc : (Ec.Pt.at (toF (nv kx)) (toF (nv ky))).on Ec.cb
          · exact rin_on kx ky w h1.1 h1.2 hx hy hc
          · exact rin_off kx ky w h1.1 h1.2 hx hy hc
        · exact rin_by kx ky w h1.1 h1.2 hx hy
      · exact rin_bx kx ky w h1.1 h1.2 hx
    · exact rin_len kx ky w h0 h1
end Go.Proofs.YtaggpodckafbgaaGreatDoor
