/- The reference's points: Sum (layer 5): the walk. -/
import Derived.Test.YtaggpodckafbgaaGreatDoorZQ4
import Derived.Test.YtaggpodckafbgaaGreatDoorZA0
namespace Go.Proofs.YtaggpodckafbgaaGreatDoor
open Go.RowKit
set_option maxRecDepth 100000 in
theorem rsum_inf (V U : Value) (A' : Ec.Pt Ec.P) (w : World) (hV : PtV .inf w V) (hU : PtV A' w U) : Calls Tryz.prog 42 #[V, U] w (RetPt w A') := by
  obtain ⟨cs, rfl, hc⟩ := hV
  obtain ⟨cu, rfl, hu⟩ := hU
  have hR0 := Rws.start w
  obtain rfl : cs = #[.bool true, nilS, nilS] := hc
  go_enter Tryz.func42, Tryz.ntmps42
  go_upto_region 2 with (first | (refine wpList_box_rws rfl _ _ (by rfl) (by assumption) _ rfl ?_; intro gp w1 hR) | (refine wpList_alloc_rws rfl _ (by rfl) (by assumption) _ (by first | exact zero_pt | exact zero_ln | exact zero_key) ?_; intro gr w1 hR) | (refine wF_load rfl (by rfl) (by assumption) rfl (by repeat (first | exact pzH | refine pzM ?_)) (by first | exact c3_0 | exact c3_1 | exact c3_2 | exact c2_0 | exact c2_1) (by first | exact isAgg_b | exact isAgg_q | exact isAgg_str) ?_) | (refine wQ_load rfl (by rfl) (by assumption) rfl (by repeat (first | exact pzH | refine pzM ?_)) (by first | rfl | exact PtC.size (by assumption)) ?_) | (refine wQ_loadL rfl (by rfl) (by assumption) rfl (by repeat (first | exact pzH | refine pzM ?_)) (by first | rfl | exact LnC.size (by assumption)) ?_))
  have hu := hu.below hR.below
  go_wp2_with (first | (refine wpList_box_rws rfl _ _ (by rfl) (by assumption) _ rfl ?_; intro gp w1 hR) | (refine wpList_alloc_rws rfl _ (by rfl) (by assumption) _ (by first | exact zero_pt | exact zero_ln | exact zero_key) ?_; intro gr w1 hR) | (refine wF_load rfl (by rfl) (by assumption) rfl (by repeat (first | exact pzH | refine pzM ?_)) (by first | exact c3_0 | exact c3_1 | exact c3_2 | exact c2_0 | exact c2_1) (by first | exact isAgg_b | exact isAgg_q | exact isAgg_str) ?_) | (refine wQ_load rfl (by rfl) (by assumption) rfl (by repeat (first | exact pzH | refine pzM ?_)) (by first | rfl | exact PtC.size (by assumption)) ?_) | (refine wQ_loadL rfl (by rfl) (by assumption) rfl (by repeat (first | exact pzH | refine pzM ?_)) (by first | rfl | exact LnC.size (by assumption)) ?_) | (refine wB_store rfl (by rfl) (by assumption) rfl rfl (by repeat (first | exact Pick.here | apply Pick.there)) (by exact pt_info hu.size) (by rw [hu.size]; rfl) (by exact hu.cells) ?_; intro w1 hR hbt hrr))
  exact wQ_end Tryz.results42 (by assumption) rfl (List.Mem.head _) hu.size rfl fun hb => RetPt.mk (hu.but hbt hrr zpt_noint) hb
set_option maxRecDepth 100000 in
theorem rsum_inf2 (V U : Value) (x y : Ec.F) (w : World) (hV : PtV (.at x y) w V) (hU : PtV .inf w U) : Calls Tryz.prog 42 #[V, U] w (RetPt w (.at x y)) := by
  obtain ⟨cs, rfl, hc⟩ := hV
  obtain ⟨cu, rfl, hu⟩ := hU
  have hR0 := Rws.start w
  obtain rfl : cu = #[.bool true, nilS, nilS] := hu
  obtain ⟨X, Y, rfl, hX, hY⟩ := hc
  have hc : PtC w #[.bool false, X, Y] (.at x y) := ⟨X, Y, rfl, hX, hY⟩
  go_enter Tryz.func42, Tryz.ntmps42
  go_upto_region 4 with (first | (refine wpList_box_rws rfl _ _ (by rfl) (by assumption) _ rfl ?_; intro gp w1 hR) | (refine wpList_alloc_rws rfl _ (by rfl) (by assumption) _ (by first | exact zero_pt | exact zero_ln | exact zero_key) ?_; intro gr w1 hR) | (refine wF_load rfl (by rfl) (by assumption) rfl (by repeat (first | exact pzH | refine pzM ?_)) (by first | exact c3_0 | exact c3_1 | exact c3_2 | exact c2_0 | exact c2_1) (by first | exact isAgg_b | exact isAgg_q | exact isAgg_str) ?_) | (refine wQ_load rfl (by rfl) (by assumption) rfl (by repeat (first | exact pzH | refine pzM ?_)) (by first | rfl | exact PtC.size (by assumption)) ?_) | (refine wQ_loadL rfl (by rfl) (by assumption) rfl (by repeat (first | exact pzH | refine pzM ?_)) (by first | rfl | exact LnC.size (by assumption)) ?_))
  have hc := hc.below hR.below
  go_wp2_with (first | (refine wpList_box_rws rfl _ _ (by rfl) (by assumption) _ rfl ?_; intro gp w1 hR) | (refine wpList_alloc_rws rfl _ (by rfl) (by assumption) _ (by first | exact zero_pt | exact zero_ln | exact zero_key) ?_; intro gr w1 hR) | (refine wF_load rfl (by rfl) (by assumption) rfl (by repeat (first | exact pzH | refine pzM ?_)) (by first | exact c3_0 | exact c3_1 | exact c3_2 | exact c2_0 | exact c2_1) (by first | exact isAgg_b | exact isAgg_q | exact isAgg_str) ?_) | (refine wQ_load rfl (by rfl) (by assumption) rfl (by repeat (first | exact pzH | refine pzM ?_)) (by first | rfl | exact PtC.size (by assumption)) ?_) | (refine wQ_loadL rfl (by rfl) (by assumption) rfl (by repeat (first | exact pzH | refine pzM ?_)) (by first | rfl | exact LnC.size (by assumption)) ?_) | (refine wB_store rfl (by rfl) (by assumption) rfl rfl (by repeat (first | exact Pick.here | apply Pick.there)) (by exact pt_info hc.size) (by rw [hc.size]; rfl) (by exact hc.cells) ?_; intro w1 hR hbt hrr))
  exact wQ_end Tryz.results42 (by assumption) rfl (List.Mem.head _) hc.size rfl fun hb => RetPt.mk (hc.but hbt hrr zpt_noint) hb
set_option maxRecDepth 100000 in
set_option maxHeartbeats 1600000 in
theorem rsum_opp (V U : Value) (x y x' y' : Ec.F) (w : World) (hV : PtV (.at x y) w V) (hU : PtV (.at x' y') w U) (h1 : x = x') (h2 : y = -y') : Calls Tryz.prog 42 #[V, U] w (RetPt w (.inf)) := by
  obtain ⟨cs, rfl, hc⟩ := hV
  obtain ⟨cu, rfl, hu⟩ := hU
  have hR0 := Rws.start w
  obtain ⟨X, Y, rfl, hX, hY⟩ := hc
  obtain ⟨X', Y', rfl, hX', hY'⟩ := hu
  have hc : PtC w #[.bool false, X, Y] (.at x y) := ⟨X, Y, rfl, hX, hY⟩
  have hu : PtC w #[.bool false, X', Y'] (.at x' y') := ⟨X', Y', rfl, hX', hY'⟩
  have HO := Lib.hid (show Value.bool (sameB (.at x y) (Ec.Pt.neg (.at x' y'))) = .bool true from by show Value.bool (decide (x = x') && decide (y = -y')) = _; rw [decide_eq_true h1, decide_eq_true h2]; rfl)
  clear h1 h2
  go_enter Tryz.func42, Tryz.ntmps42
  go_upto_region 5 with (first | (refine wpList_box_rws rfl _ _ (by rfl) (by assumption) _ rfl ?_; intro gp w1 hR) | (refine wpList_alloc_rws rfl _ (by rfl) (by assumption) _ (by first | exact zero_pt | exact zero_ln | exact zero_key) ?_; intro gr w1 hR) | (refine wF_load rfl (by rfl) (by assumption) rfl (by repeat (first | exact pzH | refine pzM ?_)) (by first | exact c3_0 | exact c3_1 | exact c3_2 | exact c2_0 | exact c2_1) (by first | exact isAgg_b | exact isAgg_q | exact isAgg_str) ?_) | (refine wQ_load rfl (by rfl) (by assumption) rfl (by repeat (first | exact pzH | refine pzM ?_)) (by first | rfl | exact PtC.size (by assumption)) ?_) | (refine wQ_loadL rfl (by rfl) (by assumption) rfl (by repeat (first | exact pzH | refine pzM ?_)) (by first | rfl | exact LnC.size (by assumption)) ?_))
  have hX := hX.below hR.below
  have hY := hY.below hR.below
  have hX' := hX'.below hR.below
  have hY' := hY'.below hR.below
  have hc := hc.below hR.below
  have hu := hu.below hR.below
  refine wp_region_soft 4 (by kernel_rfl) (by kernel_rfl) (by rfl) (by assumption) ?_
  iterate 2 (first | (refine sFa Tryz.underlying31 ?_) | (refine sFa Tryz.underlying103 ?_) | (refine sFa Tryz.underlying23 ?_) | (refine sLq ?_) | (refine sLs ?_) | (refine sLp ?_) | (refine sLl ?_) | (refine sMq ?_))
  refine s_call1 (by rfl) Tryz.func78 (by kernel_rfl) rfl (stb_pt _) (A := PtV (.at x' y')) (by exact fun _ _ _ h => h) (fun w v h => ropp_any _ _ _ h) ?_
  refine s_call2 (by rfl) Tryz.func77 (by kernel_rfl) rfl (stb_is (.bool true)) (A := PtV (.at x y)) (A' := PtV (Ec.Pt.neg (.at x' y'))) (by exact fun _ _ _ h => h) (by exact fun _ _ _ h => h) (fun w v u h1 h2 => (rsame_any _ _ _ _ _ h1 h2).mono fun e w' ⟨he, hb⟩ => ⟨_, he, HO.out, hb⟩) ?_
  intro w2 hR hb_w2 v18 h18 v19 h19 v20 h20 v21 h21
  simp only [softEnd, Act.put, List.setIfInBounds_toArray, List.set_cons_succ, List.set_cons_zero, List.drop_succ_cons, List.drop_zero]
  have hX := hX.below hb_w2
  have hY := hY.below hb_w2
  have hX' := hX'.below hb_w2
  have hY' := hY'.below hb_w2
  have hc := hc.below hb_w2
  have hu := hu.below hb_w2
  obtain rfl : v21 = .bool true := h21
  clear h18 h19
  go_wp2_with (first | (refine wpList_box_rws rfl _ _ (by rfl) (by assumption) _ rfl ?_; intro gp w1 hR) | (refine wpList_alloc_rws rfl _ (by rfl) (by assumption) _ (by first | exact zero_pt | exact zero_ln | exact zero_key) ?_; intro gr w1 hR) | (refine wF_load rfl (by rfl) (by assumption) rfl (by repeat (first | exact pzH | refine pzM ?_)) (by first | exact c3_0 | exact c3_1 | exact c3_2 | exact c2_0 | exact c2_1) (by first | exact isAgg_b | exact isAgg_q | exact isAgg_str) ?_) | (refine wQ_load rfl (by rfl) (by assumption) rfl (by repeat (first | exact pzH | refine pzM ?_)) (by first | rfl | exact PtC.size (by assumption)) ?_) | (refine wQ_loadL rfl (by rfl) (by assumption) rfl (by repeat (first | exact pzH | refine pzM ?_)) (by first | rfl | exact LnC.size (by assumption)) ?_) | (refine wB_store rfl (by rfl) (by assumption) rfl rfl (by repeat (first | exact Pick.here | apply Pick.there)) (by first | exact pt_info (by rfl) | exact pt_info (PtC.size (by assumption)) | exact ln_info (by rfl) | exact ln_info (LnC.size (by assumption)) | exact key_info (by rfl)) (by first | rfl | (rw [PtC.size (by assumption)]; rfl) | (rw [LnC.size (by assumption)]; rfl)) (by first | rfl | exact inf_cells | exact zpt_cells | exact zln_cells | exact PtC.cells (by assumption) | exact LnC.cells (by assumption)) ?_; intro w1 hR hbt hrr) | (refine wB_build (xs := [(0, .const (.bool true))]) (cs := #[.bool true, nilS, nilS]) rfl (by rfl) (by exact built_inf) ?_))
  exact wQ_end Tryz.results42 (by assumption) rfl (List.Mem.head _) rfl rfl fun hb => RetPt.mk (pt_inf _) hb
set_option maxRecDepth 100000 in
set_option maxHeartbeats 1600000 in
theorem rsum_dbl (V U : Value) (x y x' y' : Ec.F) (w : World) (hV : PtV (.at x y) w V) (hU : PtV (.at x' y') w U) (h1 : ¬ (x = x' ∧ y = -y')) (h2 : x = x' ∧ y = y') (h0 : y + y ≠ 0) : Calls Tryz.prog 42 #[V, U] w (RetPt w (Ec.chord ((3 * (x * x) - 3) * Ec.inv (y + y)) x y x')) := by
  obtain ⟨cs, rfl, hc⟩ := hV
  obtain ⟨cu, rfl, hu⟩ := hU
  have hR0 := Rws.start w
  obtain ⟨X, Y, rfl, hX, hY⟩ := hc
  obtain ⟨X', Y', rfl, hX', hY'⟩ := hu
  have hc : PtC w #[.bool false, X, Y] (.at x y) := ⟨X, Y, rfl, hX, hY⟩
  have hu : PtC w #[.bool false, X', Y'] (.at x' y') := ⟨X', Y', rfl, hX', hY'⟩
  have HO := Lib.hid (show Value.bool (sameB (.at x y) (Ec.Pt.neg (.at x' y'))) = .bool false from by
    show Value.bool (decide (x = x') && decide (y = -y')) = _
    congr 1
    by_cases hxx : x = x'
    · rw [decide_eq_true hxx, decide_eq_false (fun hyy => h1 ⟨hxx, hyy⟩)]; rfl
    · rw [decide_eq_false hxx]; rfl)
  have HS := Lib.hid (show Value.bool (sameB (.at x y) (.at x' y')) = .bool true from by show Value.bool (decide (x = x') && decide (y = y')) = _; rw [decide_eq_true h2.1, decide_eq_true h2.2]; rfl)
  have HD := Lib.hid h0
  clear h1 h2 h0
  go_enter Tryz.func42, Tryz.ntmps42
  go_upto_region 5 with (first | (refine wpList_box_rws rfl _ _ (by rfl) (by assumption) _ rfl ?_; intro gp w1 hR) | (refine wpList_alloc_rws rfl _ (by rfl) (by assumption) _ (by first | exact zero_pt | exact zero_ln | exact zero_key) ?_; intro gr w1 hR) | (refine wF_load rfl (by rfl) (by assumption) rfl (by repeat (first | exact pzH | refine pzM ?_)) (by first | exact c3_0 | exact c3_1 | exact c3_2 | exact c2_0 | exact c2_1) (by first | exact isAgg_b | exact isAgg_q | exact isAgg_str) ?_) | (refine wQ_load rfl (by rfl) (by assumption) rfl (by repeat (first | exact pzH | refine pzM ?_)) (by first | rfl | exact PtC.size (by assumption)) ?_) | (refine wQ_loadL rfl (by rfl) (by assumption) rfl (by repeat (first | exact pzH | refine pzM ?_)) (by first | rfl | exact LnC.size (by assumption)) ?_))
  have hX := hX.below hR.below
  have hY := hY.below hR.below
  have hX' := hX'.below hR.below
  have hY' := hY'.below hR.below
  have hc := hc.below hR.below
  have hu := hu.below hR.below
  refine wp_region_soft 4 (by kernel_rfl) (by kernel_rfl) (by rfl) (by assumption) ?_
  iterate 2 (first | (refine sFa Tryz.underlying31 ?_) | (refine sFa Tryz.underlying103 ?_) | (refine sFa Tryz.underlying23 ?_) | (refine sLq ?_) | (refine sLs ?_) | (refine sLp ?_) | (refine sLl ?_) | (refine sMq ?_))
  refine s_call1 (by rfl) Tryz.func78 (by kernel_rfl) rfl (stb_pt _) (A := PtV (.at x' y')) (by exact fun _ _ _ h => h) (fun w v h => ropp_any _ _ _ h) ?_
  refine s_call2 (by rfl) Tryz.func77 (by kernel_rfl) rfl (stb_is (.bool false)) (A := PtV (.at x y)) (A' := PtV (Ec.Pt.neg (.at x' y'))) (by exact fun _ _ _ h => h) (by exact fun _ _ _ h => h) (fun w v u h1 h2 => (rsame_any _ _ _ _ _ h1 h2).mono fun e w' ⟨he, hb⟩ => ⟨_, he, HO.out, hb⟩) ?_
  intro w2 hR hb_w2 v18 h18 v19 h19 v20 h20 v21 h21
  simp only [softEnd, Act.put, List.setIfInBounds_toArray, List.set_cons_succ, List.set_cons_zero, List.drop_succ_cons, List.drop_zero]
  have hX := hX.below hb_w2
  have hY := hY.below hb_w2
  have hX' := hX'.below hb_w2
  have hY' := hY'.below hb_w2
  have hc := hc.below hb_w2
  have hu := hu.below hb_w2
  obtain rfl : v21 = .bool false := h21
  clear h18 h19
  go_upto_region 7 with (fail)
  refine wp_region_soft 10 (by kernel_rfl) (by kernel_rfl) (by rfl) (by assumption) ?_
  iterate 4 (first | (refine sFa Tryz.underlying31 ?_) | (refine sFa Tryz.underlying103 ?_) | (refine sFa Tryz.underlying23 ?_) | (refine sLq ?_) | (refine sLs ?_) | (refine sLp ?_) | (refine sLl ?_) | (refine sMq ?_))
  refine s_call2 (by rfl) Tryz.func38 (by kernel_rfl) rfl (stb_q _) (by exact fun _ _ _ h => h) (by exact fun _ _ _ h => h) (fun w v u h1 h2 => minus_v h1 h2) ?_
  iterate 4 (first | (refine sFa Tryz.underlying31 ?_) | (refine sFa Tryz.underlying103 ?_) | (refine sFa Tryz.underlying23 ?_) | (refine sLq ?_) | (refine sLs ?_) | (refine sLp ?_) | (refine sLl ?_) | (refine sMq ?_))
  refine s_call2 (by rfl) Tryz.func38 (by kernel_rfl) rfl (stb_q _) (by exact fun _ _ _ h => h) (by exact fun _ _ _ h => h) (fun w v u h1 h2 => minus_v h1 h2) ?_
  intro w3 hR hb_w3 v23 h23 v24 h24 v25 h25 v26 h26 v27 h27 v28 h28 v29 h29 v30 h30 v31 h31 v32 h32
  simp only [softEnd, Act.put, List.setIfInBounds_toArray, List.set_cons_succ, List.set_cons_zero, List.drop_succ_cons, List.drop_zero]
  have hX := hX.below hb_w3
  have hY := hY.below hb_w3
  have hX' := hX'.below hb_w3
  have hY' := hY'.below hb_w3
  have hc := hc.below hb_w3
  have hu := hu.below hb_w3
  clear h23 h24 h25 h26 h28 h29 h30 h31
  have h27 : QV w3 v27 _ := h27
  have h32 : QV w3 v32 _ := h32
  go_upto_region 8 with (fail)
  refine wp_region_seq 3 (by kernel_rfl) (by rfl) (by assumption) ?_
  iterate 2 (first | (refine sFa Tryz.underlying31 ?_) | (refine sFa Tryz.underlying103 ?_) | (refine sFa Tryz.underlying23 ?_) | (refine sLq ?_) | (refine sLs ?_) | (refine sLp ?_) | (refine sLl ?_) | (refine sMq ?_))
  refine s_call2 (by rfl) Tryz.func77 (by kernel_rfl) rfl (stb_is (.bool true)) (A := PtV (.at x y)) (A' := PtV (.at x' y')) (by exact fun _ _ _ h => h) (by exact fun _ _ _ h => h) (fun w v u h1 h2 => (rsame_any _ _ _ _ _ h1 h2).mono fun e w' ⟨he, hb⟩ => ⟨_, he, HS.out, hb⟩) ?_
  intro w4 hR hb_w4 v33 h33 v34 h34 v35 h35
  simp only [softEnd, Act.put, List.setIfInBounds_toArray, List.set_cons_succ, List.set_cons_zero, List.drop_succ_cons, List.drop_zero]
  have hX := hX.below hb_w4
  have hY := hY.below hb_w4
  have hX' := hX'.below hb_w4
  have hY' := hY'.below hb_w4
  have hc := hc.below hb_w4
  have hu := hu.below hb_w4
  have h27 := h27.below hb_w4
  have h32 := h32.below hb_w4
  obtain rfl : v35 = .bool true := h35
  clear h33 h34
  go_upto_region 9 with (fail)
  refine wp_region_seq 9 (by kernel_rfl) (by rfl) (by assumption) ?_
  refine s_litF 3 3 (by rfl) (by decide) (by decide) Ec.val_3 ?_
  iterate 4 (first | (refine sFa Tryz.underlying31 ?_) | (refine sFa Tryz.underlying103 ?_) | (refine sFa Tryz.underlying23 ?_) | (refine sLq ?_) | (refine sLs ?_) | (refine sLp ?_) | (refine sLl ?_) | (refine sMq ?_))
  iterate 2 (refine s_call2 (by rfl) Tryz.func39 (by kernel_rfl) rfl (stb_q _) (by exact fun _ _ _ h => h) (by exact fun _ _ _ h => h) (fun w v u h1 h2 => times_v h1 h2) ?_)
  refine s_litF 3 3 (by rfl) (by decide) (by decide) Ec.val_3 ?_
  refine s_call2 (by rfl) Tryz.func38 (by kernel_rfl) rfl (stb_q _) (by exact fun _ _ _ h => h) (by exact fun _ _ _ h => h) (fun w v u h1 h2 => minus_v h1 h2) ?_
  intro w4a hR hb_w4a v36 h36 v37 h37 v38 h38 v39 h39 v40 h40 v41 h41 v42 h42 v43 h43 v44 h44
  simp only [softEnd, Act.put, List.setIfInBounds_toArray, List.set_cons_succ, List.set_cons_zero, List.drop_succ_cons, List.drop_zero]
  have hX := hX.below hb_w4a
  have hY := hY.below hb_w4a
  have hX' := hX'.below hb_w4a
  have hY' := hY'.below hb_w4a
  clear h37 h38 h39 h40
  have h36 : QV w4a v36 _ := h36
  have h41 : QV w4a v41 _ := h41
  have h42 : QV w4a v42 _ := h42
  have h43 : QV w4a v43 _ := h43
  have h44 : QV w4a v44 _ := h44
  go_upto_region 10 with (fail)
  refine wp_region_seq 5 (by kernel_rfl) (by rfl) (by assumption) ?_
  iterate 4 (first | (refine sFa Tryz.underlying31 ?_) | (refine sFa Tryz.underlying103 ?_) | (refine sFa Tryz.underlying23 ?_) | (refine sLq ?_) | (refine sLs ?_) | (refine sLp ?_) | (refine sLl ?_) | (refine sMq ?_))
  refine s_call2 (by rfl) Tryz.func37 (by kernel_rfl) rfl (stb_q _) (by exact fun _ _ _ h => h) (by exact fun _ _ _ h => h) (fun w v u h1 h2 => plus_v h1 h2) ?_
  intro w4b hR hb_w4b v45 h45 v46 h46 v47 h47 v48 h48 v49 h49
  simp only [softEnd, Act.put, List.setIfInBounds_toArray, List.set_cons_succ, List.set_cons_zero, List.drop_succ_cons, List.drop_zero]
  have hX := hX.below hb_w4b
  have hY := hY.below hb_w4b
  have hX' := hX'.below hb_w4b
  have hY' := hY'.below hb_w4b
  have h44 := h44.below hb_w4b
  clear h45 h46 h47 h48
  have h49 : QV w4b v49 _ := h49
  have hdn := h49
  go_upto_region 11 with (fail)
  refine wp_region_seq 4 (by kernel_rfl) (by rfl) (by assumption) ?_
  iterate 2 (refine s_move (by rfl) (stb_q _) (by exact has_fix (fun _ _ h => h) (by assumption)) ?_)
  refine s_callc (by rfl) Tryz.func52 (by kernel_rfl) rfl (stb_q _) (by exact fun _ _ _ h => h) (fun w v h => inv_v h HD.out) ?_
  refine s_call2 (by rfl) Tryz.func39 (by kernel_rfl) rfl (stb_q _) (by exact fun _ _ _ h => h) (by exact fun _ _ _ h => h) (fun w v u h1 h2 => times_v h1 h2) ?_
  intro w5 hR hb_w5 v50 h50 v51 h51 v52 h52 v53 h53
  simp only [softEnd, Act.put, List.setIfInBounds_toArray, List.set_cons_succ, List.set_cons_zero, List.drop_succ_cons, List.drop_zero]
  have hX := hX.below hb_w5
  have hY := hY.below hb_w5
  have hX' := hX'.below hb_w5
  have hY' := hY'.below hb_w5
  have hdn := hdn.below hb_w5
  clear h50 h51
  have h52 : QV w5 v52 _ := h52
  have h53 : QV w5 v53 _ := h53
  go_upto_region 12 with (fail)
  refine wp_region_soft 9 (by kernel_rfl) (by kernel_rfl) (by rfl) (by assumption) ?_
  iterate 2 (refine s_move (by rfl) (stb_q _) (by exact has_fix (fun _ _ h => h) (by assumption)) ?_)
  refine s_call2 (by rfl) Tryz.func39 (by kernel_rfl) rfl (stb_q _) (by exact fun _ _ _ h => h) (by exact fun _ _ _ h => h) (fun w v u h1 h2 => times_v h1 h2) ?_
  iterate 2 ((first | (refine sFa Tryz.underlying31 ?_) | (refine sFa Tryz.underlying103 ?_) | (refine sFa Tryz.underlying23 ?_) | (refine sLq ?_) | (refine sLs ?_) | (refine sLp ?_) | (refine sLl ?_) | (refine sMq ?_)); (first | (refine sFa Tryz.underlying31 ?_) | (refine sFa Tryz.underlying103 ?_) | (refine sFa Tryz.underlying23 ?_) | (refine sLq ?_) | (refine sLs ?_) | (refine sLp ?_) | (refine sLl ?_) | (refine sMq ?_)); (refine s_call2 (by rfl) Tryz.func38 (by kernel_rfl) rfl (stb_q _) (by exact fun _ _ _ h => h) (by exact fun _ _ _ h => h) (fun w v u h1 h2 => minus_v h1 h2) ?_))
  intro w6 hR hb_w6 v54 h54 v55 h55 v56 h56 v57 h57 v58 h58 v59 h59 v60 h60 v61 h61 v62 h62
  simp only [softEnd, Act.put, List.setIfInBounds_toArray, List.set_cons_succ, List.set_cons_zero, List.drop_succ_cons, List.drop_zero]
  have hX := hX.below hb_w6
  have hY := hY.below hb_w6
  have hX' := hX'.below hb_w6
  have hY' := hY'.below hb_w6
  have h53 := h53.below hb_w6
  clear h54 h55 h57 h58 h60 h61
  have h56 : QV w6 v56 _ := h56
  have h59 : QV w6 v59 _ := h59
  have h62 : QV w6 v62 _ := h62
  go_upto_region 13 with (fail)
  refine wp_region_soft 11 (by kernel_rfl) (by kernel_rfl) (by rfl) (by assumption) ?_
  iterate 2 (refine s_move (by rfl) (stb_q _) (by exact has_fix (fun _ _ h => h) (by assumption)) ?_)
  iterate 2 (first | (refine sFa Tryz.underlying31 ?_) | (refine sFa Tryz.underlying103 ?_) | (refine sFa Tryz.underlying23 ?_) | (refine sLq ?_) | (refine sLs ?_) | (refine sLp ?_) | (refine sLl ?_) | (refine sMq ?_))
  refine s_move (by rfl) (stb_q _) (by exact has_fix (fun _ _ h => h) (by assumption)) ?_
  refine s_call2 (by rfl) Tryz.func38 (by kernel_rfl) rfl (stb_q _) (by exact fun _ _ _ h => h) (by exact fun _ _ _ h => h) (fun w v u h1 h2 => minus_v h1 h2) ?_
  refine s_call2 (by rfl) Tryz.func39 (by kernel_rfl) rfl (stb_q _) (by exact fun _ _ _ h => h) (by exact fun _ _ _ h => h) (fun w v u h1 h2 => times_v h1 h2) ?_
  iterate 2 (first | (refine sFa Tryz.underlying31 ?_) | (refine sFa Tryz.underlying103 ?_) | (refine sFa Tryz.underlying23 ?_) | (refine sLq ?_) | (refine sLs ?_) | (refine sLp ?_) | (refine sLl ?_) | (refine sMq ?_))
  refine s_call2 (by rfl) Tryz.func38 (by kernel_rfl) rfl (stb_q _) (by exact fun _ _ _ h => h) (by exact fun _ _ _ h => h) (fun w v u h1 h2 => minus_v h1 h2) ?_
  refine s_bpt (by rfl) (by exact fun _ _ _ h => h) (by exact fun _ _ _ h => h) ?_
  intro w7 hR hb_w7 v63 h63 v64 h64 v65 h65 v66 h66 v67 h67 v68 h68 v69 h69 v70 h70 v71 h71 v72 h72 v73 h73
  simp only [softEnd, Act.put, List.setIfInBounds_toArray, List.set_cons_succ, List.set_cons_zero, List.drop_succ_cons, List.drop_zero]
  clear h63 h64 h65 h66 h67 h70 h71
  have h68 : QV w7 v68 _ := h68
  have h69 : QV w7 v69 _ := h69
  have h72 : QV w7 v72 _ := h72
  obtain ⟨cs7, rfl, hc7⟩ := h73
  go_wp2_with (refine wB_store rfl (by rfl) (by assumption) rfl rfl (by repeat (first | exact Pick.here | apply Pick.there)) (by exact pt_info hc7.size) (by rw [hc7.size]; rfl) (by exact hc7.cells) ?_; intro w8 hR hbt hrr)
  exact wQ_end Tryz.results42 hR rfl (List.Mem.head _) hc7.size rfl fun hb => RetPt.mk (hc7.but hbt hrr zpt_noint) hb
set_option maxRecDepth 100000 in
set_option maxHeartbeats 1600000 in
theorem rsum_chd (V U : Value) (x y x' y' : Ec.F) (w : World) (hV : PtV (.at x y) w V) (hU : PtV (.at x' y') w U) (h1 : ¬ (x = x' ∧ y = -y')) (h2 : ¬ (x = x' ∧ y = y')) (h0 : x' - x ≠ 0) : Calls Tryz.prog 42 #[V, U] w (RetPt w (Ec.chord ((y' - y) * Ec.inv (x' - x)) x y x')) := by
  obtain ⟨cs, rfl, hc⟩ := hV
  obtain ⟨cu, rfl, hu⟩ := hU
  have hR0 := Rws.start w
  obtain ⟨X, Y, rfl, hX, hY⟩ := hc
  obtain ⟨X', Y', rfl, hX', hY'⟩ := hu
  have hc : PtC w #[.bool false, X, Y] (.at x y) := ⟨X, Y, rfl, hX, hY⟩
  have hu : PtC w #[.bool false, X', Y'] (.at x' y') := ⟨X', Y', rfl, hX', hY'⟩
  have HO := Lib.hid (show Value.bool (sameB (.at x y) (Ec.Pt.neg (.at x' y'))) = .bool false from by
    show Value.bool (decide (x = x') && decide (y = -y')) = _
    congr 1
    by_cases hxx : x = x'
    · rw [decide_eq_true hxx, decide_eq_false (fun hyy => h1 ⟨hxx, hyy⟩)]; rfl
    · rw [decide_eq_false hxx]; rfl)
  have HS := Lib.hid (show Value.bool (sameB (.at x y) (.at x' y')) = .bool false from by
    show Value.bool (decide (x = x') && decide (y = y')) = _
    congr 1
    by_cases hxx : x = x'
    · rw [decide_eq_true hxx, decide_eq_false (fun hyy => h2 ⟨hxx, hyy⟩)]; rfl
    · rw [decide_eq_false hxx]; rfl)
  have HD := Lib.hid h0
  clear h1 h2 h0
  go_enter Tryz.func42, Tryz.ntmps42
  go_upto_region 5 with (first | (refine wpList_box_rws rfl _ _ (by rfl) (by assumption) _ rfl ?_; intro gp w1 hR) | (refine wpList_alloc_rws rfl _ (by rfl) (by assumption) _ (by first | exact zero_pt | exact zero_ln | exact zero_key) ?_; intro gr w1 hR) | (refine wF_load rfl (by rfl) (by assumption) rfl (by repeat (first | exact pzH | refine pzM ?_)) (by first | exact c3_0 | exact c3_1 | exact c3_2 | exact c2_0 | exact c2_1) (by first | exact isAgg_b | exact isAgg_q | exact isAgg_str) ?_) | (refine wQ_load rfl (by rfl) (by assumption) rfl (by repeat (first | exact pzH | refine pzM ?_)) (by first | rfl | exact PtC.size (by assumption)) ?_) | (refine wQ_loadL rfl (by rfl) (by assumption) rfl (by repeat (first | exact pzH | refine pzM ?_)) (by first | rfl | exact LnC.size (by assumption)) ?_))
  have hX := hX.below hR.below
  have hY := hY.below hR.below
  have hX' := hX'.below hR.below
  have hY' := hY'.below hR.below
  have hc := hc.below hR.below
  have hu := hu.below hR.below
  refine wp_region_soft 4 (by kernel_rfl) (by kernel_rfl) (by rfl) (by assumption) ?_
  iterate 2 (first | (refine sFa Tryz.underlying31 ?_) | (refine sFa Tryz.underlying103 ?_) | (refine sFa Tryz.underlying23 ?_) | (refine sLq ?_) | (refine sLs ?_) | (refine sLp ?_) | (refine sLl ?_) | (refine sMq ?_))
  refine s_call1 (by rfl) Tryz.func78 (by kernel_rfl) rfl (stb_pt _) (A := PtV (.at x' y')) (by exact fun _ _ _ h => h) (fun w v h => ropp_any _ _ _ h) ?_
  refine s_call2 (by rfl) Tryz.func77 (by kernel_rfl) rfl (stb_is (.bool false)) (A := PtV (.at x y)) (A' := PtV (Ec.Pt.neg (.at x' y'))) (by exact fun _ _ _ h => h) (by exact fun _ _ _ h => h) (fun w v u h1 h2 => (rsame_any _ _ _ _ _ h1 h2).mono fun e w' ⟨he, hb⟩ => ⟨_, he, HO.out, hb⟩) ?_
  intro w2 hR hb_w2 v18 h18 v19 h19 v20 h20 v21 h21
  simp only [softEnd, Act.put, List.setIfInBounds_toArray, List.set_cons_succ, List.set_cons_zero, List.drop_succ_cons, List.drop_zero]
  have hX := hX.below hb_w2
  have hY := hY.below hb_w2
  have hX' := hX'.below hb_w2
  have hY' := hY'.below hb_w2
  have hc := hc.below hb_w2
  have hu := hu.below hb_w2
  obtain rfl : v21 = .bool false := h21
  clear h18 h19
  go_upto_region 7 with (fail)
  refine wp_region_soft 10 (by kernel_rfl) (by kernel_rfl) (by rfl) (by assumption) ?_
  iterate 4 (first | (refine sFa Tryz.underlying31 ?_) | (refine sFa Tryz.underlying103 ?_) | (refine sFa Tryz.underlying23 ?_) | (refine sLq ?_) | (refine sLs ?_) | (refine sLp ?_) | (refine sLl ?_) | (refine sMq ?_))
  refine s_call2 (by rfl) Tryz.func38 (by kernel_rfl) rfl (stb_q _) (by exact fun _ _ _ h => h) (by exact fun _ _ _ h => h) (fun w v u h1 h2 => minus_v h1 h2) ?_
  iterate 4 (first | (refine sFa Tryz.underlying31 ?_) | (refine sFa Tryz.underlying103 ?_) | (refine sFa Tryz.underlying23 ?_) | (refine sLq ?_) | (refine sLs ?_) | (refine sLp ?_) | (refine sLl ?_) | (refine sMq ?_))
  refine s_call2 (by rfl) Tryz.func38 (by kernel_rfl) rfl (stb_q _) (by exact fun _ _ _ h => h) (by exact fun _ _ _ h => h) (fun w v u h1 h2 => minus_v h1 h2) ?_
  intro w3 hR hb_w3 v23 h23 v24 h24 v25 h25 v26 h26 v27 h27 v28 h28 v29 h29 v30 h30 v31 h31 v32 h32
  simp only [softEnd, Act.put, List.setIfInBounds_toArray, List.set_cons_succ, List.set_cons_zero, List.drop_succ_cons, List.drop_zero]
  have hX := hX.below hb_w3
  have hY := hY.below hb_w3
  have hX' := hX'.below hb_w3
  have hY' := hY'.below hb_w3
  have hc := hc.below hb_w3
  have hu := hu.below hb_w3
  clear h23 h24 h25 h26 h28 h29 h30 h31
  have h27 : QV w3 v27 _ := h27
  have h32 : QV w3 v32 _ := h32
  go_upto_region 8 with (fail)
  refine wp_region_seq 3 (by kernel_rfl) (by rfl) (by assumption) ?_
  iterate 2 (first | (refine sFa Tryz.underlying31 ?_) | (refine sFa Tryz.underlying103 ?_) | (refine sFa Tryz.underlying23 ?_) | (refine sLq ?_) | (refine sLs ?_) | (refine sLp ?_) | (refine sLl ?_) | (refine sMq ?_))
  refine s_call2 (by rfl) Tryz.func77 (by kernel_rfl) rfl (stb_is (.bool false)) (A := PtV (.at x y)) (A' := PtV (.at x' y')) (by exact fun _ _ _ h => h) (by exact fun _ _ _ h => h) (fun w v u h1 h2 => (rsame_any _ _ _ _ _ h1 h2).mono fun e w' ⟨he, hb⟩ => ⟨_, he, HS.out, hb⟩) ?_
  intro w4 hR hb_w4 v33 h33 v34 h34 v35 h35
  simp only [softEnd, Act.put, List.setIfInBounds_toArray, List.set_cons_succ, List.set_cons_zero, List.drop_succ_cons, List.drop_zero]
  have hX := hX.below hb_w4
  have hY := hY.below hb_w4
  have hX' := hX'.below hb_w4
  have hY' := hY'.below hb_w4
  have hc := hc.below hb_w4
  have hu := hu.below hb_w4
  have h27 := h27.below hb_w4
  have h32 := h32.below hb_w4
  obtain rfl : v35 = .bool false := h35
  clear h33 h34
  have hdn := h32
  go_upto_region 11 with (fail)
  refine wp_region_seq 4 (by kernel_rfl) (by rfl) (by assumption) ?_
  iterate 2 (refine s_move (by rfl) (stb_q _) (by exact has_fix (fun _ _ h => h) (by assumption)) ?_)
  refine s_callc (by rfl) Tryz.func52 (by kernel_rfl) rfl (stb_q _) (by exact fun _ _ _ h => h) (fun w v h => inv_v h HD.out) ?_
  refine s_call2 (by rfl) Tryz.func39 (by kernel_rfl) rfl (stb_q _) (by exact fun _ _ _ h => h) (by exact fun _ _ _ h => h) (fun w v u h1 h2 => times_v h1 h2) ?_
  intro w5 hR hb_w5 v50 h50 v51 h51 v52 h52 v53 h53
  simp only [softEnd, Act.put, List.setIfInBounds_toArray, List.set_cons_succ, List.set_cons_zero, List.drop_succ_cons, List.drop_zero]
  have hX := hX.below hb_w5
  have hY := hY.below hb_w5
  have hX' := hX'.below hb_w5
  have hY' := hY'.below hb_w5
  have hdn := hdn.below hb_w5
  clear h50 h51
  have h52 : QV w5 v52 _ := h52
  have h53 : QV w5 v53 _ := h53
  go_upto_region 12 with (fail)
  refine wp_region_soft 9 (by kernel_rfl) (by kernel_rfl) (by rfl) (by assumption) ?_
  iterate 2 (refine s_move (by rfl) (stb_q _) (by exact has_fix (fun _ _ h => h) (by assumption)) ?_)
  refine s_call2 (by rfl) Tryz.func39 (by kernel_rfl) rfl (stb_q _) (by exact fun _ _ _ h => h) (by exact fun _ _ _ h => h) (fun w v u h1 h2 => times_v h1 h2) ?_
  iterate 2 ((first | (refine sFa Tryz.underlying31 ?_) | (refine sFa Tryz.underlying103 ?_) | (refine sFa Tryz.underlying23 ?_) | (refine sLq ?_) | (refine sLs ?_) | (refine sLp ?_) | (refine sLl ?_) | (refine sMq ?_)); (first | (refine sFa Tryz.underlying31 ?_) | (refine sFa Tryz.underlying103 ?_) | (refine sFa Tryz.underlying23 ?_) | (refine sLq ?_) | (refine sLs ?_) | (refine sLp ?_) | (refine sLl ?_) | (refine sMq ?_)); (refine s_call2 (by rfl) Tryz.func38 (by kernel_rfl) rfl (stb_q _) (by exact fun _ _ _ h => h) (by exact fun _ _ _ h => h) (fun w v u h1 h2 => minus_v h1 h2) ?_))
  intro w6 hR hb_w6 v54 h54 v55 h55 v56 h56 v57 h57 v58 h58 v59 h59 v60 h60 v61 h61 v62 h62
  simp only [softEnd, Act.put, List.setIfInBounds_toArray, List.set_cons_succ, List.set_cons_zero, List.drop_succ_cons, List.drop_zero]
  have hX := hX.below hb_w6
  have hY := hY.below hb_w6
  have hX' := hX'.below hb_w6
  have hY' := hY'.below hb_w6
  have h53 := h53.below hb_w6
  clear h54 h55 h57 h58 h60 h61
  have h56 : QV w6 v56 _ := h56
  have h59 : QV w6 v59 _ := h59
  have h62 : QV w6 v62 _ := h62
  go_upto_region 13 with (fail)
  refine wp_region_soft 11 (by kernel_rfl) (by kernel_rfl) (by rfl) (by assumption) ?_
  iterate 2 (refine s_move (by rfl) (stb_q _) (by exact has_fix (fun _ _ h => h) (by assumption)) ?_)
  iterate 2 (first | (refine sFa Tryz.underlying31 ?_) | (refine sFa Tryz.underlying103 ?_) | (refine sFa Tryz.underlying23 ?_) | (refine sLq ?_) | (refine sLs ?_) | (refine sLp ?_) | (refine sLl ?_) | (refine sMq ?_))
  refine s_move (by rfl) (stb_q _) (by exact has_fix (fun _ _ h => h) (by assumption)) ?_
  refine s_call2 (by rfl) Tryz.func38 (by kernel_rfl) rfl (stb_q _) (by exact fun _ _ _ h => h) (by exact fun _ _ _ h => h) (fun w v u h1 h2 => minus_v h1 h2) ?_
  refine s_call2 (by rfl) Tryz.func39 (by kernel_rfl) rfl (stb_q _) (by exact fun _ _ _ h => h) (by exact fun _ _ _ h => h) (fun w v u h1 h2 => times_v h1 h2) ?_
  iterate 2 (first | (refine sFa Tryz.underlying31 ?_) | (refine sFa Tryz.underlying103 ?_) | (refine sFa Tryz.underlying23 ?_) | (refine sLq ?_) | (refine sLs ?_) | (refine sLp ?_) | (refine sLl ?_) | (refine sMq ?_))
  refine s_call2 (by rfl) Tryz.func38 (by kernel_rfl) rfl (stb_q _) (by exact fun _ _ _ h => h) (by exact fun _ _ _ h => h) (fun w v u h1 h2 => minus_v h1 h2) ?_
  refine s_bpt (by rfl) (by exact fun _ _ _ h => h) (by exact fun _ _ _ h => h) ?_
  intro w7 hR hb_w7 v63 h63 v64 h64 v65 h65 v66 h66 v67 h67 v68 h68 v69 h69 v70 h70 v71 h71 v72 h72 v73 h73
  simp only [softEnd, Act.put, List.setIfInBounds_toArray, List.set_cons_succ, List.set_cons_zero, List.drop_succ_cons, List.drop_zero]
  clear h63 h64 h65 h66 h67 h70 h71
  have h68 : QV w7 v68 _ := h68
  have h69 : QV w7 v69 _ := h69
  have h72 : QV w7 v72 _ := h72
  obtain ⟨cs7, rfl, hc7⟩ := h73
  go_wp2_with (refine wB_store rfl (by rfl) (by assumption) rfl rfl (by repeat (first | exact Pick.here | apply Pick.there)) (by exact pt_info hc7.size) (by rw [hc7.size]; rfl) (by exact hc7.cells) ?_; intro w8 hR hbt hrr)
  exact wQ_end Tryz.results42 hR rfl (List.Mem.head _) hc7.size rfl fun hb => RetPt.mk (hc7.but hbt hrr zpt_noint) hb
end Go.Proofs.YtaggpodckafbgaaGreatDoor
