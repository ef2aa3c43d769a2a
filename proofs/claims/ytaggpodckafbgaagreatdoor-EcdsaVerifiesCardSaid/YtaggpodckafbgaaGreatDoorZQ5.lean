/- QPt3 QBytes, in one text. -/
import Derived.Test.YtaggpodckafbgaaGreatDoorZQPt2
import Derived.Test.YtaggpodckafbgaaGreatDoorZE1
import Derived.Test.YtaggpodckafbgaaGreatDoorZA0
/- The reference's long points: twice, more, end (layer 5): the walks. -/
namespace Go.Proofs.YtaggpodckafbgaaGreatDoor
open Go.RowKit
def RetLn (w : World) (j : Ec.Jac Ec.P) (e : Ending) (w' : World) : Prop := ∃ v, e = .returned v ∧ LnV j w' v ∧ Below w.heap.size w w'
theorem RetLn.mk {w0 w : World} {j : Ec.Jac Ec.P} {cs : Array Value} (h : LnC w cs j) (hb : Below w0.heap.size w0 w) : RetLn w0 j (.returned (.agg cs)) w := ⟨_, rfl, ⟨cs, rfl, h⟩, hb⟩
theorem wL_end {B : Nat} {w0 w : World} {L : List (Nat × Array Value × TypeId)} {a : Act} {fn : Func} {R : Ending → World → Prop} {p : Tmp} {g : Nat} {cs : Array Value} (hf : fn.results = #[.cell p 103]) (h : Rws B w0 w L) (hp : a.tmps.getD p undef = .pointer (some ⟨g, 0, none⟩)) (hm : (g, cs, 103) ∈ L) (hs : cs.size = 3)
    (hdef : a.defers = []) (hR : Below B w0 w → R (.returned (.agg cs)) w) : bodyPost Tryz.prog fn R .ret a w :=
  bodyPost_rws hf h g hp cs _ hm _ Tryz.underlying103 rfl (ln_info hs) hdef hR
theorem wL_end2 {B : Nat} {w0 w : World} {L : List (Nat × Array Value × TypeId)} {a : Act} {fn : Func} {R : Ending → World → Prop} {p q : Tmp} {g : Nat} {cs : Array Value} {b : Bool} (hf : fn.results = #[.cell p 103, .tmp q]) (h : Rws B w0 w L) (hp : a.tmps.getD p undef = .pointer (some ⟨g, 0, none⟩)) (hm : (g, cs, 103) ∈ L) (hs : cs.size = 3) (hq : a.tmps.getD q undef = .bool b)
    (hdef : a.defers = []) (hR : Below B w0 w → R (.returned (.tuple #[.agg cs, .bool b])) w) : bodyPost Tryz.prog fn R .ret a w :=
  bodyPost_rws2 hf h g hp cs _ hm _ Tryz.underlying103 rfl (ln_info hs) _ hq hdef hR
set_option maxRecDepth 100000 in
set_option maxHeartbeats 1600000 in
theorem ltwice_any (V : Value) (j : Ec.Jac Ec.P) (w : World) (hV : LnV j w V) : Calls Tryz.prog 80 #[V] w (RetLn w j.twice) := by
  rw [← Ec.twice_eq]
  obtain ⟨cs, rfl, hc⟩ := hV
  obtain ⟨X, Y, Z, rfl, hX, hY, hZ⟩ := hc
  have hR0 := Rws.start w
  go_enter Tryz.func80, Tryz.ntmps80
  go_upto_region 1 with (first | (refine wpList_box_rws rfl _ _ (by rfl) (by assumption) _ rfl ?_; intro gp w1 hR) | (refine wpList_alloc_rws rfl _ (by rfl) (by assumption) _ (by first | exact zero_pt | exact zero_ln | exact zero_key) ?_; intro gr w1 hR) | (refine wF_load rfl (by rfl) (by assumption) rfl (by repeat (first | exact pzH | refine pzM ?_)) (by first | exact c3_0 | exact c3_1 | exact c3_2 | exact c2_0 | exact c2_1) (by first | exact isAgg_b | exact isAgg_q | exact isAgg_str) ?_) | (refine wQ_load rfl (by rfl) (by assumption) rfl (by repeat (first | exact pzH | refine pzM ?_)) (by first | rfl | exact PtC.size (by assumption)) ?_) | (refine wQ_loadL rfl (by rfl) (by assumption) rfl (by repeat (first | exact pzH | refine pzM ?_)) (by first | rfl | exact LnC.size (by assumption)) ?_))
  have hX := hX.below hR.below; have hY := hY.below hR.below; have hZ := hZ.below hR.below
  refine wp_region_soft 10 (by kernel_rfl) (by kernel_rfl) (by rfl) (by assumption) ?_
  iterate 4 (first | (refine sFa Tryz.underlying31 ?_) | (refine sFa Tryz.underlying103 ?_) | (refine sFa Tryz.underlying23 ?_) | (refine sLq ?_) | (refine sLs ?_) | (refine sLp ?_) | (refine sLl ?_) | (refine sMq ?_))
  refine s_call2 (by rfl) Tryz.func39 (by kernel_rfl) rfl (stb_q _) (by exact fun _ _ _ h => h) (by exact fun _ _ _ h => h) (fun w v u h1 h2 => times_v h1 h2) ?_
  iterate 4 (first | (refine sFa Tryz.underlying31 ?_) | (refine sFa Tryz.underlying103 ?_) | (refine sFa Tryz.underlying23 ?_) | (refine sLq ?_) | (refine sLs ?_) | (refine sLp ?_) | (refine sLl ?_) | (refine sMq ?_))
  refine s_call2 (by rfl) Tryz.func39 (by kernel_rfl) rfl (stb_q _) (by exact fun _ _ _ h => h) (by exact fun _ _ _ h => h) (fun w v u h1 h2 => times_v h1 h2) ?_
  intro w2 hR hb_w2 v8 h8 v9 h9 v10 h10 v11 h11 v12 h12 v13 h13 v14 h14 v15 h15 v16 h16 v17 h17
  simp only [softEnd, Act.put, List.setIfInBounds_toArray, List.set_cons_succ, List.set_cons_zero, List.drop_succ_cons, List.drop_zero]
  have hX := hX.below hb_w2
  have hY := hY.below hb_w2
  have hZ := hZ.below hb_w2
  clear h8 h9 h10 h11 h13 h14 h15 h16
  have h12 : QV w2 v12 _ := h12
  have h17 : QV w2 v17 _ := h17
  go_upto_region 2 with (fail)
  refine wp_region_seq 6 (by kernel_rfl) (by rfl) (by assumption) ?_
  refine s_litF 4 4 (by rfl) (by decide) (by decide) Ec.val_4 ?_
  iterate 2 (first | (refine sFa Tryz.underlying31 ?_) | (refine sFa Tryz.underlying103 ?_) | (refine sFa Tryz.underlying23 ?_) | (refine sLq ?_) | (refine sLs ?_) | (refine sLp ?_) | (refine sLl ?_) | (refine sMq ?_))
  refine s_move (by rfl) (stb_q _) (by exact has_fix (fun _ _ h => h) (by assumption)) ?_
  iterate 2 (refine s_call2 (by rfl) Tryz.func39 (by kernel_rfl) rfl (stb_q _) (by exact fun _ _ _ h => h) (by exact fun _ _ _ h => h) (fun w v u h1 h2 => times_v h1 h2) ?_)
  intro w3 hR hb_w3 v18 h18 v19 h19 v20 h20 v21 h21 v22 h22 v23 h23
  simp only [softEnd, Act.put, List.setIfInBounds_toArray, List.set_cons_succ, List.set_cons_zero, List.drop_succ_cons, List.drop_zero]
  have hX := hX.below hb_w3
  have hY := hY.below hb_w3
  have hZ := hZ.below hb_w3
  have h12 := h12.below hb_w3
  have h17 := h17.below hb_w3
  clear h19 h20 h21
  have h18 : QV w3 v18 _ := h18
  have h22 : QV w3 v22 _ := h22
  have h23 : QV w3 v23 _ := h23
  go_upto_region 3 with (fail)
  refine wp_region_seq 11 (by kernel_rfl) (by rfl) (by assumption) ?_
  refine s_litF 3 3 (by rfl) (by decide) (by decide) Ec.val_3 ?_
  iterate 4 (first | (refine sFa Tryz.underlying31 ?_) | (refine sFa Tryz.underlying103 ?_) | (refine sFa Tryz.underlying23 ?_) | (refine sLq ?_) | (refine sLs ?_) | (refine sLp ?_) | (refine sLl ?_) | (refine sMq ?_))
  refine s_call2 (by rfl) Tryz.func39 (by kernel_rfl) rfl (stb_q _) (by exact fun _ _ _ h => h) (by exact fun _ _ _ h => h) (fun w v u h1 h2 => times_v h1 h2) ?_
  iterate 2 (refine s_move (by rfl) (stb_q _) (by exact has_fix (fun _ _ h => h) (by assumption)) ?_)
  refine s_call2 (by rfl) Tryz.func39 (by kernel_rfl) rfl (stb_q _) (by exact fun _ _ _ h => h) (by exact fun _ _ _ h => h) (fun w v u h1 h2 => times_v h1 h2) ?_
  refine s_call2 (by rfl) Tryz.func38 (by kernel_rfl) rfl (stb_q _) (by exact fun _ _ _ h => h) (by exact fun _ _ _ h => h) (fun w v u h1 h2 => minus_v h1 h2) ?_
  refine s_call2 (by rfl) Tryz.func39 (by kernel_rfl) rfl (stb_q _) (by exact fun _ _ _ h => h) (by exact fun _ _ _ h => h) (fun w v u h1 h2 => times_v h1 h2) ?_
  intro w4 hR hb_w4 v24 h24 v25 h25 v26 h26 v27 h27 v28 h28 v29 h29 v30 h30 v31 h31 v32 h32 v33 h33 v34 h34
  simp only [softEnd, Act.put, List.setIfInBounds_toArray, List.set_cons_succ, List.set_cons_zero, List.drop_succ_cons, List.drop_zero]
  have hX := hX.below hb_w4
  have hY := hY.below hb_w4
  have hZ := hZ.below hb_w4
  have h12 := h12.below hb_w4
  have h17 := h17.below hb_w4
  have h23 := h23.below hb_w4
  clear h25 h26 h27 h28 h30 h31
  have h24 : QV w4 v24 _ := h24
  have h29 : QV w4 v29 _ := h29
  have h32 : QV w4 v32 _ := h32
  have h33 : QV w4 v33 _ := h33
  have h34 : QV w4 v34 _ := h34
  go_upto_region 4 with (fail)
  refine wp_region_seq 7 (by kernel_rfl) (by rfl) (by assumption) ?_
  iterate 2 (refine s_move (by rfl) (stb_q _) (by exact has_fix (fun _ _ h => h) (by assumption)) ?_)
  refine s_call2 (by rfl) Tryz.func39 (by kernel_rfl) rfl (stb_q _) (by exact fun _ _ _ h => h) (by exact fun _ _ _ h => h) (fun w v u h1 h2 => times_v h1 h2) ?_
  iterate 2 (refine s_move (by rfl) (stb_q _) (by exact has_fix (fun _ _ h => h) (by assumption)) ?_)
  refine s_call2 (by rfl) Tryz.func37 (by kernel_rfl) rfl (stb_q _) (by exact fun _ _ _ h => h) (by exact fun _ _ _ h => h) (fun w v u h1 h2 => plus_v h1 h2) ?_
  refine s_call2 (by rfl) Tryz.func38 (by kernel_rfl) rfl (stb_q _) (by exact fun _ _ _ h => h) (by exact fun _ _ _ h => h) (fun w v u h1 h2 => minus_v h1 h2) ?_
  intro w5 hR hb_w5 v35 h35 v36 h36 v37 h37 v38 h38 v39 h39 v40 h40 v41 h41
  simp only [softEnd, Act.put, List.setIfInBounds_toArray, List.set_cons_succ, List.set_cons_zero, List.drop_succ_cons, List.drop_zero]
  have hX := hX.below hb_w5
  have hY := hY.below hb_w5
  have hZ := hZ.below hb_w5
  have h12 := h12.below hb_w5
  have h17 := h17.below hb_w5
  have h23 := h23.below hb_w5
  have h34 := h34.below hb_w5
  clear h35 h36 h38 h39
  have h37 : QV w5 v37 _ := h37
  have h40 : QV w5 v40 _ := h40
  have h41 : QV w5 v41 _ := h41
  go_upto_region 5 with (fail)
  refine wp_region_soft 21 (by kernel_rfl) (by kernel_rfl) (by rfl) (by assumption) ?_
  iterate 4 (refine s_move (by rfl) (stb_q _) (by exact has_fix (fun _ _ h => h) (by assumption)) ?_)
  refine s_call2 (by rfl) Tryz.func38 (by kernel_rfl) rfl (stb_q _) (by exact fun _ _ _ h => h) (by exact fun _ _ _ h => h) (fun w v u h1 h2 => minus_v h1 h2) ?_
  refine s_call2 (by rfl) Tryz.func39 (by kernel_rfl) rfl (stb_q _) (by exact fun _ _ _ h => h) (by exact fun _ _ _ h => h) (fun w v u h1 h2 => times_v h1 h2) ?_
  refine s_litF 8 8 (by rfl) (by decide) (by decide) Ec.val_8 ?_
  iterate 2 (refine s_move (by rfl) (stb_q _) (by exact has_fix (fun _ _ h => h) (by assumption)) ?_)
  iterate 2 (refine s_call2 (by rfl) Tryz.func39 (by kernel_rfl) rfl (stb_q _) (by exact fun _ _ _ h => h) (by exact fun _ _ _ h => h) (fun w v u h1 h2 => times_v h1 h2) ?_)
  refine s_call2 (by rfl) Tryz.func38 (by kernel_rfl) rfl (stb_q _) (by exact fun _ _ _ h => h) (by exact fun _ _ _ h => h) (fun w v u h1 h2 => minus_v h1 h2) ?_
  iterate 4 (first | (refine sFa Tryz.underlying31 ?_) | (refine sFa Tryz.underlying103 ?_) | (refine sFa Tryz.underlying23 ?_) | (refine sLq ?_) | (refine sLs ?_) | (refine sLp ?_) | (refine sLl ?_) | (refine sMq ?_))
  refine s_call2 (by rfl) Tryz.func37 (by kernel_rfl) rfl (stb_q _) (by exact fun _ _ _ h => h) (by exact fun _ _ _ h => h) (fun w v u h1 h2 => plus_v h1 h2) ?_
  iterate 2 (first | (refine sFa Tryz.underlying31 ?_) | (refine sFa Tryz.underlying103 ?_) | (refine sFa Tryz.underlying23 ?_) | (refine sLq ?_) | (refine sLs ?_) | (refine sLp ?_) | (refine sLl ?_) | (refine sMq ?_))
  refine s_call2 (by rfl) Tryz.func39 (by kernel_rfl) rfl (stb_q _) (by exact fun _ _ _ h => h) (by exact fun _ _ _ h => h) (fun w v u h1 h2 => times_v h1 h2) ?_
  refine s_bln (j := ⟨_, _, _⟩) (by rfl) (by exact fun _ _ _ h => h) (by exact fun _ _ _ h => h) (by exact fun _ _ _ h => h) ?_
  intro w6 hR hb_w6 v42 h42 v43 h43 v44 h44 v45 h45 v46 h46 v47 h47 v48 h48 v49 h49 v50 h50 v51 h51 v52 h52 v53 h53 v54 h54 v55 h55 v56 h56 v57 h57 v58 h58 v59 h59 v60 h60 v61 h61 v62 h62
  simp only [softEnd, Act.put, List.setIfInBounds_toArray, List.set_cons_succ, List.set_cons_zero, List.drop_succ_cons, List.drop_zero]
  clear h42 h43 h44 h45 h49 h50 h54 h55 h56 h57 h59 h60
  have h46 : QV w6 v46 _ := h46
  have h47 : QV w6 v47 _ := h47
  have h48 : QV w6 v48 _ := h48
  have h51 : QV w6 v51 _ := h51
  have h52 : QV w6 v52 _ := h52
  have h53 : QV w6 v53 _ := h53
  have h58 : QV w6 v58 _ := h58
  have h61 : QV w6 v61 _ := h61
  obtain ⟨cs9, rfl, hc9⟩ := h62
  go_wp2_with (refine wB_store rfl (by rfl) (by assumption) rfl rfl (by repeat (first | exact Pick.here | apply Pick.there)) (by exact ln_info hc9.size) (by rw [hc9.size]; rfl) (by exact hc9.cells) ?_; intro w8 hR hbt hrr)
  exact wL_end Tryz.results80 hR rfl (List.Mem.head _) hc9.size rfl fun hb => RetLn.mk (hc9.but hbt hrr zln_noint) hb
theorem len_zero_q {w : World} {X : Value} {a : Ec.F} (h : QV w X a.val) : ∃ ao n c, X = .slice ao n c ∧ (a = 0 ↔ n = 0) ∧ n ≤ 16 := by
  obtain ⟨ao, n, c, rfl, hq, hn⟩ := h
  refine ⟨ao, n, c, rfl, ⟨fun h0 => by rw [hq.len, h0]; exact Dg.len_zero _, fun h0 => Fin.ext ?_⟩, hn⟩
  exact Dg.eq_zero_of_len DB2 (by rw [← hq.len, h0])
def RetMore (w : World) (j : Ec.Jac Ec.P) (ok : Bool) (e : Ending) (w' : World) : Prop := ∃ cs, e = .returned (.tuple #[.agg cs, .bool ok]) ∧ LnC w' cs j ∧ Below w.heap.size w w'
theorem RetMore.mk {w0 w : World} {j : Ec.Jac Ec.P} {cs : Array Value} {ok : Bool} (h : LnC w cs j) (hb : Below w0.heap.size w0 w) : RetMore w0 j ok (.returned (.tuple #[.agg cs, .bool ok])) w := ⟨cs, rfl, h, hb⟩
theorem zln_c (w : World) : LnC w zln ⟨0, 0, 0⟩ := ⟨_, _, _, rfl, nil_q w, nil_q w, nil_q w⟩
set_option maxRecDepth 100000 in
set_option maxHeartbeats 1600000 in
theorem lmore_no (V U : Value) (j : Ec.Jac Ec.P) (x y : Ec.F) (w : World) (hV : LnV j w V) (hU : PtV (.at x y) w U) (h0 : x * (j.z * j.z) - j.x = 0) : Calls Tryz.prog 81 #[V, U] w (RetMore w ⟨0, 0, 0⟩ false) := by
  obtain ⟨cs, rfl, hc⟩ := hV
  obtain ⟨X, Y, Z, rfl, hX, hY, hZ⟩ := hc
  obtain ⟨cu, rfl, hu⟩ := hU
  obtain ⟨X', Y', rfl, hX', hY'⟩ := hu
  have hR0 := Rws.start w
  have H0 := Lib.hid h0
  clear h0
  go_enter Tryz.func81, Tryz.ntmps81
  go_upto_region 1 with (first | (refine wpList_box_rws rfl _ _ (by rfl) (by assumption) _ rfl ?_; intro gp w1 hR) | (refine wpList_alloc_rws rfl _ (by rfl) (by assumption) _ (by first | exact zero_pt | exact zero_ln | exact zero_key) ?_; intro gr w1 hR) | (refine wF_load rfl (by rfl) (by assumption) rfl (by repeat (first | exact pzH | refine pzM ?_)) (by first | exact c3_0 | exact c3_1 | exact c3_2 | exact c2_0 | exact c2_1) (by first | exact isAgg_b | exact isAgg_q | exact isAgg_str) ?_) | (refine wQ_load rfl (by rfl) (by assumption) rfl (by repeat (first | exact pzH | refine pzM ?_)) (by first | rfl | exact PtC.size (by assumption)) ?_) | (refine wQ_loadL rfl (by rfl) (by assumption) rfl (by repeat (first | exact pzH | refine pzM ?_)) (by first | rfl | exact LnC.size (by assumption)) ?_))
  have hX := hX.below hR.below; have hY := hY.below hR.below; have hZ := hZ.below hR.below; have hX' := hX'.below hR.below; have hY' := hY'.below hR.below
  refine wp_region_seq 5 (by kernel_rfl) (by rfl) (by assumption) ?_
  iterate 4 (first | (refine sFa Tryz.underlying31 ?_) | (refine sFa Tryz.underlying103 ?_) | (refine sFa Tryz.underlying23 ?_) | (refine sLq ?_) | (refine sLs ?_) | (refine sLp ?_) | (refine sLl ?_) | (refine sMq ?_))
  refine s_call2 (by rfl) Tryz.func39 (by kernel_rfl) rfl (stb_q _) (by exact fun _ _ _ h => h) (by exact fun _ _ _ h => h) (fun w v u h1 h2 => times_v h1 h2) ?_
  intro w2 hR hb_w2 v13 h13 v14 h14 v15 h15 v16 h16 v17 h17
  simp only [softEnd, Act.put, List.setIfInBounds_toArray, List.set_cons_succ, List.set_cons_zero, List.drop_succ_cons, List.drop_zero]
  have hX := hX.below hb_w2
  have hY := hY.below hb_w2
  have hZ := hZ.below hb_w2
  have hX' := hX'.below hb_w2
  have hY' := hY'.below hb_w2
  clear h13 h14 h15 h16
  have h17 : QV w2 v17 _ := h17
  go_upto_region 2 with (fail)
  refine wp_region_soft 7 (by kernel_rfl) (by kernel_rfl) (by rfl) (by assumption) ?_
  iterate 2 (first | (refine sFa Tryz.underlying31 ?_) | (refine sFa Tryz.underlying103 ?_) | (refine sFa Tryz.underlying23 ?_) | (refine sLq ?_) | (refine sLs ?_) | (refine sLp ?_) | (refine sLl ?_) | (refine sMq ?_))
  refine s_move (by rfl) (stb_q _) (by exact has_fix (fun _ _ h => h) (by assumption)) ?_
  refine s_call2 (by rfl) Tryz.func39 (by kernel_rfl) rfl (stb_q _) (by exact fun _ _ _ h => h) (by exact fun _ _ _ h => h) (fun w v u h1 h2 => times_v h1 h2) ?_
  iterate 2 (first | (refine sFa Tryz.underlying31 ?_) | (refine sFa Tryz.underlying103 ?_) | (refine sFa Tryz.underlying23 ?_) | (refine sLq ?_) | (refine sLs ?_) | (refine sLp ?_) | (refine sLl ?_) | (refine sMq ?_))
  refine s_call2 (by rfl) Tryz.func38 (by kernel_rfl) rfl (stb_q _) (by exact fun _ _ _ h => h) (by exact fun _ _ _ h => h) (fun w v u h1 h2 => minus_v h1 h2) ?_
  intro w3 hR hb_w3 v18 h18 v19 h19 v20 h20 v21 h21 v22 h22 v23 h23 v24 h24
  simp only [softEnd, Act.put, List.setIfInBounds_toArray, List.set_cons_succ, List.set_cons_zero, List.drop_succ_cons, List.drop_zero]
  have hX := hX.below hb_w3
  have hY := hY.below hb_w3
  have hZ := hZ.below hb_w3
  have hX' := hX'.below hb_w3
  have hY' := hY'.below hb_w3
  have h17 := h17.below hb_w3
  clear h18 h19 h20 h22 h23
  have h21 : QV w3 v21 _ := h21
  have h24 : QV w3 v24 _ := h24
  obtain ⟨ho, hn, hcp, rfl, hz, hn16⟩ := len_zero_q h24
  obtain rfl : hn = 0 := hz.1 H0.out
  clear hz
  go_wp2_with (first | (refine wpList_box_rws rfl _ _ (by rfl) (by assumption) _ rfl ?_; intro gp w1 hR) | (refine wpList_alloc_rws rfl _ (by rfl) (by assumption) _ (by first | exact zero_pt | exact zero_ln | exact zero_key) ?_; intro gr w1 hR) | (refine wF_load rfl (by rfl) (by assumption) rfl (by repeat (first | exact pzH | refine pzM ?_)) (by first | exact c3_0 | exact c3_1 | exact c3_2 | exact c2_0 | exact c2_1) (by first | exact isAgg_b | exact isAgg_q | exact isAgg_str) ?_) | (refine wQ_load rfl (by rfl) (by assumption) rfl (by repeat (first | exact pzH | refine pzM ?_)) (by first | rfl | exact PtC.size (by assumption)) ?_) | (refine wQ_loadL rfl (by rfl) (by assumption) rfl (by repeat (first | exact pzH | refine pzM ?_)) (by first | rfl | exact LnC.size (by assumption)) ?_) | (refine wB_store rfl (by rfl) (by assumption) rfl rfl (by repeat (first | exact Pick.here | apply Pick.there)) (by first | exact pt_info (by rfl) | exact pt_info (PtC.size (by assumption)) | exact ln_info (by rfl) | exact ln_info (LnC.size (by assumption)) | exact key_info (by rfl)) (by first | rfl | (rw [PtC.size (by assumption)]; rfl) | (rw [LnC.size (by assumption)]; rfl)) (by first | rfl | exact inf_cells | exact zpt_cells | exact zln_cells | exact PtC.cells (by assumption) | exact LnC.cells (by assumption)) ?_; intro w1 hR hbt hrr) | (refine wB_build (xs := []) (cs := zln) rfl (by rfl) (by exact built_zln) ?_))
  exact wL_end2 Tryz.results81 (by assumption) rfl (List.Mem.head _) rfl rfl rfl fun hb => RetMore.mk (zln_c _) hb
set_option maxRecDepth 100000 in
set_option maxHeartbeats 1600000 in
theorem lmore_yes (V U : Value) (j : Ec.Jac Ec.P) (x y : Ec.F) (w : World) (hV : LnV j w V) (hU : PtV (.at x y) w U) (h0 : x * (j.z * j.z) - j.x ≠ 0) : Calls Tryz.prog 81 #[V, U] w (RetMore w (j.more x y) true) := by
  obtain ⟨cs, rfl, hc⟩ := hV
  obtain ⟨X, Y, Z, rfl, hX, hY, hZ⟩ := hc
  obtain ⟨cu, rfl, hu⟩ := hU
  obtain ⟨X', Y', rfl, hX', hY'⟩ := hu
  have hR0 := Rws.start w
  have H0 := Lib.hid h0
  clear h0
  go_enter Tryz.func81, Tryz.ntmps81
  go_upto_region 1 with (first | (refine wpList_box_rws rfl _ _ (by rfl) (by assumption) _ rfl ?_; intro gp w1 hR) | (refine wpList_alloc_rws rfl _ (by rfl) (by assumption) _ (by first | exact zero_pt | exact zero_ln | exact zero_key) ?_; intro gr w1 hR) | (refine wF_load rfl (by rfl) (by assumption) rfl (by repeat (first | exact pzH | refine pzM ?_)) (by first | exact c3_0 | exact c3_1 | exact c3_2 | exact c2_0 | exact c2_1) (by first | exact isAgg_b | exact isAgg_q | exact isAgg_str) ?_) | (refine wQ_load rfl (by rfl) (by assumption) rfl (by repeat (first | exact pzH | refine pzM ?_)) (by first | rfl | exact PtC.size (by assumption)) ?_) | (refine wQ_loadL rfl (by rfl) (by assumption) rfl (by repeat (first | exact pzH | refine pzM ?_)) (by first | rfl | exact LnC.size (by assumption)) ?_))
  have hX := hX.below hR.below; have hY := hY.below hR.below; have hZ := hZ.below hR.below; have hX' := hX'.below hR.below; have hY' := hY'.below hR.below
  refine wp_region_seq 5 (by kernel_rfl) (by rfl) (by assumption) ?_
  iterate 4 (first | (refine sFa Tryz.underlying31 ?_) | (refine sFa Tryz.underlying103 ?_) | (refine sFa Tryz.underlying23 ?_) | (refine sLq ?_) | (refine sLs ?_) | (refine sLp ?_) | (refine sLl ?_) | (refine sMq ?_))
  refine s_call2 (by rfl) Tryz.func39 (by kernel_rfl) rfl (stb_q _) (by exact fun _ _ _ h => h) (by exact fun _ _ _ h => h) (fun w v u h1 h2 => times_v h1 h2) ?_
  intro w2 hR hb_w2 v13 h13 v14 h14 v15 h15 v16 h16 v17 h17
  simp only [softEnd, Act.put, List.setIfInBounds_toArray, List.set_cons_succ, List.set_cons_zero, List.drop_succ_cons, List.drop_zero]
  have hX := hX.below hb_w2
  have hY := hY.below hb_w2
  have hZ := hZ.below hb_w2
  have hX' := hX'.below hb_w2
  have hY' := hY'.below hb_w2
  clear h13 h14 h15 h16
  have h17 : QV w2 v17 _ := h17
  go_upto_region 2 with (fail)
  refine wp_region_soft 7 (by kernel_rfl) (by kernel_rfl) (by rfl) (by assumption) ?_
  iterate 2 (first | (refine sFa Tryz.underlying31 ?_) | (refine sFa Tryz.underlying103 ?_) | (refine sFa Tryz.underlying23 ?_) | (refine sLq ?_) | (refine sLs ?_) | (refine sLp ?_) | (refine sLl ?_) | (refine sMq ?_))
  refine s_move (by rfl) (stb_q _) (by exact has_fix (fun _ _ h => h) (by assumption)) ?_
  refine s_call2 (by rfl) Tryz.func39 (by kernel_rfl) rfl (stb_q _) (by exact fun _ _ _ h => h) (by exact fun _ _ _ h => h) (fun w v u h1 h2 => times_v h1 h2) ?_
  iterate 2 (first | (refine sFa Tryz.underlying31 ?_) | (refine sFa Tryz.underlying103 ?_) | (refine sFa Tryz.underlying23 ?_) | (refine sLq ?_) | (refine sLs ?_) | (refine sLp ?_) | (refine sLl ?_) | (refine sMq ?_))
  refine s_call2 (by rfl) Tryz.func38 (by kernel_rfl) rfl (stb_q _) (by exact fun _ _ _ h => h) (by exact fun _ _ _ h => h) (fun w v u h1 h2 => minus_v h1 h2) ?_
  intro w3 hR hb_w3 v18 h18 v19 h19 v20 h20 v21 h21 v22 h22 v23 h23 v24 h24
  simp only [softEnd, Act.put, List.setIfInBounds_toArray, List.set_cons_succ, List.set_cons_zero, List.drop_succ_cons, List.drop_zero]
  have hX := hX.below hb_w3
  have hY := hY.below hb_w3
  have hZ := hZ.below hb_w3
  have hX' := hX'.below hb_w3
  have hY' := hY'.below hb_w3
  have h17 := h17.below hb_w3
  clear h18 h19 h20 h22 h23
  have h21 : QV w3 v21 _ := h21
  have h24 : QV w3 v24 _ := h24
  obtain ⟨ho, hn, hcp, rfl, hz, hn16⟩ := len_zero_q h24
  have hnz : ((hn : Int) == 0) = false := by
    rw [beq_eq_false_iff_ne]
    intro e
    exact H0.out (hz.2 (by omega))
  clear hz
  go_upto_region 5 with (fail)
  refine wp_region_soft 10 (by kernel_rfl) (by kernel_rfl) (by rfl) (by assumption) ?_
  iterate 2 (first | (refine sFa Tryz.underlying31 ?_) | (refine sFa Tryz.underlying103 ?_) | (refine sFa Tryz.underlying23 ?_) | (refine sLq ?_) | (refine sLs ?_) | (refine sLp ?_) | (refine sLl ?_) | (refine sMq ?_))
  refine s_move (by rfl) (stb_q _) (by exact has_fix (fun _ _ h => h) (by assumption)) ?_
  iterate 2 (first | (refine sFa Tryz.underlying31 ?_) | (refine sFa Tryz.underlying103 ?_) | (refine sFa Tryz.underlying23 ?_) | (refine sLq ?_) | (refine sLs ?_) | (refine sLp ?_) | (refine sLl ?_) | (refine sMq ?_))
  iterate 2 (refine s_call2 (by rfl) Tryz.func39 (by kernel_rfl) rfl (stb_q _) (by exact fun _ _ _ h => h) (by exact fun _ _ _ h => h) (fun w v u h1 h2 => times_v h1 h2) ?_)
  iterate 2 (first | (refine sFa Tryz.underlying31 ?_) | (refine sFa Tryz.underlying103 ?_) | (refine sFa Tryz.underlying23 ?_) | (refine sLq ?_) | (refine sLs ?_) | (refine sLp ?_) | (refine sLl ?_) | (refine sMq ?_))
  refine s_call2 (by rfl) Tryz.func38 (by kernel_rfl) rfl (stb_q _) (by exact fun _ _ _ h => h) (by exact fun _ _ _ h => h) (fun w v u h1 h2 => minus_v h1 h2) ?_
  intro w4 hR hb_w4 v29 h29 v30 h30 v31 h31 v32 h32 v33 h33 v34 h34 v35 h35 v36 h36 v37 h37 v38 h38
  simp only [softEnd, Act.put, List.setIfInBounds_toArray, List.set_cons_succ, List.set_cons_zero, List.drop_succ_cons, List.drop_zero]
  have hX := hX.below hb_w4
  have hY := hY.below hb_w4
  have hZ := hZ.below hb_w4
  have hX' := hX'.below hb_w4
  have hY' := hY'.below hb_w4
  have h17 := h17.below hb_w4
  have h24 := h24.below hb_w4
  clear h29 h30 h31 h32 h33 h36 h37
  have h34 : QV w4 v34 _ := h34
  have h35 : QV w4 v35 _ := h35
  have h38 : QV w4 v38 _ := h38
  go_upto_region 6 with (fail)
  refine wp_region_seq 3 (by kernel_rfl) (by rfl) (by assumption) ?_
  iterate 2 (refine s_move (by rfl) (stb_q _) (by exact has_fix (fun _ _ h => h) (by assumption)) ?_)
  refine s_call2 (by rfl) Tryz.func39 (by kernel_rfl) rfl (stb_q _) (by exact fun _ _ _ h => h) (by exact fun _ _ _ h => h) (fun w v u h1 h2 => times_v h1 h2) ?_
  intro w5 hR hb_w5 v39 h39 v40 h40 v41 h41
  simp only [softEnd, Act.put, List.setIfInBounds_toArray, List.set_cons_succ, List.set_cons_zero, List.drop_succ_cons, List.drop_zero]
  have hX := hX.below hb_w5
  have hY := hY.below hb_w5
  have hZ := hZ.below hb_w5
  have hX' := hX'.below hb_w5
  have hY' := hY'.below hb_w5
  have h17 := h17.below hb_w5
  have h24 := h24.below hb_w5
  have h38 := h38.below hb_w5
  clear h39 h40
  have h41 : QV w5 v41 _ := h41
  go_upto_region 7 with (fail)
  refine wp_region_soft 7 (by kernel_rfl) (by kernel_rfl) (by rfl) (by assumption) ?_
  iterate 2 (refine s_move (by rfl) (stb_q _) (by exact has_fix (fun _ _ h => h) (by assumption)) ?_)
  refine s_call2 (by rfl) Tryz.func39 (by kernel_rfl) rfl (stb_q _) (by exact fun _ _ _ h => h) (by exact fun _ _ _ h => h) (fun w v u h1 h2 => times_v h1 h2) ?_
  iterate 2 (first | (refine sFa Tryz.underlying31 ?_) | (refine sFa Tryz.underlying103 ?_) | (refine sFa Tryz.underlying23 ?_) | (refine sLq ?_) | (refine sLs ?_) | (refine sLp ?_) | (refine sLl ?_) | (refine sMq ?_))
  refine s_move (by rfl) (stb_q _) (by exact has_fix (fun _ _ h => h) (by assumption)) ?_
  refine s_call2 (by rfl) Tryz.func39 (by kernel_rfl) rfl (stb_q _) (by exact fun _ _ _ h => h) (by exact fun _ _ _ h => h) (fun w v u h1 h2 => times_v h1 h2) ?_
  intro w6 hR hb_w6 v42 h42 v43 h43 v44 h44 v45 h45 v46 h46 v47 h47 v48 h48
  simp only [softEnd, Act.put, List.setIfInBounds_toArray, List.set_cons_succ, List.set_cons_zero, List.drop_succ_cons, List.drop_zero]
  have hX := hX.below hb_w6
  have hY := hY.below hb_w6
  have hZ := hZ.below hb_w6
  have hX' := hX'.below hb_w6
  have hY' := hY'.below hb_w6
  have h17 := h17.below hb_w6
  have h24 := h24.below hb_w6
  have h38 := h38.below hb_w6
  have h41 := h41.below hb_w6
  clear h42 h43 h45 h46 h47
  have h44 : QV w6 v44 _ := h44
  have h48 : QV w6 v48 _ := h48
  go_upto_region 8 with (fail)
  refine wp_region_seq 9 (by kernel_rfl) (by rfl) (by assumption) ?_
  iterate 2 (refine s_move (by rfl) (stb_q _) (by exact has_fix (fun _ _ h => h) (by assumption)) ?_)
  refine s_call2 (by rfl) Tryz.func39 (by kernel_rfl) rfl (stb_q _) (by exact fun _ _ _ h => h) (by exact fun _ _ _ h => h) (fun w v u h1 h2 => times_v h1 h2) ?_
  refine s_move (by rfl) (stb_q _) (by exact has_fix (fun _ _ h => h) (by assumption)) ?_
  refine s_call2 (by rfl) Tryz.func38 (by kernel_rfl) rfl (stb_q _) (by exact fun _ _ _ h => h) (by exact fun _ _ _ h => h) (fun w v u h1 h2 => minus_v h1 h2) ?_
  iterate 2 (refine s_move (by rfl) (stb_q _) (by exact has_fix (fun _ _ h => h) (by assumption)) ?_)
  refine s_call2 (by rfl) Tryz.func37 (by kernel_rfl) rfl (stb_q _) (by exact fun _ _ _ h => h) (by exact fun _ _ _ h => h) (fun w v u h1 h2 => plus_v h1 h2) ?_
  refine s_call2 (by rfl) Tryz.func38 (by kernel_rfl) rfl (stb_q _) (by exact fun _ _ _ h => h) (by exact fun _ _ _ h => h) (fun w v u h1 h2 => minus_v h1 h2) ?_
  intro w7 hR hb_w7 v49 h49 v50 h50 v51 h51 v52 h52 v53 h53 v54 h54 v55 h55 v56 h56 v57 h57
  simp only [softEnd, Act.put, List.setIfInBounds_toArray, List.set_cons_succ, List.set_cons_zero, List.drop_succ_cons, List.drop_zero]
  have hX := hX.below hb_w7
  have hY := hY.below hb_w7
  have hZ := hZ.below hb_w7
  have hX' := hX'.below hb_w7
  have hY' := hY'.below hb_w7
  have h17 := h17.below hb_w7
  have h24 := h24.below hb_w7
  have h38 := h38.below hb_w7
  have h41 := h41.below hb_w7
  have h44 := h44.below hb_w7
  have h48 := h48.below hb_w7
  clear h49 h50 h52 h54 h55
  have h51 : QV w7 v51 _ := h51
  have h53 : QV w7 v53 _ := h53
  have h56 : QV w7 v56 _ := h56
  have h57 : QV w7 v57 _ := h57
  go_upto_region 9 with (fail)
  refine wp_region_soft 16 (by kernel_rfl) (by kernel_rfl) (by rfl) (by assumption) ?_
  iterate 4 (refine s_move (by rfl) (stb_q _) (by exact has_fix (fun _ _ h => h) (by assumption)) ?_)
  refine s_call2 (by rfl) Tryz.func38 (by kernel_rfl) rfl (stb_q _) (by exact fun _ _ _ h => h) (by exact fun _ _ _ h => h) (fun w v u h1 h2 => minus_v h1 h2) ?_
  refine s_call2 (by rfl) Tryz.func39 (by kernel_rfl) rfl (stb_q _) (by exact fun _ _ _ h => h) (by exact fun _ _ _ h => h) (fun w v u h1 h2 => times_v h1 h2) ?_
  iterate 2 (first | (refine sFa Tryz.underlying31 ?_) | (refine sFa Tryz.underlying103 ?_) | (refine sFa Tryz.underlying23 ?_) | (refine sLq ?_) | (refine sLs ?_) | (refine sLp ?_) | (refine sLl ?_) | (refine sMq ?_))
  refine s_move (by rfl) (stb_q _) (by exact has_fix (fun _ _ h => h) (by assumption)) ?_
  refine s_call2 (by rfl) Tryz.func39 (by kernel_rfl) rfl (stb_q _) (by exact fun _ _ _ h => h) (by exact fun _ _ _ h => h) (fun w v u h1 h2 => times_v h1 h2) ?_
  refine s_call2 (by rfl) Tryz.func38 (by kernel_rfl) rfl (stb_q _) (by exact fun _ _ _ h => h) (by exact fun _ _ _ h => h) (fun w v u h1 h2 => minus_v h1 h2) ?_
  iterate 2 (first | (refine sFa Tryz.underlying31 ?_) | (refine sFa Tryz.underlying103 ?_) | (refine sFa Tryz.underlying23 ?_) | (refine sLq ?_) | (refine sLs ?_) | (refine sLp ?_) | (refine sLl ?_) | (refine sMq ?_))
  refine s_move (by rfl) (stb_q _) (by exact has_fix (fun _ _ h => h) (by assumption)) ?_
  refine s_call2 (by rfl) Tryz.func39 (by kernel_rfl) rfl (stb_q _) (by exact fun _ _ _ h => h) (by exact fun _ _ _ h => h) (fun w v u h1 h2 => times_v h1 h2) ?_
  refine s_bln (j := ⟨_, _, _⟩) (by rfl) (by exact fun _ _ _ h => h) (by exact fun _ _ _ h => h) (by exact fun _ _ _ h => h) ?_
  intro w8 hR hb_w8 v58 h58 v59 h59 v60 h60 v61 h61 v62 h62 v63 h63 v64 h64 v65 h65 v66 h66 v67 h67 v68 h68 v69 h69 v70 h70 v71 h71 v72 h72 v73 h73
  simp only [softEnd, Act.put, List.setIfInBounds_toArray, List.set_cons_succ, List.set_cons_zero, List.drop_succ_cons, List.drop_zero]
  clear h58 h59 h60 h61 h64 h65 h66 h69 h70 h71
  have h62 : QV w8 v62 _ := h62
  have h63 : QV w8 v63 _ := h63
  have h67 : QV w8 v67 _ := h67
  have h68 : QV w8 v68 _ := h68
  have h72 : QV w8 v72 _ := h72
  obtain ⟨cs9, rfl, hc9⟩ := h73
  go_wp2_with (refine wB_store rfl (by rfl) (by assumption) rfl rfl (by repeat (first | exact Pick.here | apply Pick.there)) (by exact ln_info hc9.size) (by rw [hc9.size]; rfl) (by exact hc9.cells) ?_; intro w9 hR hbt hrr)
  exact wL_end2 Tryz.results81 hR rfl (List.Mem.head _) hc9.size rfl rfl fun hb => RetMore.mk (hc9.but hbt hrr zln_noint) hb
set_option maxRecDepth 100000 in
set_option maxHeartbeats 1600000 in
theorem lend_inf (V : Value) (j : Ec.Jac Ec.P) (w : World) (hV : LnV j w V) (h0 : j.z = 0) : Calls Tryz.prog 82 #[V] w (RetPt w .inf) := by
  obtain ⟨cs, rfl, hc⟩ := hV
  obtain ⟨X, Y, Z, rfl, hX, hY, hZ⟩ := hc
  obtain ⟨zo, zn, zc, rfl, hz, hz16⟩ := len_zero_q hZ
  obtain rfl : zn = 0 := hz.1 h0
  have hR0 := Rws.start w
  clear hz h0
  go_enter Tryz.func82, Tryz.ntmps82
  go_wp2_with (first | (refine wpList_box_rws rfl _ _ (by rfl) (by assumption) _ rfl ?_; intro gp w1 hR) | (refine wpList_alloc_rws rfl _ (by rfl) (by assumption) _ (by first | exact zero_pt | exact zero_ln | exact zero_key) ?_; intro gr w1 hR) | (refine wF_load rfl (by rfl) (by assumption) rfl (by repeat (first | exact pzH | refine pzM ?_)) (by first | exact c3_0 | exact c3_1 | exact c3_2 | exact c2_0 | exact c2_1) (by first | exact isAgg_b | exact isAgg_q | exact isAgg_str) ?_) | (refine wQ_load rfl (by rfl) (by assumption) rfl (by repeat (first | exact pzH | refine pzM ?_)) (by first | rfl | exact PtC.size (by assumption)) ?_) | (refine wQ_loadL rfl (by rfl) (by assumption) rfl (by repeat (first | exact pzH | refine pzM ?_)) (by first | rfl | exact LnC.size (by assumption)) ?_) | (refine wB_store rfl (by rfl) (by assumption) rfl rfl (by repeat (first | exact Pick.here | apply Pick.there)) (by first | exact pt_info (by rfl) | exact pt_info (PtC.size (by assumption)) | exact ln_info (by rfl) | exact ln_info (LnC.size (by assumption)) | exact key_info (by rfl)) (by first | rfl | (rw [PtC.size (by assumption)]; rfl) | (rw [LnC.size (by assumption)]; rfl)) (by first | rfl | exact inf_cells | exact zpt_cells | exact zln_cells | exact PtC.cells (by assumption) | exact LnC.cells (by assumption)) ?_; intro w1 hR hbt hrr) | (refine wB_build (xs := [(0, .const (.bool true))]) (cs := #[.bool true, nilS, nilS]) rfl (by rfl) (by exact built_inf) ?_))
  exact wQ_end Tryz.results82 (by assumption) rfl (List.Mem.head _) rfl rfl fun hb => RetPt.mk (pt_inf _) hb
set_option maxRecDepth 100000 in
set_option maxHeartbeats 1600000 in
theorem lend_at (V : Value) (j : Ec.Jac Ec.P) (w : World) (hV : LnV j w V) (h0 : j.z ≠ 0) : Calls Tryz.prog 82 #[V] w (RetPt w (.at (j.x * (Ec.inv j.z * Ec.inv j.z)) (j.y * (Ec.inv j.z * Ec.inv j.z * Ec.inv j.z)))) := by
  obtain ⟨cs, rfl, hc⟩ := hV
  obtain ⟨X, Y, Z, rfl, hX, hY, hZ⟩ := hc
  have hR0 := Rws.start w
  have HD := Lib.hid h0
  obtain ⟨zo, zn, zc, rfl, hz, hz16⟩ := len_zero_q hZ
  have hnz : ((zn : Int) == 0) = false := by
    rw [beq_eq_false_iff_ne]
    intro e
    exact h0 (hz.2 (by omega))
  clear hz h0
  go_enter Tryz.func82, Tryz.ntmps82
  go_upto_region 3 with (first | (refine wpList_box_rws rfl _ _ (by rfl) (by assumption) _ rfl ?_; intro gp w1 hR) | (refine wpList_alloc_rws rfl _ (by rfl) (by assumption) _ (by first | exact zero_pt | exact zero_ln | exact zero_key) ?_; intro gr w1 hR) | (refine wF_load rfl (by rfl) (by assumption) rfl (by repeat (first | exact pzH | refine pzM ?_)) (by first | exact c3_0 | exact c3_1 | exact c3_2 | exact c2_0 | exact c2_1) (by first | exact isAgg_b | exact isAgg_q | exact isAgg_str) ?_) | (refine wQ_load rfl (by rfl) (by assumption) rfl (by repeat (first | exact pzH | refine pzM ?_)) (by first | rfl | exact PtC.size (by assumption)) ?_) | (refine wQ_loadL rfl (by rfl) (by assumption) rfl (by repeat (first | exact pzH | refine pzM ?_)) (by first | rfl | exact LnC.size (by assumption)) ?_))
  have hX := hX.below hR.below; have hY := hY.below hR.below; have hZ := hZ.below hR.below
  refine wp_region_seq 3 (by kernel_rfl) (by rfl) (by assumption) ?_
  iterate 2 (first | (refine sFa Tryz.underlying31 ?_) | (refine sFa Tryz.underlying103 ?_) | (refine sFa Tryz.underlying23 ?_) | (refine sLq ?_) | (refine sLs ?_) | (refine sLp ?_) | (refine sLl ?_) | (refine sMq ?_))
  refine s_callc (by rfl) Tryz.func52 (by kernel_rfl) rfl (stb_q _) (by exact fun _ _ _ h => h) (fun w v h => inv_v h HD.out) ?_
  intro w2 hR hb_w2 v10 h10 v11 h11 v12 h12
  simp only [softEnd, Act.put, List.setIfInBounds_toArray, List.set_cons_succ, List.set_cons_zero, List.drop_succ_cons, List.drop_zero]
  have hX := hX.below hb_w2
  have hY := hY.below hb_w2
  have hZ := hZ.below hb_w2
  clear h10 h11
  have h12 : QV w2 v12 _ := h12
  go_upto_region 4 with (fail)
  refine wp_region_seq 3 (by kernel_rfl) (by rfl) (by assumption) ?_
  iterate 2 (refine s_move (by rfl) (stb_q _) (by exact has_fix (fun _ _ h => h) (by assumption)) ?_)
  refine s_call2 (by rfl) Tryz.func39 (by kernel_rfl) rfl (stb_q _) (by exact fun _ _ _ h => h) (by exact fun _ _ _ h => h) (fun w v u h1 h2 => times_v h1 h2) ?_
  intro w3 hR hb_w3 v13 h13 v14 h14 v15 h15
  simp only [softEnd, Act.put, List.setIfInBounds_toArray, List.set_cons_succ, List.set_cons_zero, List.drop_succ_cons, List.drop_zero]
  have hX := hX.below hb_w3
  have hY := hY.below hb_w3
  have hZ := hZ.below hb_w3
  have h12 := h12.below hb_w3
  clear h13 h14
  have h15 : QV w3 v15 _ := h15
  go_upto_region 5 with (fail)
  refine wp_region_soft 11 (by kernel_rfl) (by kernel_rfl) (by rfl) (by assumption) ?_
  iterate 2 (first | (refine sFa Tryz.underlying31 ?_) | (refine sFa Tryz.underlying103 ?_) | (refine sFa Tryz.underlying23 ?_) | (refine sLq ?_) | (refine sLs ?_) | (refine sLp ?_) | (refine sLl ?_) | (refine sMq ?_))
  refine s_move (by rfl) (stb_q _) (by exact has_fix (fun _ _ h => h) (by assumption)) ?_
  refine s_call2 (by rfl) Tryz.func39 (by kernel_rfl) rfl (stb_q _) (by exact fun _ _ _ h => h) (by exact fun _ _ _ h => h) (fun w v u h1 h2 => times_v h1 h2) ?_
  iterate 2 (first | (refine sFa Tryz.underlying31 ?_) | (refine sFa Tryz.underlying103 ?_) | (refine sFa Tryz.underlying23 ?_) | (refine sLq ?_) | (refine sLs ?_) | (refine sLp ?_) | (refine sLl ?_) | (refine sMq ?_))
  iterate 2 (refine s_move (by rfl) (stb_q _) (by exact has_fix (fun _ _ h => h) (by assumption)) ?_)
  iterate 2 (refine s_call2 (by rfl) Tryz.func39 (by kernel_rfl) rfl (stb_q _) (by exact fun _ _ _ h => h) (by exact fun _ _ _ h => h) (fun w v u h1 h2 => times_v h1 h2) ?_)
  refine s_bpt (by rfl) (by exact fun _ _ _ h => h) (by exact fun _ _ _ h => h) ?_
  intro w4 hR hb_w4 v16 h16 v17 h17 v18 h18 v19 h19 v20 h20 v21 h21 v22 h22 v23 h23 v24 h24 v25 h25 v26 h26
  simp only [softEnd, Act.put, List.setIfInBounds_toArray, List.set_cons_succ, List.set_cons_zero, List.drop_succ_cons, List.drop_zero]
  clear h16 h17 h18 h20 h21 h22 h23
  have h19 : QV w4 v19 _ := h19
  have h24 : QV w4 v24 _ := h24
  have h25 : QV w4 v25 _ := h25
  obtain ⟨cs9, rfl, hc9⟩ := h26
  go_wp2_with (refine wB_store rfl (by rfl) (by assumption) rfl rfl (by repeat (first | exact Pick.here | apply Pick.there)) (by exact pt_info hc9.size) (by rw [hc9.size]; rfl) (by exact hc9.cells) ?_; intro w8 hR hbt hrr)
  exact wQ_end Tryz.results82 hR rfl (List.Mem.head _) hc9.size rfl fun hb => RetPt.mk (hc9.but hbt hrr zpt_noint) hb
theorem lend_any (V : Value) (j : Ec.Jac Ec.P) (w : World) (hV : LnV j w V) : Calls Tryz.prog 82 #[V] w (RetPt w j.pt) := by
  unfold Ec.Jac.pt
  by_cases h0 : j.z = 0
  · rw [if_pos h0]; exact lend_inf V j w hV h0
  · rw [if_neg h0]; exact lend_at V j w hV h0
theorem rsum_any (V U : Value) (A A' : Ec.Pt Ec.P) (w : World) (oA : A.on Ec.cb) (oB : A'.on Ec.cb) (hV : PtV A w V) (hU : PtV A' w U) : Calls Tryz.prog 42 #[V, U] w (RetPt w (Ec.addA A A')) := by
  cases A with
  | inf => exact rsum_inf V U A' w hV hU
  | «at» x y =>
    cases A' with
    | inf => exact rsum_inf2 V U x y w hV hU
    | «at» x' y' =>
      have e : Ec.addA (.at x y) (.at x' y') = if x = x' ∧ y = -y' then .inf else if x = x' ∧ y = y' then Ec.chord ((3 * (x * x) - 3) * Ec.inv (y + y)) x y x' else Ec.chord ((y' - y) * Ec.inv (x' - x)) x y x' := rfl
      rw [e]
      clear e
      by_cases h1 : x = x' ∧ y = -y'
      · rw [if_pos h1]; exact rsum_opp V U x y x' y' w hV hU h1.1 h1.2
      · rw [if_neg h1]
        by_cases h2 : x = x' ∧ y = y'
        · rw [if_pos h2]
          refine rsum_dbl V U x y x' y' w hV hU h1 h2 fun h0 => h1 ⟨h2.1, ?_⟩
          have := h2.2
          grobner
        · rw [if_neg h2]
          refine rsum_chd V U x y x' y' w hV hU h1 h2 fun h0 => ?_
          have hx : x = x' := by grobner
          subst hx
          rcases Ec.on_same_x Ec.hP oA oB with h3 | h3
          · exact h2 ⟨rfl, h3⟩
          · exact h1 ⟨rfl, h3⟩
end Go.Proofs.YtaggpodckafbgaaGreatDoor
/- The reference's Bytes (layer 5): the walk. -/
namespace Go.Proofs.YtaggpodckafbgaaGreatDoor
open Go.RowKit
end Go.Proofs.YtaggpodckafbgaaGreatDoor
