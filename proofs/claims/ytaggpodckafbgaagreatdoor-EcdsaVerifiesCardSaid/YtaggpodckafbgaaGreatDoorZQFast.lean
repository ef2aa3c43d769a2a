/- The reference's Fast (layer 5): the walk. -/
import Derived.Test.YtaggpodckafbgaaGreatDoorZQKeys
import Derived.Test.YtaggpodckafbgaaGreatDoorZM
import Derived.Test.YtaggpodckafbgaaGreatDoorZA0
namespace Go.Proofs.YtaggpodckafbgaaGreatDoor
open Go.RowKit
section
variable {B : Nat} {w0 ws : World} {L : List (Nat × Array Value × TypeId)} {a0 : Act} {K : Act → World → Prop} {n : Nat} {l : List Oper} {o : Oper} {Γ : Env}
def NewV (B : Nat) (L : List (Nat × Array Value × TypeId)) (cs : Array Value) (t : TypeId) : Prd := fun w v => ∃ g, v = .pointer (some ⟨g, 0, none⟩) ∧ B ≤ g ∧ w.heap[g]? = some (.cells cs t (0, 0)) ∧ ∀ x, x ∈ L → x.1 ≠ g
theorem s_alloc {t : TypeId} {cs : Array Value} (ho : o.op = .alloc t) (hz : ∀ w : World, (zeroValue t).run Tryz.prog w = .ok (.agg cs) w)
    (h : softW Tryz.prog B w0 ws L a0 K n l ((o.dst, NewV B L cs t) :: Γ)) : softW Tryz.prog B w0 ws L a0 K (n + 1) (o :: l) Γ :=
  s_any (fun w w' v hb ⟨g, e, h1, h2, h3⟩ => ⟨g, e, h1, (hb.block _ (Array.getElem?_eq_some_iff.1 h2).1).trans h2, h3⟩) (fun w e hR _ _ => by
    unfold execOp
    simp only [ho, Instr.alloc, Sem.run_bind, hz, Result.andThen_ok]
    exact ⟨⟨_, rfl, hR.len, heap_alloc_new _ _, fun x hx => Nat.ne_of_lt (hR.lt hx)⟩, (Below.refl _ _).alloc (Nat.le_refl _) _⟩) h
end
theorem QN.but {w w' : World} {ao : Option Addr} {n c v g : Nat} {cs : Array Value} {t : TypeId} (h : QN w ao n c v) (hb : But g w w') (hr : w.heap[g]? = some (.cells cs t (0, 0))) (hn : NoInt cs) : QN w' ao n c v := by
  refine ⟨h.len, h.rd.sh, h.rd.le, h.rd.cm, fun j hj => ?_⟩
  have hc := h.rd.cell j hj
  have hne : blk ao ≠ g := by
    intro e
    rw [e] at hc
    have h2 : w.cell? ⟨g, off ao + j, none⟩ = cs[off ao + j]? := cell_of_row w g (off ao + j) cs t _ hr
    rw [h2] at hc
    exact hn _ _ _ hc
  rw [← hc]
  simp only [World.cell?, hb.same _ hne]
theorem bit_dg (v k : Nat) : Dg.dg DB v (k / 16) / 2 ^ (k % 16) % 2 = v / 2 ^ k % 2 := by
  unfold Dg.dg
  have e1 : DB ^ (k / 16) = 2 ^ (16 * (k / 16)) := by rw [show DB = 2 ^ 16 from rfl, ← Nat.pow_mul]
  have e2 : v / 2 ^ k = v / DB ^ (k / 16) / 2 ^ (k % 16) := by
    rw [e1, Nat.div_div_eq_div_mul, ← Nat.pow_add, Nat.div_add_mod]
  rw [e2]
  generalize v / DB ^ (k / 16) = y
  have h : k % 16 < 16 := Nat.mod_lt _ (by omega)
  generalize k % 16 = r at *
  obtain ⟨t, ht⟩ : ∃ t, t + 1 + r = 16 := ⟨15 - r, by omega⟩
  have e3 : DB = 2 ^ r * 2 ^ (t + 1) := by rw [← Nat.pow_add, show r + (t + 1) = 16 from by omega]; rfl
  rw [e3, Nat.mod_mul_right_div_self, Nat.mod_mod_of_dvd _ (by rw [Nat.pow_succ]; exact Nat.dvd_mul_left _ _)]
theorem bit_val (v k : Nat) : bits BinOp.and IntKind.u32 (((Dg.dg DB v (k / 16) : Nat) : Int) / 2 ^ (k % 16)) 1 = ((v / 2 ^ k % 2 : Nat) : Int) := by
  have hd : Dg.dg DB v (k / 16) < 65536 := Dg.dg_lt DBpos _ _
  have e : (((Dg.dg DB v (k / 16) : Nat) : Int) / 2 ^ (k % 16)) = ((Dg.dg DB v (k / 16) / 2 ^ (k % 16) : Nat) : Int) := by simp
  rw [e, and_one _ (Nat.lt_of_le_of_lt (Nat.div_le_self _ _) (by omega)), bit_dg]
theorem mul_bit (A : Ec.Pt Ec.P) (v i : Nat) : Ec.mulN A (v / 2 ^ i) = if v / 2 ^ i % 2 = 1 then Ec.addA (Ec.addA (Ec.mulN A (v / 2 ^ (i + 1))) (Ec.mulN A (v / 2 ^ (i + 1)))) A else Ec.addA (Ec.mulN A (v / 2 ^ (i + 1))) (Ec.mulN A (v / 2 ^ (i + 1))) := by
  have e : v / 2 ^ (i + 1) = v / 2 ^ i / 2 := by rw [Nat.pow_succ, Nat.div_div_eq_div_mul]
  rw [e, Ec.mulN_step]
  by_cases h : v / 2 ^ i % 2 = 1
  · rw [if_pos h, h]; rfl
  · rw [if_neg h, show v / 2 ^ i % 2 = 0 by omega]; rfl
set_option maxRecDepth 100000 in
theorem rfast_inf (V U : Value) (v : Nat) (w : World) (hV : PtV .inf w V) (hU : QV w U v) : Calls Tryz.prog 46 #[V, U] w (RetPt w .inf) := by
  obtain ⟨cs, rfl, hc⟩ := hV
  obtain ⟨ko, kn, kc, rfl, _, _⟩ := hU
  have hR0 := Rws.start w
  obtain rfl : cs = #[.bool true, nilS, nilS] := hc
  go_enter Tryz.func46, Tryz.ntmps46
  go_wp2_with (first | (refine wpList_box_rws rfl _ _ (by rfl) (by assumption) _ rfl ?_; intro gp w1 hR) | (refine wpList_alloc_rws rfl _ (by rfl) (by assumption) _ (by first | exact zero_pt | exact zero_ln | exact zero_key) ?_; intro gr w1 hR) | (refine wF_load rfl (by rfl) (by assumption) rfl (by repeat (first | exact pzH | refine pzM ?_)) (by first | exact c3_0 | exact c3_1 | exact c3_2 | exact c2_0 | exact c2_1) (by first | exact isAgg_b | exact isAgg_q | exact isAgg_str) ?_) | (refine wQ_load rfl (by rfl) (by assumption) rfl (by repeat (first | exact pzH | refine pzM ?_)) (by first | rfl | exact PtC.size (by assumption)) ?_) | (refine wQ_loadL rfl (by rfl) (by assumption) rfl (by repeat (first | exact pzH | refine pzM ?_)) (by first | rfl | exact LnC.size (by assumption)) ?_) | (refine wB_store rfl (by rfl) (by assumption) rfl rfl (by repeat (first | exact Pick.here | apply Pick.there)) (by first | exact pt_info (by rfl) | exact pt_info (PtC.size (by assumption)) | exact ln_info (by rfl) | exact ln_info (LnC.size (by assumption)) | exact key_info (by rfl)) (by first | rfl | (rw [PtC.size (by assumption)]; rfl) | (rw [LnC.size (by assumption)]; rfl)) (by first | rfl | exact inf_cells | exact zpt_cells | exact zln_cells | exact PtC.cells (by assumption) | exact LnC.cells (by assumption)) ?_; intro w1 hR hbt hrr))
  exact wQ_end Tryz.results46 (by assumption) rfl (List.Mem.head _) rfl rfl fun hb => RetPt.mk (pt_inf _) hb
set_option maxRecDepth 100000 in
set_option maxHeartbeats 6400000 in
theorem rfast_at (V U : Value) (x y : Ec.F) (v : Nat) (w : World) (oA : (Ec.Pt.at x y).on Ec.cb) (hV : PtV (.at x y) w V) (hU : QV w U v) : Calls Tryz.prog 46 #[V, U] w (RetPt w (Ec.mulN (.at x y) v)) := by
  obtain ⟨cs, rfl, hc⟩ := hV
  obtain ⟨X, Y, rfl, hX, hY⟩ := hc
  obtain ⟨ko, kn, kc, rfl, hK, hkn⟩ := hU
  obtain ⟨A, hA⟩ : ∃ A : Ec.Pt Ec.P, A = .at x y := ⟨_, rfl⟩
  have HA := Lib.hid hA
  have HOA := Lib.hid oA
  rw [← hA]
  have hvl : v < 2 ^ (16 * kn) := by
    have h := hK.lt
    rwa [show DB = 2 ^ 16 from rfl, ← Nat.pow_mul] at h
  have HVL := Lib.hid hvl
  have hR0 := Rws.start w
  clear hA hvl oA
  go_enter Tryz.func46, Tryz.ntmps46
  go_upto_region 4 with (first
    | (refine wpList_box_rws rfl _ _ (by rfl) (by assumption) _ rfl ?_; intro gp w1 hR)
    | (refine wpList_alloc_rws rfl _ (by rfl) (by assumption) _ zero_pt ?_; intro gr w1 hR)
    | (refine wpList_alloc_rws rfl _ (by rfl) (by assumption) _ zero_ln ?_; intro gl w1 hR)
    | (refine wpList_box_rws rfl _ _ (by rfl) (by assumption) _ rfl ?_; intro gp w1 hR) | (refine wpList_alloc_rws rfl _ (by rfl) (by assumption) _ (by first | exact zero_pt | exact zero_ln | exact zero_key) ?_; intro gr w1 hR) | (refine wF_load rfl (by rfl) (by assumption) rfl (by repeat (first | exact pzH | refine pzM ?_)) (by first | exact c3_0 | exact c3_1 | exact c3_2 | exact c2_0 | exact c2_1) (by first | exact isAgg_b | exact isAgg_q | exact isAgg_str) ?_) | (refine wQ_load rfl (by rfl) (by assumption) rfl (by repeat (first | exact pzH | refine pzM ?_)) (by first | rfl | exact PtC.size (by assumption)) ?_) | (refine wQ_loadL rfl (by rfl) (by assumption) rfl (by repeat (first | exact pzH | refine pzM ?_)) (by first | rfl | exact LnC.size (by assumption)) ?_) | (refine wB_store rfl (by rfl) (by assumption) rfl rfl (by repeat (first | exact Pick.here | apply Pick.there)) (by first | exact pt_info (by rfl) | exact pt_info (PtC.size (by assumption)) | exact ln_info (by rfl) | exact ln_info (LnC.size (by assumption)) | exact key_info (by rfl)) (by first | rfl | (rw [PtC.size (by assumption)]; rfl) | (rw [LnC.size (by assumption)]; rfl)) (by first | rfl | exact inf_cells | exact zpt_cells | exact zln_cells | exact PtC.cells (by assumption) | exact LnC.cells (by assumption)) ?_; intro w1 hR hbt hrr) | (refine wB_build (xs := []) (cs := zln) rfl (by rfl) (by exact built_zln) ?_))
  have hX := hX.below hR.below; have hY := hY.below hR.below; have hK := hK.below hR.below (Nat.le_refl _)
  have hL0 : LnC w1 zln ⟨0, 0, 0⟩ := zln_c w1
  go_wp2_with fail
  go_loopw [6] (fun iv wr => ∃ (t : Int) (k : Nat) (lv : Array Value) (j : Ec.Jac Ec.P), t = (k : Int) - 1 ∧ k ≤ 16 * kn ∧ iv = .int .i64 t ∧ LnC wr lv j ∧ Hid (Ec.Rep j (Ec.mulN A (v / 2 ^ k))) ∧ QV wr X x.val ∧ QV wr Y y.val ∧ QN wr ko kn kc v ∧ Rws w.heap.size w wr [(gl, lv, 103), (gr, zpt, 31), (gp, #[.bool false, X, Y], 31)]) (fun iv _ => (intOf iv + 1).toNat)
  case atStart => exact ⟨16 * (kn : Int) - 1, 16 * kn, zln, ⟨0, 0, 0⟩, by omega, Nat.le_refl _, by go_num, hL0, (by rw [Nat.div_eq_of_lt HVL.out, Ec.mulN_zero]; rfl), hX, hY, hK, hR⟩
  case round =>
    obtain ⟨t, k, lv, j, htk, hk, rfl, hL, hrep, hX, hY, hK, hR⟩ := hrel
    clear hL0
    by_cases h0 : t < 0
    · obtain rfl : k = 0 := by omega
      have hj := hrep.out
      rw [Nat.pow_zero, Nat.div_one] at hj
      have HPT := Lib.hid (Ec.Rep.uniq Ec.hP (Ec.Rep.pt Ec.hP j) hj)
      clear hj htk
      go_upto_region 19 with (fail)
      refine wp_region_seq 2 (by kernel_rfl) (by rfl) (by assumption) ?_
      first | (refine sFa Tryz.underlying31 ?_) | (refine sFa Tryz.underlying103 ?_) | (refine sFa Tryz.underlying23 ?_) | (refine sLq ?_) | (refine sLs ?_) | (refine sLp ?_) | (refine sLl ?_) | (refine sMq ?_)
      refine s_call1 (by rfl) Tryz.func82 (by kernel_rfl) rfl (stb_pt _) (A := LnV j) (by exact fun _ _ _ h => h) (fun w v h => lend_any _ _ _ h) ?_
      intro w2 hR hb_w2 v70 h70 v71 h71
      simp only [softEnd, Act.put, List.setIfInBounds_toArray, List.set_cons_succ, List.set_cons_zero, List.drop_succ_cons, List.drop_zero]
      clear h70
      rw [HPT.out] at h71
      obtain ⟨cs9, rfl, hc9⟩ := h71
      go_wp2_with (refine wB_store rfl (by rfl) (by assumption) rfl rfl (by repeat (first | exact Pick.here | apply Pick.there)) (by exact pt_info hc9.size) (by rw [hc9.size]; rfl) (by exact hc9.cells) ?_; intro w8 hR hbt hrr)
      exact wQ_end Tryz.results46 hR rfl (List.Mem.head _) hc9.size rfl fun hb => RetPt.mk (hc9.but hbt hrr zpt_noint) hb
    · obtain ⟨i, rfl⟩ : ∃ i, k = i + 1 := ⟨k - 1, by omega⟩
      obtain rfl : t = (i : Int) := by omega
      obtain ⟨M, hM⟩ : ∃ M, M = Ec.mulN A (v / 2 ^ (i + 1)) := ⟨_, rfl⟩
      have oA : A.on Ec.cb := by rw [HA.out]; exact HOA.out
      have oM : M.on Ec.cb := by rw [hM]; exact Ec.on_mulN Ec.hP oA _
      have oD : (Ec.addA M M).on Ec.cb := Ec.on_add Ec.hP oM oM
      have hstep := mul_bit A v i
      rw [← hM] at hstep hrep
      obtain ⟨bt, hbt0⟩ : ∃ bt, bt = v / 2 ^ i % 2 := ⟨_, rfl⟩
      have hbv := bit_val v i
      rw [← hbt0] at hstep hbv
      have hkd : Dg.dg DB v (i / 16) < 65536 := Dg.dg_lt DBpos _ _
      obtain ⟨kd, hkd0⟩ : ∃ kd, kd = Dg.dg DB v (i / 16) := ⟨_, rfl⟩
      rw [← hkd0] at hbv hkd
      have hcell : ∀ w' : World, QN w' ko kn kc v → w'.cell? ⟨blk ko, off ko + i / 16, none⟩ = some (.int .u32 (kd : Nat)) := fun w' hq => by rw [hkd0]; exact hq.rd.cell _ (by omega)
      have HCELL := Lib.hid hcell; have HSTEP := Lib.hid hstep; have HBV := Lib.hid hbv
      have HOM := Lib.hid oM; have HOD := Lib.hid oD; have HOA2 := Lib.hid oA
      have hbt2 : bt = 0 ∨ bt = 1 := by omega
      have hsk := hK.rd.sh
      clear hM hstep hbv hbt0 hkd0 hcell htk h0 oA oM oD
      obtain ⟨Xl, Yl, Zl, rfl, hXl, hYl, hZl⟩ := hL
      obtain ⟨zo, zn, zc, rfl, hzz, hzn⟩ := len_zero_q hZl
      have hL : LnC wr #[Xl, Yl, .slice zo zn zc] j := ⟨_, _, _, rfl, hXl, hYl, hZl⟩
      by_cases hz0 : 0 < zn
      · have hz1 : j.z ≠ 0 := fun h => by have := hzz.1 h; omega
        have HR2 := Lib.hid (Ec.Rep.twice Ec.hP Ec.two_ne hrep.out)
        clear hzz hrep hz1
        go_upto_region 8 with (first | (refine wpList_box_rws rfl _ _ (by rfl) (by assumption) _ rfl ?_; intro gp w1 hR) | (refine wpList_alloc_rws rfl _ (by rfl) (by assumption) _ (by first | exact zero_pt | exact zero_ln | exact zero_key) ?_; intro gr w1 hR) | (refine wF_load rfl (by rfl) (by assumption) rfl (by repeat (first | exact pzH | refine pzM ?_)) (by first | exact c3_0 | exact c3_1 | exact c3_2 | exact c2_0 | exact c2_1) (by first | exact isAgg_b | exact isAgg_q | exact isAgg_str) ?_) | (refine wQ_load rfl (by rfl) (by assumption) rfl (by repeat (first | exact pzH | refine pzM ?_)) (by first | rfl | exact PtC.size (by assumption)) ?_) | (refine wQ_loadL rfl (by rfl) (by assumption) rfl (by repeat (first | exact pzH | refine pzM ?_)) (by first | rfl | exact LnC.size (by assumption)) ?_))
        refine wp_region_seq 2 (by kernel_rfl) (by rfl) (by assumption) ?_
        first | (refine sFa Tryz.underlying31 ?_) | (refine sFa Tryz.underlying103 ?_) | (refine sFa Tryz.underlying23 ?_) | (refine sLq ?_) | (refine sLs ?_) | (refine sLp ?_) | (refine sLl ?_) | (refine sMq ?_)
        refine s_call1 (by rfl) Tryz.func80 (by kernel_rfl) rfl (stb_ln _) (A := LnV j) (by exact fun _ _ _ h => h) (fun w v h => ltwice_any _ _ _ h) ?_
        intro w2 hR hb_w2 v26 h26 v27 h27
        simp only [softEnd, Act.put, List.setIfInBounds_toArray, List.set_cons_succ, List.set_cons_zero, List.drop_succ_cons, List.drop_zero]
        have hX := hX.below hb_w2
        have hY := hY.below hb_w2
        have hL := hL.below hb_w2
        clear h26
        have hK := hK.below hb_w2 (Nat.le_refl _)
        obtain ⟨cs7, rfl, hc7⟩ := h27
        have hNL := hL.noint
        clear hb_w2
        go_upto_region 9 with (refine wB_store rfl (by rfl) (by assumption) rfl rfl (by repeat (first | exact Pick.here | apply Pick.there)) (by exact ln_info hc7.size) (by rw [hc7.size, hL.size]) (by exact hc7.cells) ?_; intro w3 hR hbt8 hrr8; have hc7 := hc7.but hbt8 hrr8 hNL; have hX := hX.but hbt8 hrr8 hNL; have hY := hY.but hbt8 hrr8 hNL; have hK := hK.but hbt8 hrr8 hNL)
        clear hL hXl hYl hZl hNL
        have hrep2 : Hid (Ec.Rep j.twice (Ec.addA M M)) := HR2
        generalize j.twice = jj at *
        obtain ⟨Xl, Yl, Zl, rfl, hXl, hYl, hZl⟩ := hc7
        obtain ⟨zo, zn, zc, rfl, hzz, hzn⟩ := len_zero_q hZl
        have hL : LnC w3 #[Xl, Yl, .slice zo zn zc] jj := ⟨_, _, _, rfl, hXl, hYl, hZl⟩
        have hck := HCELL.out _ hK
        rcases hbt2 with hb0 | hb0
        · have hbit : (bits BinOp.and IntKind.u32 ((kd : Int) / 2 ^ (i % 16)) 1 == 0) = true := by rw [HBV.out, hb0]; rfl
          have HB0 := Lib.hid hb0
          clear hb0
          go_wp2_with fail
          go_roundw
          case rel => exact ⟨_, i, _, _, rfl, by omega, by go_num, hL, (by show Ec.Rep _ _; rw [HSTEP.out, if_neg (by rw [HB0.out]; decide)]; exact hrep2.out), hX, hY, hK, hR⟩
          case measure => simp [intOf]
        · have hbit : (bits BinOp.and IntKind.u32 ((kd : Int) / 2 ^ (i % 16)) 1 == 0) = false := by rw [HBV.out, hb0]; rfl
          have HB0 := Lib.hid hb0
          have hst := HSTEP.out
          rw [if_pos hb0] at hst
          have HST := Lib.hid hst
          clear hb0 hst HSTEP
          by_cases hz0 : zn = 0
          · have hz1 : jj.z = 0 := hzz.2 hz0
            have hD : Ec.addA M M = .inf := Ec.Rep.uniq Ec.hP hrep2.out (show Ec.Rep jj .inf from hz1)
            have hzb : ((zn : Int) == 0) = true := by rw [beq_iff_eq]; omega
            have HDI := Lib.hid hD
            clear hD hz0 hz1 hzz
            go_upto_region 10 with (fail)
            clear hck hbit
            go_upto_region 11 with (first | (refine wpList_box_rws rfl _ _ (by rfl) (by assumption) _ rfl ?_; intro gp w1 hR) | (refine wpList_alloc_rws rfl _ (by rfl) (by assumption) _ (by first | exact zero_pt | exact zero_ln | exact zero_key) ?_; intro gr w1 hR) | (refine wF_load rfl (by rfl) (by assumption) rfl (by repeat (first | exact pzH | refine pzM ?_)) (by first | exact c3_0 | exact c3_1 | exact c3_2 | exact c2_0 | exact c2_1) (by first | exact isAgg_b | exact isAgg_q | exact isAgg_str) ?_) | (refine wQ_load rfl (by rfl) (by assumption) rfl (by repeat (first | exact pzH | refine pzM ?_)) (by first | rfl | exact PtC.size (by assumption)) ?_) | (refine wQ_loadL rfl (by rfl) (by assumption) rfl (by repeat (first | exact pzH | refine pzM ?_)) (by first | rfl | exact LnC.size (by assumption)) ?_))
            refine wp_region_seq 6 (by kernel_rfl) (by rfl) (by assumption) ?_
            iterate 4 (first | (refine sFa Tryz.underlying31 ?_) | (refine sFa Tryz.underlying103 ?_) | (refine sFa Tryz.underlying23 ?_) | (refine sLq ?_) | (refine sLs ?_) | (refine sLp ?_) | (refine sLl ?_) | (refine sMq ?_))
            refine s_litF 1 1 (by rfl) (by decide) (by decide) Ec.val_1 ?_
            refine s_bln (j := ⟨_, _, _⟩) (by rfl) (by exact fun _ _ _ h => h) (by exact fun _ _ _ h => h) (by exact fun _ _ _ h => h) ?_
            intro w5 hR hb5 v42 h42 v43 h43 v44 h44 v45 h45 v46 h46 v47 h47
            simp only [softEnd, Act.put, List.setIfInBounds_toArray, List.set_cons_succ, List.set_cons_zero, List.drop_succ_cons, List.drop_zero]
            have hX := hX.below hb5
            have hY := hY.below hb5
            clear h42 h43 h44 h45
            have h46 : QV w5 v46 _ := h46
            have hK := hK.below hb5 (Nat.le_refl _)
            obtain ⟨cs9, rfl, hc9⟩ := h47
            go_wp2_with (refine wB_store rfl (by rfl) (by assumption) rfl rfl (by repeat (first | exact Pick.here | apply Pick.there)) (by exact ln_info hc9.size) (by rw [hc9.size]; rfl) (by exact hc9.cells) ?_; intro w6 hR hbt9 hrr9)
            have hNI := hL.noint
            go_roundw
            case rel => exact ⟨_, i, cs9, ⟨x, y, 1⟩, rfl, by omega, by go_num, hc9.but hbt9 hrr9 hNI, (by show Ec.Rep _ _; rw [HST.out, HDI.out, HA.out]; exact Ec.rep_of Ec.hP (.at x y)), hX.but hbt9 hrr9 hNI, hY.but hbt9 hrr9 hNI, hK.but hbt9 hrr9 hNI, hR⟩
            case measure => simp [intOf]
          · have hz1 : jj.z ≠ 0 := fun h => hz0 (hzz.1 h)
            have hzb : ((zn : Int) == 0) = false := by rw [beq_eq_false_iff_ne]; omega
            have HZ1 := Lib.hid hz1
            clear hz0 hz1 hzz
            have hcp : PtC _ #[.bool false, X, Y] (.at x y) := ⟨X, Y, rfl, hX, hY⟩
            go_upto_region 10 with (fail)
            clear hck hbit
            by_cases hh : x * (jj.z * jj.z) - jj.x = 0
            · have HH := Lib.hid hh
              clear hh
              go_wp2_with (first | (refine wpList_box_rws rfl _ _ (by rfl) (by assumption) _ rfl ?_; intro gp w1 hR) | (refine wpList_alloc_rws rfl _ (by rfl) (by assumption) _ (by first | exact zero_pt | exact zero_ln | exact zero_key) ?_; intro gr w1 hR) | (refine wF_load rfl (by rfl) (by assumption) rfl (by repeat (first | exact pzH | refine pzM ?_)) (by first | exact c3_0 | exact c3_1 | exact c3_2 | exact c2_0 | exact c2_1) (by first | exact isAgg_b | exact isAgg_q | exact isAgg_str) ?_) | (refine wQ_load rfl (by rfl) (by assumption) rfl (by repeat (first | exact pzH | refine pzM ?_)) (by first | rfl | exact PtC.size (by assumption)) ?_) | (refine wQ_loadL rfl (by rfl) (by assumption) rfl (by repeat (first | exact pzH | refine pzM ?_)) (by first | rfl | exact LnC.size (by assumption)) ?_))
              refine (lmore_no _ _ jj x y _ ⟨_, rfl, hL⟩ ⟨_, rfl, hcp⟩ HH.out).mono ?_
              rintro e w4 ⟨mv, rfl, hm9, hb4⟩
              have hX := hX.below hb4; have hY := hY.below hb4; have hK := hK.below hb4 (Nat.le_refl _); have hL := hL.below hb4
              have hR := Rws.call (by assumption) hb4
              go_upto_region 14 with (first | (refine wA_alloc rfl _ (by rfl) (by assumption) _ zero_ln ?_; intro gm w5 hR hbA; have hm9 := hm9.below hbA; have hL := hL.below hbA; have hX := hX.below hbA; have hY := hY.below hbA; have hK := hK.below hbA (Nat.le_refl _)) | (refine wB_store rfl (by rfl) (by assumption) rfl rfl (by repeat (first | exact Pick.here | apply Pick.there)) (by exact ln_info hm9.size) (by rw [hm9.size]; rfl) (by exact hm9.cells) ?_; intro w6 hR hbt9 hrr9; have hm9 := hm9.but hbt9 hrr9 zln_noint; have hL := hL.but hbt9 hrr9 zln_noint; have hX := hX.but hbt9 hrr9 zln_noint; have hY := hY.but hbt9 hrr9 zln_noint; have hK := hK.but hbt9 hrr9 zln_noint))
              have hcp : PtC w6 #[.bool false, X, Y] (.at x y) := ⟨X, Y, rfl, hX, hY⟩
              have HJ := Lib.hid (Ec.Rep.uniq Ec.hP (Ec.Rep.pt Ec.hP jj) hrep2.out)
              refine wp_region_soft 5 (by kernel_rfl) (by kernel_rfl) (by rfl) (by assumption) ?_
              first | (refine sFa Tryz.underlying31 ?_) | (refine sFa Tryz.underlying103 ?_) | (refine sFa Tryz.underlying23 ?_) | (refine sLq ?_) | (refine sLs ?_) | (refine sLp ?_) | (refine sLl ?_) | (refine sMq ?_)
              refine s_call1 (by rfl) Tryz.func82 (by kernel_rfl) rfl (stb_pt _) (A := LnV jj) (by exact fun _ _ _ h => h) (fun w v h => by have h1 := lend_any v jj w h; rw [HJ.out] at h1; exact h1) ?_
              first | (refine sFa Tryz.underlying31 ?_) | (refine sFa Tryz.underlying103 ?_) | (refine sFa Tryz.underlying23 ?_) | (refine sLq ?_) | (refine sLs ?_) | (refine sLp ?_) | (refine sLl ?_) | (refine sMq ?_)
              refine s_call2 (by rfl) Tryz.func42 (by kernel_rfl) rfl (stb_pt _) (A := PtV (Ec.addA M M)) (A' := PtV (.at x y)) (by exact fun _ _ _ h => h) (by exact fun _ _ _ h => h) (fun w v u h1 h2 => rsum_any _ _ _ _ _ HOD.out HOA.out h1 h2) ?_
              refine s_alloc (by rfl) zero_pt ?_
              intro w7 hR hb_w7 v56 h56 v57 h57 v58 h58 v59 h59 v9 h9
              simp only [softEnd, Act.put, List.setIfInBounds_toArray, List.set_cons_succ, List.set_cons_zero, List.drop_succ_cons, List.drop_zero]
              have hX := hX.below hb_w7
              have hY := hY.below hb_w7
              have hL := hL.below hb_w7
              have hm9 := hm9.below hb_w7
              clear h56 h58
              have hK := hK.below hb_w7 (Nat.le_refl _)
              obtain ⟨g9, rfl, hB9, hrow9, hne9⟩ := h9
              have hR := hR.add hB9 hrow9 hne9
              rw [show Ec.Pt.at x y = A from HA.out.symm] at h59
              obtain ⟨qv, rfl, hq9⟩ := h59
              obtain ⟨S, hS⟩ : ∃ S, S = Ec.addA (Ec.addA M M) A := ⟨_, rfl⟩
              rw [← hS] at hq9
              have HS := Lib.hid hS
              clear hS
              cases S with
              | inf =>
                obtain rfl : qv = #[.bool true, nilS, nilS] := hq9
                have hq9 := pt_inf w7
                go_upto_region 15 with (first | (refine wB_store rfl (by rfl) (by assumption) rfl rfl (by repeat (first | exact Pick.here | apply Pick.there)) (by exact pt_info hq9.size) (by rw [hq9.size]; rfl) (by exact hq9.cells) ?_; intro w8 hR hbtq hrrq; have hq9 := hq9.but hbtq hrrq zpt_noint; have hX := hX.but hbtq hrrq zpt_noint; have hY := hY.but hbtq hrrq zpt_noint; have hL := hL.but hbtq hrrq zpt_noint; have hm9 := hm9.but hbtq hrrq zpt_noint; have hK := hK.but hbtq hrrq zpt_noint))
                have hq0 : QV w8 nilS (0 : Ec.F).val := by rw [Ec.val_0]; exact nil_q w8
                refine wp_region_seq 6 (by kernel_rfl) (by rfl) (by assumption) ?_
                iterate 4 (first | (refine sFa Tryz.underlying31 ?_) | (refine sFa Tryz.underlying103 ?_) | (refine sFa Tryz.underlying23 ?_) | (refine sLq ?_) | (refine sLs ?_) | (refine sLp ?_) | (refine sLl ?_) | (refine sMq ?_))
                refine s_litF 1 1 (by rfl) (by decide) (by decide) Ec.val_1 ?_
                refine s_bln (j := ⟨0, 0, _⟩) (by rfl) (by exact fun _ _ _ h => h) (by exact fun _ _ _ h => h) (by exact fun _ _ _ h => h) ?_
                intro w9 hR hb_w9 v60 h60 v61 h61 v62 h62 v63 h63 v64 h64 v65 h65
                simp only [softEnd, Act.put, List.setIfInBounds_toArray, List.set_cons_succ, List.set_cons_zero, List.drop_succ_cons, List.drop_zero]
                have hX := hX.below hb_w9
                have hY := hY.below hb_w9
                have hL := hL.below hb_w9
                have hm9 := hm9.below hb_w9
                clear h60 h61 h62 h63
                have h64 : QV w9 v64 _ := h64
                have hK := hK.below hb_w9 (Nat.le_refl _)
                obtain ⟨cs9, rfl, hc9⟩ := h65
                have hNI := hm9.noint
                go_upto_region 16 with (refine wB_store rfl (by rfl) (by assumption) rfl rfl (by repeat (first | exact Pick.here | apply Pick.there)) (by exact ln_info hc9.size) (by rw [hc9.size, hm9.size]) (by exact hc9.cells) ?_; intro w10 hR hbtr hrrr; have hc9 := hc9.but hbtr hrrr hNI; have hX := hX.but hbtr hrrr hNI; have hY := hY.but hbtr hrrr hNI; have hL := hL.but hbtr hrrr hNI; have hK := hK.but hbtr hrrr hNI)
                have hNJ := hc9.noint
                go_upto_region 18 with (first | (refine wpList_box_rws rfl _ _ (by rfl) (by assumption) _ rfl ?_; intro gp w1 hR) | (refine wpList_alloc_rws rfl _ (by rfl) (by assumption) _ (by first | exact zero_pt | exact zero_ln | exact zero_key) ?_; intro gr w1 hR) | (refine wF_load rfl (by rfl) (by assumption) rfl (by repeat (first | exact pzH | refine pzM ?_)) (by first | exact c3_0 | exact c3_1 | exact c3_2 | exact c2_0 | exact c2_1) (by first | exact isAgg_b | exact isAgg_q | exact isAgg_str) ?_) | (refine wQ_load rfl (by rfl) (by assumption) rfl (by repeat (first | exact pzH | refine pzM ?_)) (by first | rfl | exact PtC.size (by assumption)) ?_) | (refine wQ_loadL rfl (by rfl) (by assumption) rfl (by repeat (first | exact pzH | refine pzM ?_)) (by first | rfl | exact LnC.size (by assumption)) ?_) | (refine wB_build (xs := []) (cs := zln) rfl (by rfl) (by exact built_zln) ?_) | (refine wB_store rfl (by rfl) (by assumption) rfl rfl (by repeat (first | exact Pick.here | apply Pick.there)) (by exact ln_info rfl) (by rw [hc9.size]; rfl) (by exact zln_cells) ?_; intro w11 hR hbts hrrs; have hX := hX.but hbts hrrs hNJ; have hY := hY.but hbts hrrs hNJ; have hL := hL.but hbts hrrs hNJ; have hK := hK.but hbts hrrs hNJ))
                have hfin := zln_c w11
                have hNK := hL.noint
                go_wp2_with (first | (refine wQ_loadL rfl (by rfl) (by assumption) rfl (by repeat (first | exact pzH | refine pzM ?_)) hfin.size ?_) | (refine wB_store rfl (by rfl) (by assumption) rfl rfl (by repeat (first | exact Pick.here | apply Pick.there)) (by exact ln_info hfin.size) (by rw [hfin.size]; rfl) (by exact hfin.cells) ?_; intro w12 hR hbtu hrru; have hfin := hfin.but hbtu hrru hNK; have hX := hX.but hbtu hrru hNK; have hY := hY.but hbtu hrru hNK; have hK := hK.but hbtu hrru hNK))
                have hR := hR.sub (L' := [(gl, zln, 103), (gr, zpt, 31), (gp, #[.bool false, X, Y], 31)]) (by repeat (first | exact List.Sublist.refl _ | apply List.Sublist.cons_cons | apply List.Sublist.cons))
                go_roundw
                case rel => exact ⟨_, i, _, ⟨0, 0, 0⟩, rfl, by omega, by go_num, hfin, (by show Ec.Rep _ _; rw [HST.out, ← HS.out]; rfl), hX, hY, hK, hR⟩
                case measure => simp [intOf]
              | «at» qx qy =>
                obtain ⟨QX, QY, rfl, hQX, hQY⟩ := hq9
                have hq9 : PtC w7 #[.bool false, QX, QY] (.at qx qy) := ⟨QX, QY, rfl, hQX, hQY⟩
                go_upto_region 15 with (first | (refine wB_store rfl (by rfl) (by assumption) rfl rfl (by repeat (first | exact Pick.here | apply Pick.there)) (by exact pt_info hq9.size) (by rw [hq9.size]; rfl) (by exact hq9.cells) ?_; intro w8 hR hbtq hrrq; have hq9 := hq9.but hbtq hrrq zpt_noint; have hX := hX.but hbtq hrrq zpt_noint; have hY := hY.but hbtq hrrq zpt_noint; have hL := hL.but hbtq hrrq zpt_noint; have hm9 := hm9.but hbtq hrrq zpt_noint; have hK := hK.but hbtq hrrq zpt_noint))
                obtain ⟨_, _, eq9, hQX, hQY⟩ := hq9
                obtain ⟨rfl, rfl⟩ : _ = QX ∧ _ = QY := by simpa using eq9.symm
                refine wp_region_seq 6 (by kernel_rfl) (by rfl) (by assumption) ?_
                iterate 4 (first | (refine sFa Tryz.underlying31 ?_) | (refine sFa Tryz.underlying103 ?_) | (refine sFa Tryz.underlying23 ?_) | (refine sLq ?_) | (refine sLs ?_) | (refine sLp ?_) | (refine sLl ?_) | (refine sMq ?_))
                refine s_litF 1 1 (by rfl) (by decide) (by decide) Ec.val_1 ?_
                refine s_bln (j := ⟨_, _, _⟩) (by rfl) (by exact fun _ _ _ h => h) (by exact fun _ _ _ h => h) (by exact fun _ _ _ h => h) ?_
                intro w9 hR hb_w9 v60 h60 v61 h61 v62 h62 v63 h63 v64 h64 v65 h65
                simp only [softEnd, Act.put, List.setIfInBounds_toArray, List.set_cons_succ, List.set_cons_zero, List.drop_succ_cons, List.drop_zero]
                have hX := hX.below hb_w9
                have hY := hY.below hb_w9
                have hL := hL.below hb_w9
                have hm9 := hm9.below hb_w9
                clear h60 h61 h62 h63
                have h64 : QV w9 v64 _ := h64
                have hK := hK.below hb_w9 (Nat.le_refl _)
                obtain ⟨cs9, rfl, hc9⟩ := h65
                have hNI := hm9.noint
                go_upto_region 16 with (refine wB_store rfl (by rfl) (by assumption) rfl rfl (by repeat (first | exact Pick.here | apply Pick.there)) (by exact ln_info hc9.size) (by rw [hc9.size, hm9.size]) (by exact hc9.cells) ?_; intro w10 hR hbtr hrrr; have hc9 := hc9.but hbtr hrrr hNI; have hX := hX.but hbtr hrrr hNI; have hY := hY.but hbtr hrrr hNI; have hL := hL.but hbtr hrrr hNI; have hK := hK.but hbtr hrrr hNI)
                have hNJ := hc9.noint
                go_upto_region 18 with (first | (refine wpList_box_rws rfl _ _ (by rfl) (by assumption) _ rfl ?_; intro gp w1 hR) | (refine wpList_alloc_rws rfl _ (by rfl) (by assumption) _ (by first | exact zero_pt | exact zero_ln | exact zero_key) ?_; intro gr w1 hR) | (refine wF_load rfl (by rfl) (by assumption) rfl (by repeat (first | exact pzH | refine pzM ?_)) (by first | exact c3_0 | exact c3_1 | exact c3_2 | exact c2_0 | exact c2_1) (by first | exact isAgg_b | exact isAgg_q | exact isAgg_str) ?_) | (refine wQ_load rfl (by rfl) (by assumption) rfl (by repeat (first | exact pzH | refine pzM ?_)) (by first | rfl | exact PtC.size (by assumption)) ?_) | (refine wQ_loadL rfl (by rfl) (by assumption) rfl (by repeat (first | exact pzH | refine pzM ?_)) (by first | rfl | exact LnC.size (by assumption)) ?_))
                have hfin := hc9
                have hNK := hL.noint
                go_wp2_with (first | (refine wQ_loadL rfl (by rfl) (by assumption) rfl (by repeat (first | exact pzH | refine pzM ?_)) hfin.size ?_) | (refine wB_store rfl (by rfl) (by assumption) rfl rfl (by repeat (first | exact Pick.here | apply Pick.there)) (by exact ln_info hfin.size) (by rw [hfin.size]; rfl) (by exact hfin.cells) ?_; intro w12 hR hbtu hrru; have hfin := hfin.but hbtu hrru hNK; have hX := hX.but hbtu hrru hNK; have hY := hY.but hbtu hrru hNK; have hK := hK.but hbtu hrru hNK))
                have hR := hR.sub (L' := [(gl, cs9, 103), (gr, zpt, 31), (gp, #[.bool false, X, Y], 31)]) (by repeat (first | exact List.Sublist.refl _ | apply List.Sublist.cons_cons | apply List.Sublist.cons))
                go_roundw
                case rel => exact ⟨_, i, _, ⟨qx, qy, 1⟩, rfl, by omega, by go_num, hfin, (by show Ec.Rep _ _; rw [HST.out, ← HS.out]; exact Ec.rep_of Ec.hP (.at qx qy)), hX, hY, hK, hR⟩
                case measure => simp [intOf]
            · have HH := Lib.hid hh
              clear hh
              go_wp2_with (first | (refine wpList_box_rws rfl _ _ (by rfl) (by assumption) _ rfl ?_; intro gp w1 hR) | (refine wpList_alloc_rws rfl _ (by rfl) (by assumption) _ (by first | exact zero_pt | exact zero_ln | exact zero_key) ?_; intro gr w1 hR) | (refine wF_load rfl (by rfl) (by assumption) rfl (by repeat (first | exact pzH | refine pzM ?_)) (by first | exact c3_0 | exact c3_1 | exact c3_2 | exact c2_0 | exact c2_1) (by first | exact isAgg_b | exact isAgg_q | exact isAgg_str) ?_) | (refine wQ_load rfl (by rfl) (by assumption) rfl (by repeat (first | exact pzH | refine pzM ?_)) (by first | rfl | exact PtC.size (by assumption)) ?_) | (refine wQ_loadL rfl (by rfl) (by assumption) rfl (by repeat (first | exact pzH | refine pzM ?_)) (by first | rfl | exact LnC.size (by assumption)) ?_))
              refine (lmore_yes _ _ jj x y _ ⟨_, rfl, hL⟩ ⟨_, rfl, hcp⟩ HH.out).mono ?_
              rintro e w4 ⟨mv, rfl, hm9, hb4⟩
              have hX := hX.below hb4; have hY := hY.below hb4; have hK := hK.below hb4 (Nat.le_refl _); have hL := hL.below hb4
              have hR := Rws.call (by assumption) hb4
              go_upto_region 18 with (first | (refine wA_alloc rfl _ (by rfl) (by assumption) _ zero_ln ?_; intro gm w5 hR hbA; have hm9 := hm9.below hbA; have hL := hL.below hbA; have hX := hX.below hbA; have hY := hY.below hbA; have hK := hK.below hbA (Nat.le_refl _)) | (refine wB_store rfl (by rfl) (by assumption) rfl rfl (by repeat (first | exact Pick.here | apply Pick.there)) (by exact ln_info hm9.size) (by rw [hm9.size]; rfl) (by exact hm9.cells) ?_; intro w6 hR hbt9 hrr9; have hm9 := hm9.but hbt9 hrr9 zln_noint; have hL := hL.but hbt9 hrr9 zln_noint; have hX := hX.but hbt9 hrr9 zln_noint; have hY := hY.but hbt9 hrr9 zln_noint; have hK := hK.but hbt9 hrr9 zln_noint))
              have hNK := hL.noint
              go_wp2_with (first | (refine wQ_loadL rfl (by rfl) (by assumption) rfl (by repeat (first | exact pzH | refine pzM ?_)) hm9.size ?_) | (refine wB_store rfl (by rfl) (by assumption) rfl rfl (by repeat (first | exact Pick.here | apply Pick.there)) (by exact ln_info hm9.size) (by rw [hm9.size]; rfl) (by exact hm9.cells) ?_; intro w12 hR hbtu hrru; have hm9 := hm9.but hbtu hrru hNK; have hX := hX.but hbtu hrru hNK; have hY := hY.but hbtu hrru hNK; have hK := hK.but hbtu hrru hNK))
              have hR := hR.sub (L' := [(gl, mv, 103), (gr, zpt, 31), (gp, #[.bool false, X, Y], 31)]) (by repeat (first | exact List.Sublist.refl _ | apply List.Sublist.cons_cons | apply List.Sublist.cons))
              go_roundw
              case rel => exact ⟨_, i, mv, jj.more x y, rfl, by omega, by go_num, hm9, (by show Ec.Rep _ _; rw [HST.out, Ec.more_add HZ1.out Ec.one_ne' HH.out, HA.out]; exact Ec.Rep.add Ec.hP Ec.two_ne hrep2.out (Ec.rep_of Ec.hP (.at x y)) HOD.out HOA.out), hX, hY, hK, hR⟩
              case measure => simp [intOf]
      · have hz2 : zn = 0 := by omega
        have hz1 : j.z = 0 := hzz.2 hz2
        have hMi : M = .inf := Ec.Rep.uniq Ec.hP hrep.out (show Ec.Rep j .inf from hz1)
        have hrep2 : Hid (Ec.Rep j (Ec.addA M M)) := by rw [hMi]; exact hz1
        have HZJ0 := Lib.hid hz1
        clear hMi hz1 hz2 hrep
        have hzf : decide (0 < (zn : Int)) = false := decide_eq_false (by omega)
        go_upto_region 9 with (first | (refine wpList_box_rws rfl _ _ (by rfl) (by assumption) _ rfl ?_; intro gp w1 hR) | (refine wpList_alloc_rws rfl _ (by rfl) (by assumption) _ (by first | exact zero_pt | exact zero_ln | exact zero_key) ?_; intro gr w1 hR) | (refine wF_load rfl (by rfl) (by assumption) rfl (by repeat (first | exact pzH | refine pzM ?_)) (by first | exact c3_0 | exact c3_1 | exact c3_2 | exact c2_0 | exact c2_1) (by first | exact isAgg_b | exact isAgg_q | exact isAgg_str) ?_) | (refine wQ_load rfl (by rfl) (by assumption) rfl (by repeat (first | exact pzH | refine pzM ?_)) (by first | rfl | exact PtC.size (by assumption)) ?_) | (refine wQ_loadL rfl (by rfl) (by assumption) rfl (by repeat (first | exact pzH | refine pzM ?_)) (by first | rfl | exact LnC.size (by assumption)) ?_))
        clear hz0 hzf
        obtain ⟨jj, hjj⟩ : ∃ jj, jj = j := ⟨_, rfl⟩
        rw [← hjj] at hL hzz hrep2 HZJ0
        have HZJ : Hid (jj.z = 0) := HZJ0
        clear hjj
        have hck := HCELL.out _ hK
        rcases hbt2 with hb0 | hb0
        · have hbit : (bits BinOp.and IntKind.u32 ((kd : Int) / 2 ^ (i % 16)) 1 == 0) = true := by rw [HBV.out, hb0]; rfl
          have HB0 := Lib.hid hb0
          clear hb0
          go_wp2_with fail
          go_roundw
          case rel => exact ⟨_, i, _, _, rfl, by omega, by go_num, hL, (by show Ec.Rep _ _; rw [HSTEP.out, if_neg (by rw [HB0.out]; decide)]; exact hrep2.out), hX, hY, hK, hR⟩
          case measure => simp [intOf]
        · have hbit : (bits BinOp.and IntKind.u32 ((kd : Int) / 2 ^ (i % 16)) 1 == 0) = false := by rw [HBV.out, hb0]; rfl
          have HB0 := Lib.hid hb0
          have hst := HSTEP.out
          rw [if_pos hb0] at hst
          have HST := Lib.hid hst
          clear hb0 hst HSTEP
          by_cases hz0 : zn = 0
          · have hz1 : jj.z = 0 := hzz.2 hz0
            have hD : Ec.addA M M = .inf := Ec.Rep.uniq Ec.hP hrep2.out (show Ec.Rep jj .inf from hz1)
            have hzb : ((zn : Int) == 0) = true := by rw [beq_iff_eq]; omega
            have HDI := Lib.hid hD
            clear hD hz0 hz1 hzz
            go_upto_region 10 with (fail)
            clear hck hbit
            go_upto_region 11 with (first | (refine wpList_box_rws rfl _ _ (by rfl) (by assumption) _ rfl ?_; intro gp w1 hR) | (refine wpList_alloc_rws rfl _ (by rfl) (by assumption) _ (by first | exact zero_pt | exact zero_ln | exact zero_key) ?_; intro gr w1 hR) | (refine wF_load rfl (by rfl) (by assumption) rfl (by repeat (first | exact pzH | refine pzM ?_)) (by first | exact c3_0 | exact c3_1 | exact c3_2 | exact c2_0 | exact c2_1) (by first | exact isAgg_b | exact isAgg_q | exact isAgg_str) ?_) | (refine wQ_load rfl (by rfl) (by assumption) rfl (by repeat (first | exact pzH | refine pzM ?_)) (by first | rfl | exact PtC.size (by assumption)) ?_) | (refine wQ_loadL rfl (by rfl) (by assumption) rfl (by repeat (first | exact pzH | refine pzM ?_)) (by first | rfl | exact LnC.size (by assumption)) ?_))
            refine wp_region_seq 6 (by kernel_rfl) (by rfl) (by assumption) ?_
            iterate 4 (first | (refine sFa Tryz.underlying31 ?_) | (refine sFa Tryz.underlying103 ?_) | (refine sFa Tryz.underlying23 ?_) | (refine sLq ?_) | (refine sLs ?_) | (refine sLp ?_) | (refine sLl ?_) | (refine sMq ?_))
            refine s_litF 1 1 (by rfl) (by decide) (by decide) Ec.val_1 ?_
            refine s_bln (j := ⟨_, _, _⟩) (by rfl) (by exact fun _ _ _ h => h) (by exact fun _ _ _ h => h) (by exact fun _ _ _ h => h) ?_
            intro w5 hR hb5 v42 h42 v43 h43 v44 h44 v45 h45 v46 h46 v47 h47
            simp only [softEnd, Act.put, List.setIfInBounds_toArray, List.set_cons_succ, List.set_cons_zero, List.drop_succ_cons, List.drop_zero]
            have hX := hX.below hb5
            have hY := hY.below hb5
            clear h42 h43 h44 h45
            have h46 : QV w5 v46 _ := h46
            have hK := hK.below hb5 (Nat.le_refl _)
            obtain ⟨cs9, rfl, hc9⟩ := h47
            go_wp2_with (refine wB_store rfl (by rfl) (by assumption) rfl rfl (by repeat (first | exact Pick.here | apply Pick.there)) (by exact ln_info hc9.size) (by rw [hc9.size]; rfl) (by exact hc9.cells) ?_; intro w6 hR hbt9 hrr9)
            have hNI := hL.noint
            go_roundw
            case rel => exact ⟨_, i, cs9, ⟨x, y, 1⟩, rfl, by omega, by go_num, hc9.but hbt9 hrr9 hNI, (by show Ec.Rep _ _; rw [HST.out, HDI.out, HA.out]; exact Ec.rep_of Ec.hP (.at x y)), hX.but hbt9 hrr9 hNI, hY.but hbt9 hrr9 hNI, hK.but hbt9 hrr9 hNI, hR⟩
            case measure => simp [intOf]
          · exact absurd (hzz.1 HZJ.out) hz0
theorem rfast_any (V U : Value) (A : Ec.Pt Ec.P) (v : Nat) (w : World) (oA : A.on Ec.cb) (hV : PtV A w V) (hU : QV w U v) : Calls Tryz.prog 46 #[V, U] w (RetPt w (Ec.mulN A v)) := by
  cases A with
  | inf =>
    rw [show Ec.mulN (.inf : Ec.Pt Ec.P) v = .inf by rw [Ec.mulN_nA oA, Ec.nA_inf]]
    exact rfast_inf V U v w hV hU
  | «at» x y => exact rfast_at V U x y v w oA hV hU
end Go.Proofs.YtaggpodckafbgaaGreatDoor
