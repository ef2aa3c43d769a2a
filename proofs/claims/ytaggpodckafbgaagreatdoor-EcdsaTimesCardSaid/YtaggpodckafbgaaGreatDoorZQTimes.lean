/- The reference's Times (layer 5): the walk. -/
import Derived.Test.YtaggpodckafbgaaGreatDoorZQFast
import Derived.Test.YtaggpodckafbgaaGreatDoorZPM
namespace Go.Proofs.YtaggpodckafbgaaGreatDoor
open Go.RowKit

set_option maxRecDepth 100000 in
set_option maxHeartbeats 1600000 in
theorem rtimes_any (n kx ky : ByteArray) (w : World) : Calls Tryz.prog 18 #[.string n, .agg (kvc kx ky)] w fun e w' => e = retK (timesR n kx ky) ∧ Below w.heap.size w w' := by
  unfold timesR
  by_cases hn : 32 < n.size
  · rw [if_pos hn]
    have HF := Lib.hid (show Ending.returned (.tuple #[.agg zkey, .int .i64 51]) = retK ((⟨#[]⟩, ⟨#[]⟩), 51) from rfl)
    have hn' : (32 : Int) < n.size := by omega
    clear hn
    have hR0 := Rws.start w
    go_enter Tryz.func18, Tryz.ntmps18
    go_wp2_with (first | (refine wpList_box_rws rfl _ _ (by rfl) (by assumption) _ rfl ?_; intro gp w1 hR) | (refine wpList_alloc_rws rfl _ (by rfl) (by assumption) _ (by first | exact zero_pt | exact zero_ln | exact zero_key) ?_; intro gr w1 hR) | (refine wF_load rfl (by rfl) (by assumption) rfl (by repeat (first | exact List.Mem.head _ | refine List.Mem.tail _ ?_)) (by first | exact c3_0 | exact c3_1 | exact c3_2 | exact c2_0 | exact c2_1) (by first | exact isAgg_b | exact isAgg_q | exact isAgg_str) ?_) | (refine wQ_load rfl (by rfl) (by assumption) rfl (by repeat (first | exact List.Mem.head _ | refine List.Mem.tail _ ?_)) (by first | rfl | exact PtC.size (by assumption)) ?_) | (refine wQ_loadL rfl (by rfl) (by assumption) rfl (by repeat (first | exact List.Mem.head _ | refine List.Mem.tail _ ?_)) (by first | rfl | exact LnC.size (by assumption)) ?_) | (refine wB_build (xs := []) (cs := zkey) rfl (by rfl) (by exact built_key0) ?_) | (refine wB_store rfl (by rfl) (by assumption) rfl rfl (by repeat (first | exact Pick.here | apply Pick.there)) (by exact key_info (by rfl)) (by rfl) (by exact kvc_cells _ _) ?_; intro w1 hR hbt hrr))
    exact end_key Tryz.results18 (by assumption) rfl (List.Mem.head _) rfl rfl rfl fun hb => ⟨HF.out, hb⟩
  · rw [if_neg hn]
    have hn' : ¬ (32 : Int) < n.size := by omega
    cases hA : inK kx ky with
    | none =>
      have H1 := Lib.hid (fun w => in_none hA w)
      have HF := Lib.hid (show Ending.returned (.tuple #[.agg zkey, .int .i64 50]) = retK ((⟨#[]⟩, ⟨#[]⟩), 50) from rfl)
      clear hA hn
      have hR0 := Rws.start w
      go_enter Tryz.func18, Tryz.ntmps18
      go_wp2_with (first | (refine wpList_box_rws rfl _ _ (by rfl) (by assumption) _ rfl ?_; intro gp w1 hR) | (refine wpList_alloc_rws rfl _ (by rfl) (by assumption) _ (by first | exact zero_pt | exact zero_ln | exact zero_key) ?_; intro gr w1 hR) | (refine wF_load rfl (by rfl) (by assumption) rfl (by repeat (first | exact List.Mem.head _ | refine List.Mem.tail _ ?_)) (by first | exact c3_0 | exact c3_1 | exact c3_2 | exact c2_0 | exact c2_1) (by first | exact isAgg_b | exact isAgg_q | exact isAgg_str) ?_) | (refine wQ_load rfl (by rfl) (by assumption) rfl (by repeat (first | exact List.Mem.head _ | refine List.Mem.tail _ ?_)) (by first | rfl | exact PtC.size (by assumption)) ?_) | (refine wQ_loadL rfl (by rfl) (by assumption) rfl (by repeat (first | exact List.Mem.head _ | refine List.Mem.tail _ ?_)) (by first | rfl | exact LnC.size (by assumption)) ?_) | (refine wK_load rfl (by rfl) (by assumption) rfl (by repeat (first | exact List.Mem.head _ | refine List.Mem.tail _ ?_)) rfl ?_))
      refine (H1.out _).mono ?_
      rintro e w1 ⟨pv, hs, hc, rfl, hb1⟩
      have hR := Rws.call (by assumption) hb1
      go_wp2_with (first | (refine wpList_box_rws rfl _ _ (by rfl) (by assumption) _ rfl ?_; intro gp w1 hR) | (refine wpList_alloc_rws rfl _ (by rfl) (by assumption) _ (by first | exact zero_pt | exact zero_ln | exact zero_key) ?_; intro gr w1 hR) | (refine wF_load rfl (by rfl) (by assumption) rfl (by repeat (first | exact List.Mem.head _ | refine List.Mem.tail _ ?_)) (by first | exact c3_0 | exact c3_1 | exact c3_2 | exact c2_0 | exact c2_1) (by first | exact isAgg_b | exact isAgg_q | exact isAgg_str) ?_) | (refine wQ_load rfl (by rfl) (by assumption) rfl (by repeat (first | exact List.Mem.head _ | refine List.Mem.tail _ ?_)) (by first | rfl | exact PtC.size (by assumption)) ?_) | (refine wQ_loadL rfl (by rfl) (by assumption) rfl (by repeat (first | exact List.Mem.head _ | refine List.Mem.tail _ ?_)) (by first | rfl | exact LnC.size (by assumption)) ?_) | (refine wB_store rfl (by rfl) (by assumption) rfl rfl (by repeat (first | exact Pick.here | apply Pick.there)) (by exact pt_info hs) (by rw [hs]; rfl) (by exact hc) ?_; intro w1 hR hbt hrr) | (refine wB_build (xs := []) (cs := zkey) rfl (by rfl) (by exact built_key0) ?_) | (refine wB_store rfl (by rfl) (by assumption) rfl rfl (by repeat (first | exact Pick.here | apply Pick.there)) (by exact key_info (by rfl)) (by rfl) (by exact kvc_cells _ _) ?_; intro w1 hR hbt hrr))
      exact end_key Tryz.results18 (by assumption) rfl (List.Mem.head _) rfl rfl rfl fun hb => ⟨HF.out, hb⟩
    | some A =>
      have oA := inK_on hA
      have H1 := Lib.hid (fun w => in_some hA w)
      obtain ⟨v, hv⟩ : ∃ v, v = nv n := ⟨_, rfl⟩
      have hlt : v < 115792089237316195423570985008687907853269984665640564039457584007913129639936 := by rw [hv]; exact nv_lt32 (show n.size ≤ 32 by omega)
      have hrd : ∀ w : World, Calls Tryz.prog 34 #[.string n] w fun e w' => ∃ u, e = .returned u ∧ QVp v w' u ∧ Below w.heap.size w w' := fun w => by
        have h := qread_any n w (by omega)
        rw [show bv n.data.toList = v from hv.symm] at h
        exact h.mono fun e w' ⟨ro, k, c, he, hq, hb⟩ => ⟨_, he, QV.mk hq hlt, hb⟩
      have HRD := Lib.hid hrd
      rw [← hv]
      obtain ⟨ok, hok⟩ : ∃ o, o = outK (Ec.mulN A v) := ⟨_, rfl⟩
      have HS := Lib.hid (fun w V U h1 h2 => rfast_any V U A v w oA h1 h2)
      have HO := Lib.hid (fun w V (h : PtV (Ec.mulN A v) w V) => rout_any V _ w h)
      rw [← hok] at HO
      have HF := Lib.hid (show Ending.returned (.tuple #[.agg (kvc ok.1 ok.2), .int .i64 0]) = retK (outK (Ec.mulN A v), 0) by rw [hok]; rfl)
      clear hok oA hrd hA hn hlt hv
      have hR0 := Rws.start w
      go_enter Tryz.func18, Tryz.ntmps18
      go_wp2_with (first | (refine wpList_box_rws rfl _ _ (by rfl) (by assumption) _ rfl ?_; intro gp w1 hR) | (refine wpList_alloc_rws rfl _ (by rfl) (by assumption) _ (by first | exact zero_pt | exact zero_ln | exact zero_key) ?_; intro gr w1 hR) | (refine wF_load rfl (by rfl) (by assumption) rfl (by repeat (first | exact List.Mem.head _ | refine List.Mem.tail _ ?_)) (by first | exact c3_0 | exact c3_1 | exact c3_2 | exact c2_0 | exact c2_1) (by first | exact isAgg_b | exact isAgg_q | exact isAgg_str) ?_) | (refine wQ_load rfl (by rfl) (by assumption) rfl (by repeat (first | exact List.Mem.head _ | refine List.Mem.tail _ ?_)) (by first | rfl | exact PtC.size (by assumption)) ?_) | (refine wQ_loadL rfl (by rfl) (by assumption) rfl (by repeat (first | exact List.Mem.head _ | refine List.Mem.tail _ ?_)) (by first | rfl | exact LnC.size (by assumption)) ?_) | (refine wK_load rfl (by rfl) (by assumption) rfl (by repeat (first | exact List.Mem.head _ | refine List.Mem.tail _ ?_)) rfl ?_))
      refine (H1.out _).mono ?_
      rintro e w1 ⟨pva, rfl, hpa, hb1⟩
      have hR := Rws.call (by assumption) hb1
      go_upto_region 4 with (first | (refine wA_alloc rfl _ (by rfl) (by assumption) _ zero_pt ?_; intro ga w1 hR hbA; have hpa := hpa.below hbA) | (refine wB_store rfl (by rfl) (by assumption) rfl rfl (by repeat (first | exact Pick.here | apply Pick.there)) (by exact pt_info hpa.size) (by rw [hpa.size]; rfl) (by exact hpa.cells) ?_; intro w1 hR hbt hrr; have hpa := hpa.but hbt hrr zpt_noint))
      go_upto_region 6 with (fail)
      refine wp_region_soft 5 (by kernel_rfl) (by kernel_rfl) (by rfl) (by assumption) ?_
      first | (refine s_fa (by rfl) (by exact fun _ _ _ h => h) Tryz.underlying31 (by rfl) ⟨0, by first | exact q_info | exact bool_info | exact str_info⟩ (by rfl) ?_) | (refine s_fa (by rfl) (by exact fun _ _ _ h => h) Tryz.underlying103 (by rfl) ⟨0, by first | exact q_info | exact bool_info | exact str_info⟩ (by rfl) ?_) | (refine s_fa (by rfl) (by exact fun _ _ _ h => h) Tryz.underlying23 (by rfl) ⟨0, by first | exact q_info | exact bool_info | exact str_info⟩ (by rfl) ?_) | (refine s_ldq (by rfl) (by exact fun _ _ _ h => h) (by repeat (first | exact List.Mem.head _ | refine List.Mem.tail _ ?_)) (by first | exact c3_0 | exact c3_1 | exact c3_2) (by assumption) ?_) | (refine s_lds (by rfl) (by exact fun _ _ _ h => h) (by repeat (first | exact List.Mem.head _ | refine List.Mem.tail _ ?_)) (by first | exact c2_0 | exact c2_1) ?_) | (refine s_ldp (by rfl) (by exact fun _ _ _ h => h) (by repeat (first | exact List.Mem.head _ | refine List.Mem.tail _ ?_)) (by assumption) ?_) | (refine s_ldl (by rfl) (by exact fun _ _ _ h => h) (by repeat (first | exact List.Mem.head _ | refine List.Mem.tail _ ?_)) (by assumption) ?_) | (refine s_move (by rfl) (stb_q _) (by exact has_fix (fun _ _ h => h) (by assumption)) ?_)
      refine s_move (by rfl) (stb_is (.string n)) (by exact fun _ _ _ h => h) ?_
      refine s_call1 (by rfl) Tryz.func34 (by kernel_rfl) rfl (stb_q v) (A := Is (.string n)) (by exact fun _ _ _ h => h) (fun w u h => by obtain rfl : u = .string n := h; exact HRD.out w) ?_
      refine s_call2 (by rfl) Tryz.func46 (by kernel_rfl) rfl (stb_pt _) (A := PtV A) (A' := QVp v) (by exact fun _ _ _ h => h) (by exact fun _ _ _ h => h) (fun w v u h1 h2 => HS.out w v u h1 h2) ?_
      refine s_call1 (by rfl) Tryz.func43 (by kernel_rfl) rfl (stb_is (.agg (kvc ok.1 ok.2))) (A := PtV (Ec.mulN A v)) (by exact fun _ _ _ h => h) (fun w v h => (HO.out w v h).mono fun e w' ⟨he, hb⟩ => ⟨_, he, rfl, hb⟩) ?_
      intro w5 hR hb_w5 v20 h20 v21 h21 v22 h22 v23 h23 v24 h24
      simp only [softEnd, Act.put, List.setIfInBounds_toArray, List.set_cons_succ, List.set_cons_zero, List.drop_succ_cons, List.drop_zero]
      clear h20 h21
      obtain rfl : v24 = .agg (kvc ok.1 ok.2) := h24
      go_wp2_with (first | (refine wB_store rfl (by rfl) (by assumption) rfl rfl (by repeat (first | exact Pick.here | apply Pick.there)) (by exact key_info (by rfl)) (by rfl) (by exact kvc_cells _ _) ?_; intro w1 hR hbt hrr))
      exact end_key Tryz.results18 (by assumption) rfl (List.Mem.head _) rfl rfl rfl fun hb => ⟨HF.out, hb⟩
end Go.Proofs.YtaggpodckafbgaaGreatDoor
