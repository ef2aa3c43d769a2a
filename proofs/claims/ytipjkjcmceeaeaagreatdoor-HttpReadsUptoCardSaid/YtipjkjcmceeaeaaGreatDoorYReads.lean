/- HttpReads: the law's walk. -/
import Derived.Test.YtipjkjcmceeaeaaGreatDoorYLawKit
import Derived.Test.YtipjkjcmceeaeaaGreatDoorYParR
namespace Go.Proofs.YtipjkjcmceeaeaaGreatDoor.httpReads
open Go.RowKit

set_option maxRecDepth 100000 in
set_option maxHeartbeats 8000000 in
theorem law_any (s name : Bs) (w : World) (hs : s.length ≤ 1048576) (_ : name.length ≤ 1048576) (hgw : Gw w) : Calls Tryz.prog 3 #[.string (bs s), .string (bs name)] w (RetB true w) := by
  have hMX := MX_eq
  have hR := Rws.start w
  have hsmall := parseV_small s
  have hlab := parseV_lab s
  have HP0 : ∀ u, Below w.heap.size w u → Calls Tryz.prog 10 #[.string (bs s)] u (ParsePost (parseV s) u) := fun u hb => Parse_any s u (by omega) (hgw.below hb)
  have HQ0 : ∀ u, Calls Tryz.prog 11 #[.string (bs s)] u (ParsePost (parseV s) u) := fun u => ParseR_any s u (by omega)
  obtain ⟨V, hV⟩ : ∃ V, V = parseV s := ⟨_, rfl⟩
  rw [← hV] at HP0 HQ0 hsmall hlab
  obtain ⟨Q, n, E⟩ := V
  have HP : Hid (∀ u, Below w.heap.size w u → Calls Tryz.prog 10 #[.string (bs s)] u fun e w' => ∃ ad c, e = .returned (.tuple #[.agg (rqC Q ad c), .int .i64 (n : Nat), .int .i64 E]) ∧ SlH w' Q.hs ad c ∧ Below u.heap.size u w') := Lib.hid HP0
  have HQ : Hid (∀ u, Below w.heap.size w u → Calls Tryz.prog 11 #[.string (bs s)] u fun e w' => ∃ ad c, e = .returned (.tuple #[.agg (rqC Q ad c), .int .i64 (n : Nat), .int .i64 E]) ∧ SlH w' Q.hs ad c ∧ Below u.heap.size u w') := Lib.hid fun u _ => HQ0 u
  have HSL := Lib.hid (show SmallQ Q from hsmall)
  have HLB := Lib.hid (show LabOk Q from hlab)
  have HGW := Lib.hid hgw
  obtain ⟨L, hL⟩ : ∃ L, L = labelS Q := ⟨_, rfl⟩
  obtain ⟨G, hG⟩ : ∃ G, G = getS Q name := ⟨_, rfl⟩
  have HL := Lib.hid hL
  have HG := Lib.hid hG
  clear hV HP0 HQ0 hsmall hlab hgw hL hG hs
  go_enter Tryz.func3, Tryz.ntmps3
  go_upto_region 2 with (first
    | (go_at_call 10; refine (HP.out _ hR.below).mono ?_; rintro e wa1 ⟨ad1, c1, rfl, hs1, hb1⟩; have hR := hR.call hb1)
    | (refine wQ_alloc (cs := zQ) rfl _ (by rfl) (by exact hR) zero_rq ?_; intro g5 wb1 hR hbw1 hgw1)
    | (refine wQ_store rfl _ _ _ (by rfl) (by exact hR) g5 rfl (rqC Q ad1 c1) (by rfl) _ _ _ (by repeat (first | exact Pick.here | apply Pick.there)) (by kernel_rfl) (by kernel_rfl) (by kernel_rfl) ?_; intro wc1 hR hsm1 hsz1))
  have hkp1 : ∀ k, k < wa1.heap.size → wc1.heap[k]? = wa1.heap[k]? := fun k hk => by rw [hsm1 k (by omega), hbw1.block k hk]
  have HS1 : Hid (SlH wc1 Q.hs ad1 c1) := Lib.hid (hs1.keep hkp1)
  clear hs1 hb1 hbw1 hgw1 hsm1 hsz1 hkp1
  go_upto_region 3 with (first
    | (go_at_call 11; refine (HQ.out _ hR.below).mono ?_; rintro e wa2 ⟨ad2, c2, rfl, hs2, hb2⟩; have hR := hR.call hb2)
    | (refine wQ_alloc (cs := zQ) rfl _ (by rfl) (by exact hR) zero_rq ?_; intro g8 wb2 hR hbw2 hgw2)
    | (refine wQ_store rfl _ _ _ (by rfl) (by exact hR) g8 rfl (rqC Q ad2 c2) (by rfl) _ _ _ (by repeat (first | exact Pick.here | apply Pick.there)) (by kernel_rfl) (by kernel_rfl) (by kernel_rfl) ?_; intro wc2 hR hsm2 hsz2))
  have hkp2 : ∀ k, k < wa2.heap.size → wc2.heap[k]? = wa2.heap[k]? := fun k hk => by rw [hsm2 k (by omega), hbw2.block k hk]
  have HS2 : Hid (SlH wc2 Q.hs ad2 c2) := Lib.hid (hs2.keep hkp2)
  have HS1b : Hid (SlH wc2 Q.hs ad1 c1) := Lib.hid ((HS1.out.keep (fun k hk => hb2.block k hk)).keep hkp2)
  clear hs2 hb2 hbw2 hgw2 hsm2 hsz2 hkp2
  have HSM : Hid (∀ u, Below wc2.heap.size wc2 u → Calls Tryz.prog 12 #[.agg (rqC Q ad1 c1), .agg (rqC Q ad2 c2)] u (RW (Is (.bool true)) u)) := Lib.hid fun u hb => (same_any Q ad1 ad2 c1 c2 u (HS1b.out.grown hb) (HS2.out.grown hb)).mono fun _ _ h => rw_below h
  have HLA : Hid (∀ u, Below wc2.heap.size wc2 u → Calls Tryz.prog 13 #[.agg (rqC Q ad1 c1)] u (RW (Is (.string (bs L))) u)) := Lib.hid fun u hb => by rw [HL.out]; exact (Label_any Q ad1 c1 u (HS1b.out.grown hb) HSL.out HLB.out).mono fun _ _ h => rw_below h
  have HLR : Hid (∀ u, Below wc2.heap.size wc2 u → Calls Tryz.prog 14 #[.agg (rqC Q ad2 c2)] u (RW (Is (.string (bs L))) u)) := Lib.hid fun u hb => by rw [HL.out]; exact (LabelR_any Q ad2 c2 u (HS2.out.grown hb) HSL.out).mono fun _ _ h => rw_below h
  have HGE : Hid (∀ u, Below wc2.heap.size wc2 u → Calls Tryz.prog 16 #[.agg (rqC Q ad1 c1), .string (bs name)] u (RW (GetAt G) u)) := Lib.hid fun u hb => by rw [HG.out]; exact (Get_any Q ad1 c1 name u (HS1b.out.grown hb) HSL.out).mono fun _ _ h => rw_get h
  have HGR : Hid (∀ u, Below wc2.heap.size wc2 u → Calls Tryz.prog 17 #[.agg (rqC Q ad2 c2), .string (bs name)] u (RW (GetAt G) u)) := Lib.hid fun u hb => by rw [HG.out]; exact (GetR_any Q ad2 c2 name u (HS2.out.grown hb) HSL.out).mono fun _ _ h => rw_get h
  have HST : Hid (∀ (u : World) (v v' : Value), GetAt G u v → GetAt G u v' → Calls Tryz.prog 15 #[v, v'] u fun e w' => ∃ r, e = .returned r ∧ Is (.bool true) w' r ∧ Below u.heap.size u w') := Lib.hid fun u v v' h1 h2 => by
    obtain ⟨a1, k1, rfl, s1⟩ := h1
    obtain ⟨a2, k2, rfl, s2⟩ := h2
    exact (sameT_any G a1 a2 k1 k2 u s1 s2).mono fun _ _ h => rw_below h
  have HBW := Lib.hid hR.below
  have HFX : Hid (∀ u, Below wc2.heap.size wc2 u → Calls Tryz.prog 18 #[] u (RW (Is (.bool true)) u)) := Lib.hid fun u hb => (fixed_any u (HGW.out.below (HBW.out.trans (hb.mono HBW.out.size)))).mono fun _ _ h => rw_below h
  go_upto_region 3 with fail
  refine wp_region_softG 32 (by kernel_rfl) (by kernel_rfl) (by rfl) hR ?_
  refine g_ldw (g := g5) (cs := (rqC Q ad1 c1)) (R := Is (.agg (rqC Q ad1 c1))) (by rfl) (by exact fun _ _ _ h => h) (by repeat (first | exact List.Mem.head _ | refine List.Mem.tail _ ?_)) Tryz.underlying24 rfl rq_inf (stb_is _) (by exact fun _ _ => rfl) ?_
  refine g_ldw (g := g8) (cs := (rqC Q ad2 c2)) (R := Is (.agg (rqC Q ad2 c2))) (by rfl) (by exact fun _ _ _ h => h) (by repeat (first | exact List.Mem.head _ | refine List.Mem.tail _ ?_)) Tryz.underlying24 rfl rq_inf (stb_is _) (by exact fun _ _ => rfl) ?_
  refine g_callK (f := 12) (xs := [.tmp 23, .tmp 24]) [.agg (rqC Q ad1 c1), .agg (rqC Q ad2 c2)] (R := Is (.bool true)) (by rfl) Tryz.func12 (by kernel_rfl) rfl (stb_is _) ⟨(by exact fun _ _ _ h => h), (by exact fun _ _ _ h => h), trivial⟩ (HSM.out) ?_
  refine g_move (R := Is (.bool true)) (by rfl) (stb_is _) (by exact fun _ _ _ h => h) ?_
  refine g_move (R := Is (.int .i64 (n : Nat))) (by rfl) (stb_is _) (by exact fun _ _ _ h => h) ?_
  refine g_move (R := Is (.int .i64 (n : Nat))) (by rfl) (stb_is _) (by exact fun _ _ _ h => h) ?_
  refine g_bin (v := .int .i64 (n : Nat)) (u := .int .i64 (n : Nat)) (r := .bool true) (by rfl) (by exact fun _ _ _ h => h) (by exact fun _ _ _ h => h) (by rfl) (fun W => bin_eqi (r := true) _ _ (by simp) W) ?_
  refine g_pick (b := true) (R := Is (.bool true)) (by rfl) (by exact fun _ _ _ h => h) (stb_is _) (by exact fun _ _ _ h => h) ?_
  refine g_move (R := Is (.bool true)) (by rfl) (stb_is _) (by exact fun _ _ _ h => h) ?_
  refine g_move (R := Is (.int .i64 E)) (by rfl) (stb_is _) (by exact fun _ _ _ h => h) ?_
  refine g_move (R := Is (.int .i64 E)) (by rfl) (stb_is _) (by exact fun _ _ _ h => h) ?_
  refine g_bin (v := .int .i64 E) (u := .int .i64 E) (r := .bool true) (by rfl) (by exact fun _ _ _ h => h) (by exact fun _ _ _ h => h) (by rfl) (fun W => bin_eqe (r := true) _ _ (by simp) W) ?_
  refine g_pick (b := true) (R := Is (.bool true)) (by rfl) (by exact fun _ _ _ h => h) (stb_is _) (by exact fun _ _ _ h => h) ?_
  refine g_move (R := Is (.bool true)) (by rfl) (stb_is _) (by exact fun _ _ _ h => h) ?_
  refine g_ldw (g := g5) (cs := (rqC Q ad1 c1)) (R := Is (.agg (rqC Q ad1 c1))) (by rfl) (by exact fun _ _ _ h => h) (by repeat (first | exact List.Mem.head _ | refine List.Mem.tail _ ?_)) Tryz.underlying24 rfl rq_inf (stb_is _) (by exact fun _ _ => rfl) ?_
  refine g_callK (f := 13) (xs := [.tmp 37]) [.agg (rqC Q ad1 c1)] (R := Is (.string (bs L))) (by rfl) Tryz.func13 (by kernel_rfl) rfl (stb_is _) ⟨(by exact fun _ _ _ h => h), trivial⟩ (HLA.out) ?_
  refine g_ldw (g := g8) (cs := (rqC Q ad2 c2)) (R := Is (.agg (rqC Q ad2 c2))) (by rfl) (by exact fun _ _ _ h => h) (by repeat (first | exact List.Mem.head _ | refine List.Mem.tail _ ?_)) Tryz.underlying24 rfl rq_inf (stb_is _) (by exact fun _ _ => rfl) ?_
  refine g_callK (f := 14) (xs := [.tmp 39]) [.agg (rqC Q ad2 c2)] (R := Is (.string (bs L))) (by rfl) Tryz.func14 (by kernel_rfl) rfl (stb_is _) ⟨(by exact fun _ _ _ h => h), trivial⟩ (HLR.out) ?_
  refine g_bin (v := .string (bs L)) (u := .string (bs L)) (r := .bool true) (by rfl) (by exact fun _ _ _ h => h) (by exact fun _ _ _ h => h) (by rfl) (fun W => bin_eqs (r := true) _ _ (by simp) W) ?_
  refine g_pick (b := true) (R := Is (.bool true)) (by rfl) (by exact fun _ _ _ h => h) (stb_is _) (by exact fun _ _ _ h => h) ?_
  refine g_move (R := Is (.bool true)) (by rfl) (stb_is _) (by exact fun _ _ _ h => h) ?_
  refine g_ldw (g := g5) (cs := (rqC Q ad1 c1)) (R := Is (.agg (rqC Q ad1 c1))) (by rfl) (by exact fun _ _ _ h => h) (by repeat (first | exact List.Mem.head _ | refine List.Mem.tail _ ?_)) Tryz.underlying24 rfl rq_inf (stb_is _) (by exact fun _ _ => rfl) ?_
  refine g_move (R := Is (.string (bs name))) (by rfl) (stb_is _) (by exact fun _ _ _ h => h) ?_
  refine g_callK (f := 16) (xs := [.tmp 44, .tmp 45]) [.agg (rqC Q ad1 c1), .string (bs name)] (R := (GetAt G)) (by rfl) Tryz.func16 (by kernel_rfl) rfl (stb_get _) ⟨(by exact fun _ _ _ h => h), (by exact fun _ _ _ h => h), trivial⟩ (HGE.out) ?_
  refine g_ldw (g := g8) (cs := (rqC Q ad2 c2)) (R := Is (.agg (rqC Q ad2 c2))) (by rfl) (by exact fun _ _ _ h => h) (by repeat (first | exact List.Mem.head _ | refine List.Mem.tail _ ?_)) Tryz.underlying24 rfl rq_inf (stb_is _) (by exact fun _ _ => rfl) ?_
  refine g_move (R := Is (.string (bs name))) (by rfl) (stb_is _) (by exact fun _ _ _ h => h) ?_
  refine g_callK (f := 17) (xs := [.tmp 47, .tmp 48]) [.agg (rqC Q ad2 c2), .string (bs name)] (R := (GetAt G)) (by rfl) Tryz.func17 (by kernel_rfl) rfl (stb_get _) ⟨(by exact fun _ _ _ h => h), (by exact fun _ _ _ h => h), trivial⟩ (HGR.out) ?_
  refine g_call2 (f := 15) (A := (GetAt G)) (A' := (GetAt G)) (R := Is (.bool true)) (by rfl) Tryz.func15 (by kernel_rfl) rfl (stb_is _) (by exact fun _ _ _ h => h) (by exact fun _ _ _ h => h) (HST.out) ?_
  refine g_pick (b := true) (R := Is (.bool true)) (by rfl) (by exact fun _ _ _ h => h) (stb_is _) (by exact fun _ _ _ h => h) ?_
  refine g_move (R := Is (.bool true)) (by rfl) (stb_is _) (by exact fun _ _ _ h => h) ?_
  refine g_callK (f := 18) (xs := []) [] (R := Is (.bool true)) (by rfl) Tryz.func18 (by kernel_rfl) rfl (stb_is _) trivial (HFX.out) ?_
  refine g_pick (b := true) (R := Is (.bool true)) (by rfl) (by exact fun _ _ _ h => h) (stb_is _) (by exact fun _ _ _ h => h) ?_
  intro w9 hR9 hb9 v23 h23 v24 h24 v25 h25 v26 h26 v27 h27 v28 h28 v29 h29 v30 h30 v31 h31 v32 h32 v33 h33 v34 h34 v35 h35 v36 h36 v37 h37 v38 h38 v39 h39 v40 h40 v41 h41 v42 h42 v43 h43 v44 h44 v45 h45 v46 h46 v47 h47 v48 h48 v49 h49 v50 h50 v51 h51 v52 h52 v53 h53 v54 h54
  simp only [softEnd, Act.put, List.setIfInBounds_toArray, List.set_cons_succ, List.set_cons_zero, List.drop_succ_cons, List.drop_zero]
  obtain rfl : v54 = .bool true := h54
  clear h23 h24 h25 h26 h27 h28 h29 h30 h31 h32 h33 h34 h35 h36 h37 h38 h39 h40 h41 h42 h43 h44 h45 h46 h47 h48 h49 h50 h51 h52 h53
  go_wp2_with fail
  go_ret
  exact ⟨rfl, hR9.below⟩
end Go.Proofs.YtipjkjcmceeaeaaGreatDoor.httpReads
