/- HttpWrites: the law's walk. -/
import Derived.Test.YtipjkjcmceeaeaaGreatDoorYLawKit
import Derived.Test.YtipjkjcmceeaeaaGreatDoorYIdx
import Derived.Test.YtipjkjcmceeaeaaGreatDoorYPChk
namespace Go.Proofs.YtipjkjcmceeaeaaGreatDoor.httpWrites
open Go.RowKit

set_option maxRecDepth 100000 in
set_option maxHeartbeats 8000000 in
theorem law_any (q : Rq) (ad : Option Addr) (c : Nat) (r : Rp) (w : World) (hs : SlH w q.hs ad c) (hq : SmallQ q) (hn : r.n.length ≤ 1048576) (hbo : r.b.length ≤ 1048576) (hgw : Gw w) : Calls Tryz.prog 5 #[rqv q ad c, rpv r] w (RetB true w) := by
  have hMX := MX_eq
  have hR := Rws.start w
  have HP0 : ∀ u, Below w.heap.size w u → Calls Tryz.prog 19 #[rqv q ad c] u (RetSE (printS q) u) := fun u hb => Print_any q ad c u (hs.grown hb) hq (hgw.below hb)
  have HQ0 : ∀ u, Below w.heap.size w u → Calls Tryz.prog 20 #[rqv q ad c] u (RetSE (printS q) u) := fun u hb => PrintR_any q ad c u (hs.grown hb) hq
  have HA0 : ∀ u, Below w.heap.size w u → Calls Tryz.prog 21 #[rpv r] u (RetSE (answerS r) u) := fun u hb => Answer_any r u hn hbo (hgw.below hb)
  have HB0 : ∀ u, Below w.heap.size w u → Calls Tryz.prog 22 #[rpv r] u (RetSE (answerS r) u) := fun u _ => AnswerR_any r u hn hbo
  obtain ⟨V, hV⟩ : ∃ V, V = printS q := ⟨_, rfl⟩
  rw [← hV] at HP0 HQ0
  obtain ⟨S, E⟩ := V
  obtain ⟨V2, hV2⟩ : ∃ V, V = answerS r := ⟨_, rfl⟩
  rw [← hV2] at HA0 HB0
  obtain ⟨A, G⟩ := V2
  obtain ⟨K, hK⟩ : ∃ K, K = checkS q := ⟨_, rfl⟩
  obtain ⟨L, hL⟩ : ∃ L, L = labelS q := ⟨_, rfl⟩
  have HP : Hid (∀ u, Below w.heap.size w u → Calls Tryz.prog 19 #[.agg (rqC q ad c)] u fun e w' => e = .returned (.tuple #[.string (bs S), .int .i64 E]) ∧ Below u.heap.size u w') := Lib.hid HP0
  have HQ : Hid (∀ u, Below w.heap.size w u → Calls Tryz.prog 20 #[.agg (rqC q ad c)] u fun e w' => e = .returned (.tuple #[.string (bs S), .int .i64 E]) ∧ Below u.heap.size u w') := Lib.hid HQ0
  have HA : Hid (∀ u, Below w.heap.size w u → Calls Tryz.prog 21 #[.agg (rpC r)] u fun e w' => e = .returned (.tuple #[.string (bs A), .int .i64 G]) ∧ Below u.heap.size u w') := Lib.hid HA0
  have HB : Hid (∀ u, Below w.heap.size w u → Calls Tryz.prog 22 #[.agg (rpC r)] u fun e w' => e = .returned (.tuple #[.string (bs A), .int .i64 G]) ∧ Below u.heap.size u w') := Lib.hid HB0
  have HC0 : Hid (∀ u, Below w.heap.size w u → Calls Tryz.prog 23 #[.agg (rqC q ad c)] u (RW (Is (.int .i64 K)) u)) := Lib.hid fun u hb => by rw [hK]; exact (Check_any q ad c u (hs.grown hb) hq (hgw.below hb)).mono fun _ _ h => rw_below h
  have HD0 : Hid (∀ u, Below w.heap.size w u → Calls Tryz.prog 24 #[.agg (rqC q ad c)] u (RW (Is (.int .i64 K)) u)) := Lib.hid fun u hb => by rw [hK]; exact (CheckR_any q ad c u (hs.grown hb) hq).mono fun _ _ h => rw_below h
  have HLA0 : Hid (∀ u, Below w.heap.size w u → Calls Tryz.prog 13 #[.agg (rqC q ad c)] u (RW (Is (.string (bs L))) u)) := Lib.hid fun u hb => by rw [hL]; exact (Label_all q ad c u (hs.grown hb) hq).mono fun _ _ h => rw_below h
  have HLR0 : Hid (∀ u, Below w.heap.size w u → Calls Tryz.prog 14 #[.agg (rqC q ad c)] u (RW (Is (.string (bs L))) u)) := Lib.hid fun u hb => by rw [hL]; exact (LabelR_any q ad c u (hs.grown hb) hq).mono fun _ _ h => rw_below h
  have HFX0 : Hid (∀ u, Below w.heap.size w u → Calls Tryz.prog 18 #[] u (RW (Is (.bool true)) u)) := Lib.hid fun u hb => (fixed_any u (hgw.below hb)).mono fun _ _ h => rw_below h
  clear hV hV2 hK hL HP0 HQ0 HA0 HB0 hgw hs hq hn hbo
  go_enter Tryz.func5, Tryz.ntmps5
  go_upto_region 5 with (first
    | (refine wpList_box_rws rfl _ _ (by rfl) (by exact hR) (rqC q ad c) rfl ?_; intro gq w1 hR)
    | (refine wpList_box_rws rfl _ _ (by rfl) (by exact hR) (rpC r) rfl ?_; intro gr w2 hR)
    | (refine wpList_load_rws rfl _ _ (by rfl) (by exact hR) gq rfl _ _ (by repeat (first | exact List.Mem.head _ | refine List.Mem.tail _ ?_)) _ Tryz.underlying24 rfl (by kernel_rfl) ?_)
    | (refine wpList_load_rws rfl _ _ (by rfl) (by exact hR) gr rfl _ _ (by repeat (first | exact List.Mem.head _ | refine List.Mem.tail _ ?_)) _ Tryz.underlying36 rfl (by kernel_rfl) ?_)
    | (go_at_call 19; refine (HP.out _ hR.below).mono ?_; rintro e wa ⟨rfl, hb⟩; have hR := hR.call hb; clear hb)
    | (go_at_call 20; refine (HQ.out _ hR.below).mono ?_; rintro e wb ⟨rfl, hb⟩; have hR := hR.call hb; clear hb)
    | (go_at_call 21; refine (HA.out _ hR.below).mono ?_; rintro e wc ⟨rfl, hb⟩; have hR := hR.call hb; clear hb)
    | (go_at_call 22; refine (HB.out _ hR.below).mono ?_; rintro e wd ⟨rfl, hb⟩; have hR := hR.call hb; clear hb))
  have HBW := hR.below
  have up : ∀ u, Below wd.heap.size wd u → Below w.heap.size w u := fun u hb => HBW.trans (hb.mono HBW.size)
  have HC := Lib.hid (fun u hb => HC0.out u (up u hb))
  have HD := Lib.hid (fun u hb => HD0.out u (up u hb))
  have HLA := Lib.hid (fun u hb => HLA0.out u (up u hb))
  have HLR := Lib.hid (fun u hb => HLR0.out u (up u hb))
  have HFX := Lib.hid (fun u hb => HFX0.out u (up u hb))
  clear HBW up HC0 HD0 HLA0 HLR0 HFX0
  refine wp_region_softG 35 (by kernel_rfl) (by kernel_rfl) (by rfl) hR ?_
  refine g_move (R := Is (.string (bs S))) (by rfl) (stb_is _) (by exact fun _ _ _ h => h) ?_
  refine g_move (R := Is (.string (bs S))) (by rfl) (stb_is _) (by exact fun _ _ _ h => h) ?_
  refine g_bin (v := .string (bs S)) (u := .string (bs S)) (r := .bool true) (by rfl) (by exact fun _ _ _ h => h) (by exact fun _ _ _ h => h) (by rfl) (fun W => bin_eqs (r := true) _ _ (by simp) W) ?_
  refine g_move (R := Is (.bool true)) (by rfl) (stb_is _) (by exact fun _ _ _ h => h) ?_
  refine g_move (R := Is (.int .i64 E)) (by rfl) (stb_is _) (by exact fun _ _ _ h => h) ?_
  refine g_move (R := Is (.int .i64 E)) (by rfl) (stb_is _) (by exact fun _ _ _ h => h) ?_
  refine g_bin (v := .int .i64 E) (u := .int .i64 E) (r := .bool true) (by rfl) (by exact fun _ _ _ h => h) (by exact fun _ _ _ h => h) (by rfl) (fun W => bin_eqe (r := true) _ _ (by simp) W) ?_
  refine g_pick (b := true) (R := Is (.bool true)) (by rfl) (by exact fun _ _ _ h => h) (stb_is _) (by exact fun _ _ _ h => h) ?_
  refine g_move (R := Is (.bool true)) (by rfl) (stb_is _) (by exact fun _ _ _ h => h) ?_
  refine g_ldw (g := gq) (cs := (rqC q ad c)) (R := Is (.agg (rqC q ad c))) (by rfl) (by exact fun _ _ _ h => h) (by repeat (first | exact List.Mem.head _ | refine List.Mem.tail _ ?_)) Tryz.underlying24 rfl rq_inf (stb_is _) (by exact fun _ _ => rfl) ?_
  refine g_callK (f := 23) (xs := [.tmp 42]) [.agg (rqC q ad c)] (R := Is (.int .i64 K)) (by rfl) Tryz.func23 (by kernel_rfl) rfl (stb_is _) ⟨(by exact fun _ _ _ h => h), trivial⟩ (HC.out) ?_
  refine g_ldw (g := gq) (cs := (rqC q ad c)) (R := Is (.agg (rqC q ad c))) (by rfl) (by exact fun _ _ _ h => h) (by repeat (first | exact List.Mem.head _ | refine List.Mem.tail _ ?_)) Tryz.underlying24 rfl rq_inf (stb_is _) (by exact fun _ _ => rfl) ?_
  refine g_callK (f := 24) (xs := [.tmp 44]) [.agg (rqC q ad c)] (R := Is (.int .i64 K)) (by rfl) Tryz.func24 (by kernel_rfl) rfl (stb_is _) ⟨(by exact fun _ _ _ h => h), trivial⟩ (HD.out) ?_
  refine g_bin (v := .int .i64 K) (u := .int .i64 K) (r := .bool true) (by rfl) (by exact fun _ _ _ h => h) (by exact fun _ _ _ h => h) (by rfl) (fun W => bin_eqe (r := true) _ _ (by simp) W) ?_
  refine g_pick (b := true) (R := Is (.bool true)) (by rfl) (by exact fun _ _ _ h => h) (stb_is _) (by exact fun _ _ _ h => h) ?_
  refine g_move (R := Is (.bool true)) (by rfl) (stb_is _) (by exact fun _ _ _ h => h) ?_
  refine g_move (R := Is (.string (bs A))) (by rfl) (stb_is _) (by exact fun _ _ _ h => h) ?_
  refine g_move (R := Is (.string (bs A))) (by rfl) (stb_is _) (by exact fun _ _ _ h => h) ?_
  refine g_bin (v := .string (bs A)) (u := .string (bs A)) (r := .bool true) (by rfl) (by exact fun _ _ _ h => h) (by exact fun _ _ _ h => h) (by rfl) (fun W => bin_eqs (r := true) _ _ (by simp) W) ?_
  refine g_pick (b := true) (R := Is (.bool true)) (by rfl) (by exact fun _ _ _ h => h) (stb_is _) (by exact fun _ _ _ h => h) ?_
  refine g_move (R := Is (.bool true)) (by rfl) (stb_is _) (by exact fun _ _ _ h => h) ?_
  refine g_move (R := Is (.int .i64 G)) (by rfl) (stb_is _) (by exact fun _ _ _ h => h) ?_
  refine g_move (R := Is (.int .i64 G)) (by rfl) (stb_is _) (by exact fun _ _ _ h => h) ?_
  refine g_bin (v := .int .i64 G) (u := .int .i64 G) (r := .bool true) (by rfl) (by exact fun _ _ _ h => h) (by exact fun _ _ _ h => h) (by rfl) (fun W => bin_eqe (r := true) _ _ (by simp) W) ?_
  refine g_pick (b := true) (R := Is (.bool true)) (by rfl) (by exact fun _ _ _ h => h) (stb_is _) (by exact fun _ _ _ h => h) ?_
  refine g_move (R := Is (.bool true)) (by rfl) (stb_is _) (by exact fun _ _ _ h => h) ?_
  refine g_ldw (g := gq) (cs := (rqC q ad c)) (R := Is (.agg (rqC q ad c))) (by rfl) (by exact fun _ _ _ h => h) (by repeat (first | exact List.Mem.head _ | refine List.Mem.tail _ ?_)) Tryz.underlying24 rfl rq_inf (stb_is _) (by exact fun _ _ => rfl) ?_
  refine g_callK (f := 13) (xs := [.tmp 59]) [.agg (rqC q ad c)] (R := Is (.string (bs L))) (by rfl) Tryz.func13 (by kernel_rfl) rfl (stb_is _) ⟨(by exact fun _ _ _ h => h), trivial⟩ (HLA.out) ?_
  refine g_ldw (g := gq) (cs := (rqC q ad c)) (R := Is (.agg (rqC q ad c))) (by rfl) (by exact fun _ _ _ h => h) (by repeat (first | exact List.Mem.head _ | refine List.Mem.tail _ ?_)) Tryz.underlying24 rfl rq_inf (stb_is _) (by exact fun _ _ => rfl) ?_
  refine g_callK (f := 14) (xs := [.tmp 61]) [.agg (rqC q ad c)] (R := Is (.string (bs L))) (by rfl) Tryz.func14 (by kernel_rfl) rfl (stb_is _) ⟨(by exact fun _ _ _ h => h), trivial⟩ (HLR.out) ?_
  refine g_bin (v := .string (bs L)) (u := .string (bs L)) (r := .bool true) (by rfl) (by exact fun _ _ _ h => h) (by exact fun _ _ _ h => h) (by rfl) (fun W => bin_eqs (r := true) _ _ (by simp) W) ?_
  refine g_pick (b := true) (R := Is (.bool true)) (by rfl) (by exact fun _ _ _ h => h) (stb_is _) (by exact fun _ _ _ h => h) ?_
  refine g_move (R := Is (.bool true)) (by rfl) (stb_is _) (by exact fun _ _ _ h => h) ?_
  refine g_callK (f := 18) (xs := []) [] (R := Is (.bool true)) (by rfl) Tryz.func18 (by kernel_rfl) rfl (stb_is _) trivial (HFX.out) ?_
  refine g_pick (b := true) (R := Is (.bool true)) (by rfl) (by exact fun _ _ _ h => h) (stb_is _) (by exact fun _ _ _ h => h) ?_
  intro w9 hR9 hb9 v33 h33 v34 h34 v35 h35 v36 h36 v37 h37 v38 h38 v39 h39 v40 h40 v41 h41 v42 h42 v43 h43 v44 h44 v45 h45 v46 h46 v47 h47 v48 h48 v49 h49 v50 h50 v51 h51 v52 h52 v53 h53 v54 h54 v55 h55 v56 h56 v57 h57 v58 h58 v59 h59 v60 h60 v61 h61 v62 h62 v63 h63 v64 h64 v65 h65 v66 h66 v67 h67
  simp only [softEnd, Act.put, List.setIfInBounds_toArray, List.set_cons_succ, List.set_cons_zero, List.drop_succ_cons, List.drop_zero]
  obtain rfl : v67 = .bool true := h67
  clear h33 h34 h35 h36 h37 h38 h39 h40 h41 h42 h43 h44 h45 h46 h47 h48 h49 h50 h51 h52 h53 h54 h55 h56 h57 h58 h59 h60 h61 h62 h63 h64 h65 h66
  go_wp2_with fail
  go_ret
  exact ⟨rfl, hR9.below⟩
end Go.Proofs.YtipjkjcmceeaeaaGreatDoor.httpWrites
