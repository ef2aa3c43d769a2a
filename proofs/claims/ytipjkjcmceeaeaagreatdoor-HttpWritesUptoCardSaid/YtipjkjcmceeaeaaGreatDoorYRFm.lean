/- ostiaryref15.form: the walk. -/
import Derived.Test.YtipjkjcmceeaeaaGreatDoorYReq
namespace Go.Proofs.YtipjkjcmceeaeaaGreatDoor
open Go.RowKit

set_option maxRecDepth 100000 in
set_option maxHeartbeats 8000000 in
theorem formR_any (q : Rq) (ad : Option Addr) (c : Nat) (w : World) (hs : SlH w q.hs ad c) (hq : SmallQ q) : Calls Tryz.prog 52 #[rqv q ad c] w (RetB (formB q) w) := by
  have hSB := SB_eq
  have hMX := MX_eq
  obtain ⟨hle, hcm, b, f, had, hrow⟩ := hs
  have HROW := Lib.hid hrow
  have hql := hq.k
  have hR := Rws.start w
  have hqm := hq.m
  have hqt := hq.t
  have HS : Hid (∀ u, Below w.heap.size w u → Calls Tryz.prog 77 #[.int .u8 33, .int .u8 126, .int .u8 35] u (RW (Is (.string (bs (spanA 33 35 94)))) u)) := Lib.hid fun u _ => (span_any 33 35 94 rfl u).mono fun _ _ h => rw_below h
  clear hrow
  go_enter Tryz.func52, Tryz.ntmps52
  go_upto_region 1 with (refine wpList_box_rws rfl _ _ (by rfl) (by exact hR) (rqC q ad c) rfl ?_; intro gb w1 hR)
  go_cut [22] (fun s22 wx => s22 = .bool (!lineB q) ∧ Rws w.heap.size w wx [(gb, rqC q ad c, 24)])
  case first =>
    have HB0 : Hid (∀ u, Below w1.heap.size w1 u → u.cell? ⟨gb, 0, none⟩ = some (.string (bs q.m))) := Lib.hid fun u hb => (hb.cell (p := ⟨gb, 0, none⟩) (hR.lt (x := _) (by repeat (first | exact List.Mem.head _ | refine List.Mem.tail _ ?_)))).trans (hR.cellAt (g := gb) (by repeat (first | exact List.Mem.head _ | refine List.Mem.tail _ ?_)) 0 rfl)
    have HB1 : Hid (∀ u, Below w1.heap.size w1 u → u.cell? ⟨gb, 1, none⟩ = some (.string (bs q.t))) := Lib.hid fun u hb => (hb.cell (p := ⟨gb, 1, none⟩) (hR.lt (x := _) (by repeat (first | exact List.Mem.head _ | refine List.Mem.tail _ ?_)))).trans (hR.cellAt (g := gb) (by repeat (first | exact List.Mem.head _ | refine List.Mem.tail _ ?_)) 1 rfl)
    have HS : Hid (∀ u, Below w1.heap.size w1 u → Calls Tryz.prog 77 #[.int .u8 33, .int .u8 126, .int .u8 35] u (RW (Is (.string (bs (spanA 33 35 94)))) u)) := Lib.hid fun u _ => (span_any 33 35 94 rfl u).mono fun _ _ h => rw_below h
    have HM0 : ∀ u, Below w1.heap.size w1 u → Calls Tryz.prog 49 #[.string (bs q.m), .int .i64 1, .int .i64 16, .string ⟨#[65, 66, 67, 68, 69, 70, 71, 72, 73, 74, 75, 76, 77, 78, 79, 80, 81, 82, 83, 84, 85, 86, 87, 88, 89, 90]⟩] u (RW (Is (.bool (ofB 1 16 upC q.m))) u) := fun u _ => (Of_any q.m lUpper upC has_upper 1 16 u (by omega) (by rw [hSB]; decide)).mono fun _ _ h => rw_same h
    have HT0 : ∀ u, Below w1.heap.size w1 u → Calls Tryz.prog 49 #[.string (bs q.t), .int .i64 1, .int .i64 1024, .string (bs (spanA 33 35 94))] u (RW (Is (.bool (ofB 1 1024 taC q.t))) u) := fun u _ => (Of_any q.t (spanA 33 35 94) taC span_target 1 1024 u (by omega) (by rw [hSB]; have := spanA_len 33 35 94; omega)).mono fun _ _ h => rw_same h
    cases hA : ofB 1 16 upC q.m with
    | false =>
      rw [hA] at HM0
      have HM := Lib.hid HM0
      have HLV : Hid (lineB q = false) := Lib.hid (by unfold lineB; rw [hA]; rfl)
      clear hA HM0 HT0
      refine wp_region_softG 16 (by kernel_rfl) (by kernel_rfl) (by rfl) hR ?_
      refine g_fa (g := gb) (k := 0) (off := 0) (by rfl) (by exact fun _ _ _ h => h) Tryz.underlying24 rfl ⟨0, by kernel_rfl⟩ rfl ?_
      refine g_cellw (g := gb) (k := 0) (v := .string (bs q.m)) (R := Is (.string (bs q.m))) (by rfl) (by exact fun _ _ _ h => h) (HB0.out) isAgg_str (stb_is _) (by exact fun _ _ => rfl) ?_
      refine g_callK (f := 49) (xs := [.tmp 7, .const (.int .i64 1), .const (.int .i64 16), .const (.string ⟨#[65, 66, 67, 68, 69, 70, 71, 72, 73, 74, 75, 76, 77, 78, 79, 80, 81, 82, 83, 84, 85, 86, 87, 88, 89, 90]⟩)]) [.string (bs q.m), .int .i64 1, .int .i64 16, .string ⟨#[65, 66, 67, 68, 69, 70, 71, 72, 73, 74, 75, 76, 77, 78, 79, 80, 81, 82, 83, 84, 85, 86, 87, 88, 89, 90]⟩] (R := Is (.bool false)) (by rfl) Tryz.func49 (by kernel_rfl) rfl (stb_is _) ⟨(by exact fun _ _ _ h => h), (by exact fun _ _ _ h => h), (by exact fun _ _ _ h => h), (by exact fun _ _ _ h => h), trivial⟩ (HM.out) ?_
      refine g_not (b := false) (by rfl) (by exact fun _ _ _ h => h) ?_
      refine g_move (R := Is (.bool true)) (by rfl) (stb_is _) (by exact fun _ _ _ h => h) ?_
      refine g_dead (dead_of rfl rfl (fun _ _ _ h => h) (by rfl)) ?_
      refine g_dead (dead_of rfl rfl (fun _ _ _ h => h) (by rfl)) ?_
      refine g_dead (dead_of rfl rfl (fun _ _ _ h => h) (by rfl)) ?_
      refine g_dead (dead_of rfl rfl (fun _ _ _ h => h) (by rfl)) ?_
      refine g_dead (dead_of rfl rfl (fun _ _ _ h => h) (by rfl)) ?_
      refine g_pick (b := true) (R := Is (.bool true)) (by rfl) (by exact fun _ _ _ h => h) (stb_is _) (by exact fun _ _ _ h => h) ?_
      refine g_move (R := Is (.bool true)) (by rfl) (stb_is _) (by exact fun _ _ _ h => h) ?_
      refine g_dead (dead_of rfl rfl (fun _ _ _ h => h) (by rfl)) ?_
      refine g_dead (dead_of rfl rfl (fun _ _ _ h => h) (by rfl)) ?_
      refine g_dead (dead_of rfl rfl (fun _ _ _ h => h) (by rfl)) ?_
      refine g_dead (dead_of rfl rfl (fun _ _ _ h => h) (by rfl)) ?_
      intro w6 hR6 hb6 v6 h6 v7 h7 v8 h8 v9 h9 v10 h10 v11 h11 v12 h12 v13 h13 v14 h14 v15 h15 v16 h16 v17 h17 v18 h18 v19 h19 v20 h20 v21 h21
      simp only [softEnd, Act.put, List.setIfInBounds_toArray, List.set_cons_succ, List.set_cons_zero, List.drop_succ_cons, List.drop_zero]
      obtain rfl : v17 = .bool true := h17
      obtain rfl : v21 = undef := h21
      clear h6 h7 h8 h9 h10 h11 h12 h13 h14 h15 h16 h18 h19 h20
      go_wp2_with fail
      go_meet
      exact ⟨by rw [HLV.out]; rfl, hR6⟩
    | true =>
      rw [hA] at HM0
      have HM := Lib.hid HM0
      cases hB : ofB 1 1024 taC q.t with
      | false =>
        rw [hB] at HT0
        have HT := Lib.hid HT0
        have HLV : Hid (lineB q = false) := Lib.hid (by unfold lineB; rw [hA, hB]; rfl)
        clear hA hB HM0 HT0
        refine wp_region_softG 16 (by kernel_rfl) (by kernel_rfl) (by rfl) hR ?_
        refine g_fa (g := gb) (k := 0) (off := 0) (by rfl) (by exact fun _ _ _ h => h) Tryz.underlying24 rfl ⟨0, by kernel_rfl⟩ rfl ?_
        refine g_cellw (g := gb) (k := 0) (v := .string (bs q.m)) (R := Is (.string (bs q.m))) (by rfl) (by exact fun _ _ _ h => h) (HB0.out) isAgg_str (stb_is _) (by exact fun _ _ => rfl) ?_
        refine g_callK (f := 49) (xs := [.tmp 7, .const (.int .i64 1), .const (.int .i64 16), .const (.string ⟨#[65, 66, 67, 68, 69, 70, 71, 72, 73, 74, 75, 76, 77, 78, 79, 80, 81, 82, 83, 84, 85, 86, 87, 88, 89, 90]⟩)]) [.string (bs q.m), .int .i64 1, .int .i64 16, .string ⟨#[65, 66, 67, 68, 69, 70, 71, 72, 73, 74, 75, 76, 77, 78, 79, 80, 81, 82, 83, 84, 85, 86, 87, 88, 89, 90]⟩] (R := Is (.bool true)) (by rfl) Tryz.func49 (by kernel_rfl) rfl (stb_is _) ⟨(by exact fun _ _ _ h => h), (by exact fun _ _ _ h => h), (by exact fun _ _ _ h => h), (by exact fun _ _ _ h => h), trivial⟩ (HM.out) ?_
        refine g_not (b := true) (by rfl) (by exact fun _ _ _ h => h) ?_
        refine g_move (R := Is (.bool false)) (by rfl) (stb_is _) (by exact fun _ _ _ h => h) ?_
        refine g_fa (g := gb) (k := 0) (off := 1) (by rfl) (by exact fun _ _ _ h => h) Tryz.underlying24 rfl ⟨0, by kernel_rfl⟩ rfl ?_
        refine g_cellw (g := gb) (k := 1) (v := .string (bs q.t)) (R := Is (.string (bs q.t))) (by rfl) (by exact fun _ _ _ h => h) (HB1.out) isAgg_str (stb_is _) (by exact fun _ _ => rfl) ?_
        refine g_callK (f := 77) (xs := [.const (.int .u8 33), .const (.int .u8 126), .const (.int .u8 35)]) [.int .u8 33, .int .u8 126, .int .u8 35] (R := Is (.string (bs (spanA 33 35 94)))) (by rfl) Tryz.func77 (by kernel_rfl) rfl (stb_is _) ⟨(by exact fun _ _ _ h => h), (by exact fun _ _ _ h => h), (by exact fun _ _ _ h => h), trivial⟩ (HS.out) ?_
        refine g_callK (f := 49) (xs := [.tmp 12, .const (.int .i64 1), .const (.int .i64 1024), .tmp 13]) [.string (bs q.t), .int .i64 1, .int .i64 1024, .string (bs (spanA 33 35 94))] (R := Is (.bool false)) (by rfl) Tryz.func49 (by kernel_rfl) rfl (stb_is _) ⟨(by exact fun _ _ _ h => h), (by exact fun _ _ _ h => h), (by exact fun _ _ _ h => h), (by exact fun _ _ _ h => h), trivial⟩ (HT.out) ?_
        refine g_not (b := false) (by rfl) (by exact fun _ _ _ h => h) ?_
        refine g_pick (b := false) (R := Is (.bool true)) (by rfl) (by exact fun _ _ _ h => h) (stb_is _) (by exact fun _ _ _ h => h) ?_
        refine g_move (R := Is (.bool true)) (by rfl) (stb_is _) (by exact fun _ _ _ h => h) ?_
        refine g_dead (dead_of rfl rfl (fun _ _ _ h => h) (by rfl)) ?_
        refine g_dead (dead_of rfl rfl (fun _ _ _ h => h) (by rfl)) ?_
        refine g_dead (dead_of rfl rfl (fun _ _ _ h => h) (by rfl)) ?_
        refine g_dead (dead_of rfl rfl (fun _ _ _ h => h) (by rfl)) ?_
        intro w6 hR6 hb6 v6 h6 v7 h7 v8 h8 v9 h9 v10 h10 v11 h11 v12 h12 v13 h13 v14 h14 v15 h15 v16 h16 v17 h17 v18 h18 v19 h19 v20 h20 v21 h21
        simp only [softEnd, Act.put, List.setIfInBounds_toArray, List.set_cons_succ, List.set_cons_zero, List.drop_succ_cons, List.drop_zero]
        obtain rfl : v17 = .bool true := h17
        obtain rfl : v21 = undef := h21
        clear h6 h7 h8 h9 h10 h11 h12 h13 h14 h15 h16 h18 h19 h20
        go_wp2_with fail
        go_meet
        exact ⟨by rw [HLV.out]; rfl, hR6⟩
      | true =>
        rw [hB] at HT0
        have HT := Lib.hid HT0
        have hne : q.t ≠ [] := fun e => by rw [e] at hB; exact absurd hB (by decide)
        obtain ⟨x, r, hxr⟩ := List.exists_cons_of_ne_nil hne
        have HX0 : Hid ((bs q.t).data.toList[0]? = some x) := Lib.hid (by rw [bs_data, hxr]; rfl)
        by_cases hx : x = 47
        · have HX : Hid (((x.toNat : Int) == 47) = true) := Lib.hid (by rw [hx]; rfl)
          have HLV : Hid (lineB q = true) := Lib.hid (by unfold lineB; rw [hA, hB, hxr, hx]; rfl)
          clear hA hB HM0 HT0 hne hxr hx
          refine wp_region_softG 16 (by kernel_rfl) (by kernel_rfl) (by rfl) hR ?_
          refine g_fa (g := gb) (k := 0) (off := 0) (by rfl) (by exact fun _ _ _ h => h) Tryz.underlying24 rfl ⟨0, by kernel_rfl⟩ rfl ?_
          refine g_cellw (g := gb) (k := 0) (v := .string (bs q.m)) (R := Is (.string (bs q.m))) (by rfl) (by exact fun _ _ _ h => h) (HB0.out) isAgg_str (stb_is _) (by exact fun _ _ => rfl) ?_
          refine g_callK (f := 49) (xs := [.tmp 7, .const (.int .i64 1), .const (.int .i64 16), .const (.string ⟨#[65, 66, 67, 68, 69, 70, 71, 72, 73, 74, 75, 76, 77, 78, 79, 80, 81, 82, 83, 84, 85, 86, 87, 88, 89, 90]⟩)]) [.string (bs q.m), .int .i64 1, .int .i64 16, .string ⟨#[65, 66, 67, 68, 69, 70, 71, 72, 73, 74, 75, 76, 77, 78, 79, 80, 81, 82, 83, 84, 85, 86, 87, 88, 89, 90]⟩] (R := Is (.bool true)) (by rfl) Tryz.func49 (by kernel_rfl) rfl (stb_is _) ⟨(by exact fun _ _ _ h => h), (by exact fun _ _ _ h => h), (by exact fun _ _ _ h => h), (by exact fun _ _ _ h => h), trivial⟩ (HM.out) ?_
          refine g_not (b := true) (by rfl) (by exact fun _ _ _ h => h) ?_
          refine g_move (R := Is (.bool false)) (by rfl) (stb_is _) (by exact fun _ _ _ h => h) ?_
          refine g_fa (g := gb) (k := 0) (off := 1) (by rfl) (by exact fun _ _ _ h => h) Tryz.underlying24 rfl ⟨0, by kernel_rfl⟩ rfl ?_
          refine g_cellw (g := gb) (k := 1) (v := .string (bs q.t)) (R := Is (.string (bs q.t))) (by rfl) (by exact fun _ _ _ h => h) (HB1.out) isAgg_str (stb_is _) (by exact fun _ _ => rfl) ?_
          refine g_callK (f := 77) (xs := [.const (.int .u8 33), .const (.int .u8 126), .const (.int .u8 35)]) [.int .u8 33, .int .u8 126, .int .u8 35] (R := Is (.string (bs (spanA 33 35 94)))) (by rfl) Tryz.func77 (by kernel_rfl) rfl (stb_is _) ⟨(by exact fun _ _ _ h => h), (by exact fun _ _ _ h => h), (by exact fun _ _ _ h => h), trivial⟩ (HS.out) ?_
          refine g_callK (f := 49) (xs := [.tmp 12, .const (.int .i64 1), .const (.int .i64 1024), .tmp 13]) [.string (bs q.t), .int .i64 1, .int .i64 1024, .string (bs (spanA 33 35 94))] (R := Is (.bool true)) (by rfl) Tryz.func49 (by kernel_rfl) rfl (stb_is _) ⟨(by exact fun _ _ _ h => h), (by exact fun _ _ _ h => h), (by exact fun _ _ _ h => h), (by exact fun _ _ _ h => h), trivial⟩ (HT.out) ?_
          refine g_not (b := true) (by rfl) (by exact fun _ _ _ h => h) ?_
          refine g_pick (b := false) (R := Is (.bool false)) (by rfl) (by exact fun _ _ _ h => h) (stb_is _) (by exact fun _ _ _ h => h) ?_
          refine g_move (R := Is (.bool false)) (by rfl) (stb_is _) (by exact fun _ _ _ h => h) ?_
          refine g_fa (g := gb) (k := 0) (off := 1) (by rfl) (by exact fun _ _ _ h => h) Tryz.underlying24 rfl ⟨0, by kernel_rfl⟩ rfl ?_
          refine g_cellw (g := gb) (k := 1) (v := .string (bs q.t)) (R := Is (.string (bs q.t))) (by rfl) (by exact fun _ _ _ h => h) (HB1.out) isAgg_str (stb_is _) (by exact fun _ _ => rfl) ?_
          refine g_byte (u := x) (i := 0) (by rfl) (by exact fun _ _ _ h => h) (by exact fun _ _ _ h => h) (HX0.out) ?_
          refine g_bin (v := .int .u8 (x.toNat : Nat)) (u := .int .u8 47) (r := .bool false) (by rfl) (by exact fun _ _ _ h => h) (by exact fun _ _ _ h => h) (by rfl) (fun W => bin_neu (r := true) _ _ HX.out W) ?_
          intro w6 hR6 hb6 v6 h6 v7 h7 v8 h8 v9 h9 v10 h10 v11 h11 v12 h12 v13 h13 v14 h14 v15 h15 v16 h16 v17 h17 v18 h18 v19 h19 v20 h20 v21 h21
          simp only [softEnd, Act.put, List.setIfInBounds_toArray, List.set_cons_succ, List.set_cons_zero, List.drop_succ_cons, List.drop_zero]
          obtain rfl : v17 = .bool false := h17
          obtain rfl : v21 = .bool false := h21
          clear h6 h7 h8 h9 h10 h11 h12 h13 h14 h15 h16 h18 h19 h20
          go_wp2_with fail
          go_meet
          exact ⟨by rw [HLV.out]; rfl, hR6⟩
        · have HX : Hid (((x.toNat : Int) == 47) = false) := Lib.hid (by
            have : x.toNat ≠ 47 := fun h => hx (UInt8.toNat_inj.1 (by simpa using h))
            simp; omega)
          have HLV : Hid (lineB q = false) := Lib.hid (by unfold lineB; rw [hA, hB, hxr]; simp [hx])
          clear hA hB HM0 HT0 hne hxr hx
          refine wp_region_softG 16 (by kernel_rfl) (by kernel_rfl) (by rfl) hR ?_
          refine g_fa (g := gb) (k := 0) (off := 0) (by rfl) (by exact fun _ _ _ h => h) Tryz.underlying24 rfl ⟨0, by kernel_rfl⟩ rfl ?_
          refine g_cellw (g := gb) (k := 0) (v := .string (bs q.m)) (R := Is (.string (bs q.m))) (by rfl) (by exact fun _ _ _ h => h) (HB0.out) isAgg_str (stb_is _) (by exact fun _ _ => rfl) ?_
          refine g_callK (f := 49) (xs := [.tmp 7, .const (.int .i64 1), .const (.int .i64 16), .const (.string ⟨#[65, 66, 67, 68, 69, 70, 71, 72, 73, 74, 75, 76, 77, 78, 79, 80, 81, 82, 83, 84, 85, 86, 87, 88, 89, 90]⟩)]) [.string (bs q.m), .int .i64 1, .int .i64 16, .string ⟨#[65, 66, 67, 68, 69, 70, 71, 72, 73, 74, 75, 76, 77, 78, 79, 80, 81, 82, 83, 84, 85, 86, 87, 88, 89, 90]⟩] (R := Is (.bool true)) (by rfl) Tryz.func49 (by kernel_rfl) rfl (stb_is _) ⟨(by exact fun _ _ _ h => h), (by exact fun _ _ _ h => h), (by exact fun _ _ _ h => h), (by exact fun _ _ _ h => h), trivial⟩ (HM.out) ?_
          refine g_not (b := true) (by rfl) (by exact fun _ _ _ h => h) ?_
          refine g_move (R := Is (.bool false)) (by rfl) (stb_is _) (by exact fun _ _ _ h => h) ?_
          refine g_fa (g := gb) (k := 0) (off := 1) (by rfl) (by exact fun _ _ _ h => h) Tryz.underlying24 rfl ⟨0, by kernel_rfl⟩ rfl ?_
          refine g_cellw (g := gb) (k := 1) (v := .string (bs q.t)) (R := Is (.string (bs q.t))) (by rfl) (by exact fun _ _ _ h => h) (HB1.out) isAgg_str (stb_is _) (by exact fun _ _ => rfl) ?_
          refine g_callK (f := 77) (xs := [.const (.int .u8 33), .const (.int .u8 126), .const (.int .u8 35)]) [.int .u8 33, .int .u8 126, .int .u8 35] (R := Is (.string (bs (spanA 33 35 94)))) (by rfl) Tryz.func77 (by kernel_rfl) rfl (stb_is _) ⟨(by exact fun _ _ _ h => h), (by exact fun _ _ _ h => h), (by exact fun _ _ _ h => h), trivial⟩ (HS.out) ?_
          refine g_callK (f := 49) (xs := [.tmp 12, .const (.int .i64 1), .const (.int .i64 1024), .tmp 13]) [.string (bs q.t), .int .i64 1, .int .i64 1024, .string (bs (spanA 33 35 94))] (R := Is (.bool true)) (by rfl) Tryz.func49 (by kernel_rfl) rfl (stb_is _) ⟨(by exact fun _ _ _ h => h), (by exact fun _ _ _ h => h), (by exact fun _ _ _ h => h), (by exact fun _ _ _ h => h), trivial⟩ (HT.out) ?_
          refine g_not (b := true) (by rfl) (by exact fun _ _ _ h => h) ?_
          refine g_pick (b := false) (R := Is (.bool false)) (by rfl) (by exact fun _ _ _ h => h) (stb_is _) (by exact fun _ _ _ h => h) ?_
          refine g_move (R := Is (.bool false)) (by rfl) (stb_is _) (by exact fun _ _ _ h => h) ?_
          refine g_fa (g := gb) (k := 0) (off := 1) (by rfl) (by exact fun _ _ _ h => h) Tryz.underlying24 rfl ⟨0, by kernel_rfl⟩ rfl ?_
          refine g_cellw (g := gb) (k := 1) (v := .string (bs q.t)) (R := Is (.string (bs q.t))) (by rfl) (by exact fun _ _ _ h => h) (HB1.out) isAgg_str (stb_is _) (by exact fun _ _ => rfl) ?_
          refine g_byte (u := x) (i := 0) (by rfl) (by exact fun _ _ _ h => h) (by exact fun _ _ _ h => h) (HX0.out) ?_
          refine g_bin (v := .int .u8 (x.toNat : Nat)) (u := .int .u8 47) (r := .bool true) (by rfl) (by exact fun _ _ _ h => h) (by exact fun _ _ _ h => h) (by rfl) (fun W => bin_neu (r := false) _ _ HX.out W) ?_
          intro w6 hR6 hb6 v6 h6 v7 h7 v8 h8 v9 h9 v10 h10 v11 h11 v12 h12 v13 h13 v14 h14 v15 h15 v16 h16 v17 h17 v18 h18 v19 h19 v20 h20 v21 h21
          simp only [softEnd, Act.put, List.setIfInBounds_toArray, List.set_cons_succ, List.set_cons_zero, List.drop_succ_cons, List.drop_zero]
          obtain rfl : v17 = .bool false := h17
          obtain rfl : v21 = .bool true := h21
          clear h6 h7 h8 h9 h10 h11 h12 h13 h14 h15 h16 h18 h19 h20
          go_wp2_with fail
          go_meet
          exact ⟨by rw [HLV.out]; rfl, hR6⟩
  case rest =>
  obtain ⟨rfl, hR⟩ := hcut
  cases hL : lineB q with
  | false =>
    have HR : Hid (formB q = false) := Lib.hid (by rw [form_line, hL]; rfl)
    clear hL
    go_wp2_with fail
    go_ret
    rw [HR.out]
    exact ⟨rfl, hR.below⟩
  | true =>
    have HFL : Hid (formB q = (q.hs.all fieldB && decide (hosts q.hs = 1))) := Lib.hid (by rw [form_line, hL]; rfl)
    clear hL
    go_upto_region 5 with fail
    go_loopg [3, 4] q.hs.length (fun gg s3 s4 wr => ∃ (i k : Nat), i ≤ q.hs.length ∧ gg = q.hs.length - i ∧ s3 = .int .i64 (k : Nat) ∧ s4 = .int .i64 (i : Nat) ∧ k ≤ i ∧ Aside (k = hosts (q.hs.take i)) ∧ Aside ((q.hs.take i).all fieldB = true) ∧ Aside (Rws w.heap.size w wr [(gb, rqC q ad c, 24)]))
    case atStart => exact ⟨0, 0, Nat.zero_le _, rfl, rfl, rfl, Nat.le_refl _, rfl, rfl, hR⟩
    case round =>
      obtain ⟨i, k, hil, rfl, rfl, rfl, hki, HK, HAL, HRR⟩ := hrel
      have hR := HRR.out
      have f2 := hR.cellAt (g := gb) (List.Mem.head _) 2 rfl
      by_cases hlt : i < q.hs.length
      · have hltz : (i : Int) < (q.hs.length : Int) := by omega
        obtain ⟨h, hh⟩ : ∃ h, q.hs[i]? = some h := ⟨q.hs[i], List.getElem?_eq_getElem hlt⟩
        obtain rfl : ad = some ⟨b, f, none⟩ := by rcases had with h | ⟨_, h⟩; exact h; omega
        obtain ⟨e0, e1⟩ := hd_cells (HROW.out) hh
        have c0 := (hR.below.cell (p := ⟨b, f + i * 2, none⟩) (World.block_lt_of_cell? w _ e0)).trans e0
        have c1 := (hR.below.cell (p := ⟨b, f + i * 2 + 1, none⟩) (World.block_lt_of_cell? w _ e1)).trans e1
        have hsm := hq.h h (List.mem_of_getElem? hh)
        have HH := Lib.hid hh
        clear e0 e1 hh
        go_upto_region 8 with (first
          | (refine wQ_alloc (cs := zH) rfl _ (by rfl) (by exact hR) zero_hd ?_; intro g5 w3 hR hb5 hg5)
          | (refine wQ_store rfl _ _ _ (by rfl) (by exact hR) g5 rfl #[.string (bs h.1), .string (bs h.2)] (by rfl) _ _ _ (by repeat (first | exact Pick.here | apply Pick.there)) (by kernel_rfl) (by kernel_rfl) (by kernel_rfl) ?_; intro w4 hR hsm4 hsz4))
        clear c0 c1 hsm4 hsz4 hb5 hg5 f2
        simp only [Act.put, List.setIfInBounds_toArray, List.set_cons_succ, List.set_cons_zero]
        go_cut [66] (fun s66 wx => s66 = .bool (badB h) ∧ Rws w.heap.size w wx [(g5, #[.string (bs h.1), .string (bs h.2)], 52), (gb, rqC q (some ⟨b, f, none⟩) c, 24)])
        case first =>
          have HN0 : Hid (∀ u, Below w4.heap.size w4 u → u.cell? ⟨g5, 0, none⟩ = some (.string (bs h.1))) := Lib.hid fun u hb => (hb.cell (p := ⟨g5, 0, none⟩) (hR.lt (x := _) (by repeat (first | exact List.Mem.head _ | refine List.Mem.tail _ ?_)))).trans (hR.cellAt (g := g5) (by repeat (first | exact List.Mem.head _ | refine List.Mem.tail _ ?_)) 0 rfl)
          have HN1 : Hid (∀ u, Below w4.heap.size w4 u → u.cell? ⟨g5, 1, none⟩ = some (.string (bs h.2))) := Lib.hid fun u hb => (hb.cell (p := ⟨g5, 1, none⟩) (hR.lt (x := _) (by repeat (first | exact List.Mem.head _ | refine List.Mem.tail _ ?_)))).trans (hR.cellAt (g := g5) (by repeat (first | exact List.Mem.head _ | refine List.Mem.tail _ ?_)) 1 rfl)
          have HS2 : Hid (∀ u, Below w4.heap.size w4 u → Calls Tryz.prog 77 #[.int .u8 32, .int .u8 126, .int .u8 0] u (RW (Is (.string (bs (spanA 32 0 95)))) u)) := Lib.hid fun u _ => (span_any 32 0 95 rfl u).mono fun _ _ h => rw_below h
          have HNM0 : ∀ u, Below w4.heap.size w4 u → Calls Tryz.prog 49 #[.string (bs h.1), .int .i64 1, .int .i64 64, .string ⟨#[97, 98, 99, 100, 101, 102, 103, 104, 105, 106, 107, 108, 109, 110, 111, 112, 113, 114, 115, 116, 117, 118, 119, 120, 121, 122, 48, 49, 50, 51, 52, 53, 54, 55, 56, 57, 45]⟩] u (RW (Is (.bool (ofB 1 64 smC h.1))) u) := fun u _ => (Of_any h.1 lSmall smC has_small 1 64 u (by omega) (by rw [hSB]; decide)).mono fun _ _ h => rw_same h
          have HVL0 : ∀ u, Below w4.heap.size w4 u → Calls Tryz.prog 49 #[.string (bs h.2), .int .i64 0, .int .i64 ((bs h.2).size : Nat), .string (bs (spanA 32 0 95))] u (RW (Is (.bool (h.2.all plC))) u) := fun u _ => by
            have := Of_any h.2 (spanA 32 0 95) plC span_plain 0 h.2.length u (by omega) (by rw [hSB]; have := spanA_len 32 0 95; omega)
            rw [bs_size]
            rw [show ofB 0 h.2.length plC h.2 = h.2.all plC by unfold ofB; simp] at this
            exact this.mono fun _ _ h => rw_same h
          have HTR : Hid (∀ u, Below w4.heap.size w4 u → Calls Tryz.prog 62 #[.string (bs h.2)] u (RW (Is (.string (bs (trimS h.2)))) u)) := Lib.hid fun u _ => (trimmed_any h.2 u (by omega)).mono fun _ _ h => rw_same h
          have hcl : ((bs h.1).toList == (⟨#[99, 111, 110, 116, 101, 110, 116, 45, 108, 101, 110, 103, 116, 104]⟩ : ByteArray).toList) = decide (h.1 = wCl) := by rw [show (⟨#[99, 111, 110, 116, 101, 110, 116, 45, 108, 101, 110, 103, 116, 104]⟩ : ByteArray) = bs wCl from rfl, bs_list, bs_list, beqL]
          have hte : ((bs h.1).toList == (⟨#[116, 114, 97, 110, 115, 102, 101, 114, 45, 101, 110, 99, 111, 100, 105, 110, 103]⟩ : ByteArray).toList) = decide (h.1 = wTe) := by rw [show (⟨#[116, 114, 97, 110, 115, 102, 101, 114, 45, 101, 110, 99, 111, 100, 105, 110, 103]⟩ : ByteArray) = bs wTe from rfl, bs_list, bs_list, beqL]
          have hqq : ((bs (trimS h.2)).toList == (bs h.2).toList) = decide (trimS h.2 = h.2) := by rw [bs_list, bs_list, beqL]
          cases a1 : ofB 1 64 smC h.1 with
          | false =>
            rw [a1] at HNM0
            have HNM := Lib.hid HNM0
            have HLV : Hid (badB h = true) := Lib.hid (by unfold badB; simp [a1])
            clear a1 HNM0 HVL0 hqq hcl hte
            refine wp_region_softG 31 (by kernel_rfl) (by kernel_rfl) (by rfl) hR ?_
            refine g_fa (g := g5) (k := 0) (off := 0) (by rfl) (by exact fun _ _ _ h => h) Tryz.underlying52 rfl ⟨0, by kernel_rfl⟩ rfl ?_
            refine g_cellw (g := g5) (k := 0) (v := .string (bs h.1)) (R := Is (.string (bs h.1))) (by rfl) (by exact fun _ _ _ h => h) (HN0.out) isAgg_str (stb_is _) (by exact fun _ _ => rfl) ?_
            refine g_callK (f := 49) (xs := [.tmp 36, .const (.int .i64 1), .const (.int .i64 64), .const (.string ⟨#[97, 98, 99, 100, 101, 102, 103, 104, 105, 106, 107, 108, 109, 110, 111, 112, 113, 114, 115, 116, 117, 118, 119, 120, 121, 122, 48, 49, 50, 51, 52, 53, 54, 55, 56, 57, 45]⟩)]) [.string (bs h.1), .int .i64 1, .int .i64 64, .string ⟨#[97, 98, 99, 100, 101, 102, 103, 104, 105, 106, 107, 108, 109, 110, 111, 112, 113, 114, 115, 116, 117, 118, 119, 120, 121, 122, 48, 49, 50, 51, 52, 53, 54, 55, 56, 57, 45]⟩] (R := Is (.bool false)) (by rfl) Tryz.func49 (by kernel_rfl) rfl (stb_is _) ⟨(by exact fun _ _ _ h => h), (by exact fun _ _ _ h => h), (by exact fun _ _ _ h => h), (by exact fun _ _ _ h => h), trivial⟩ (HNM.out) ?_
            refine g_not (b := false) (by rfl) (by exact fun _ _ _ h => h) ?_
            refine g_move (R := Is (.bool true)) (by rfl) (stb_is _) (by exact fun _ _ _ h => h) ?_
            refine g_dead (dead_of rfl rfl (fun _ _ _ h => h) (by rfl)) ?_
            refine g_dead (dead_of rfl rfl (fun _ _ _ h => h) (by rfl)) ?_
            refine g_dead (dead_of rfl rfl (fun _ _ _ h => h) (by rfl)) ?_
            refine g_dead (dead_of rfl rfl (fun _ _ _ h => h) (by rfl)) ?_
            refine g_dead (dead_of rfl rfl (fun _ _ _ h => h) (by rfl)) ?_
            refine g_dead (dead_of rfl rfl (fun _ _ _ h => h) (by rfl)) ?_
            refine g_dead (dead_of rfl rfl (fun _ _ _ h => h) (by rfl)) ?_
            refine g_dead (dead_of rfl rfl (fun _ _ _ h => h) (by rfl)) ?_
            refine g_pick (b := true) (R := Is (.bool true)) (by rfl) (by exact fun _ _ _ h => h) (stb_is _) (by exact fun _ _ _ h => h) ?_
            refine g_move (R := Is (.bool true)) (by rfl) (stb_is _) (by exact fun _ _ _ h => h) ?_
            refine g_dead (dead_of rfl rfl (fun _ _ _ h => h) (by rfl)) ?_
            refine g_dead (dead_of rfl rfl (fun _ _ _ h => h) (by rfl)) ?_
            refine g_dead (dead_of rfl rfl (fun _ _ _ h => h) (by rfl)) ?_
            refine g_dead (dead_of rfl rfl (fun _ _ _ h => h) (by rfl)) ?_
            refine g_dead (dead_of rfl rfl (fun _ _ _ h => h) (by rfl)) ?_
            refine g_dead (dead_of rfl rfl (fun _ _ _ h => h) (by rfl)) ?_
            refine g_pick (b := true) (R := Is (.bool true)) (by rfl) (by exact fun _ _ _ h => h) (stb_is _) (by exact fun _ _ _ h => h) ?_
            refine g_move (R := Is (.bool true)) (by rfl) (stb_is _) (by exact fun _ _ _ h => h) ?_
            refine g_dead (dead_of rfl rfl (fun _ _ _ h => h) (by rfl)) ?_
            refine g_dead (dead_of rfl rfl (fun _ _ _ h => h) (by rfl)) ?_
            refine g_dead (dead_of rfl rfl (fun _ _ _ h => h) (by rfl)) ?_
            refine g_pick (b := true) (R := Is (.bool true)) (by rfl) (by exact fun _ _ _ h => h) (stb_is _) (by exact fun _ _ _ h => h) ?_
            refine g_move (R := Is (.bool true)) (by rfl) (stb_is _) (by exact fun _ _ _ h => h) ?_
            refine g_dead (dead_of rfl rfl (fun _ _ _ h => h) (by rfl)) ?_
            refine g_dead (dead_of rfl rfl (fun _ _ _ h => h) (by rfl)) ?_
            refine g_dead (dead_of rfl rfl (fun _ _ _ h => h) (by rfl)) ?_
            intro w6 hR6 hb6 v35 h35 v36 h36 v37 h37 v38 h38 v39 h39 v40 h40 v41 h41 v42 h42 v43 h43 v44 h44 v45 h45 v46 h46 v47 h47 v48 h48 v49 h49 v50 h50 v51 h51 v52 h52 v53 h53 v54 h54 v55 h55 v56 h56 v57 h57 v58 h58 v59 h59 v60 h60 v61 h61 v62 h62 v63 h63 v64 h64 v65 h65
            simp only [softEnd, Act.put, List.setIfInBounds_toArray, List.set_cons_succ, List.set_cons_zero, List.drop_succ_cons, List.drop_zero]
            obtain rfl : v62 = .bool true := h62
            obtain rfl : v65 = undef := h65
            clear h35 h36 h37 h38 h39 h40 h41 h42 h43 h44 h45 h46 h47 h48 h49 h50 h51 h52 h53 h54 h55 h56 h57 h58 h59 h60 h61 h63 h64
            go_wp2_with fail
            go_meet
            exact ⟨by rw [HLV.out], hR6⟩
          | true =>
            cases a2 : h.2.all plC with
            | false =>
              rw [a1] at HNM0
              have HNM := Lib.hid HNM0
              rw [a2] at HVL0
              have HVL := Lib.hid HVL0
              have HLV : Hid (badB h = true) := Lib.hid (by unfold badB; simp [a1, a2])
              clear a1 a2 HNM0 HVL0 hqq hcl hte
              refine wp_region_softG 31 (by kernel_rfl) (by kernel_rfl) (by rfl) hR ?_
              refine g_fa (g := g5) (k := 0) (off := 0) (by rfl) (by exact fun _ _ _ h => h) Tryz.underlying52 rfl ⟨0, by kernel_rfl⟩ rfl ?_
              refine g_cellw (g := g5) (k := 0) (v := .string (bs h.1)) (R := Is (.string (bs h.1))) (by rfl) (by exact fun _ _ _ h => h) (HN0.out) isAgg_str (stb_is _) (by exact fun _ _ => rfl) ?_
              refine g_callK (f := 49) (xs := [.tmp 36, .const (.int .i64 1), .const (.int .i64 64), .const (.string ⟨#[97, 98, 99, 100, 101, 102, 103, 104, 105, 106, 107, 108, 109, 110, 111, 112, 113, 114, 115, 116, 117, 118, 119, 120, 121, 122, 48, 49, 50, 51, 52, 53, 54, 55, 56, 57, 45]⟩)]) [.string (bs h.1), .int .i64 1, .int .i64 64, .string ⟨#[97, 98, 99, 100, 101, 102, 103, 104, 105, 106, 107, 108, 109, 110, 111, 112, 113, 114, 115, 116, 117, 118, 119, 120, 121, 122, 48, 49, 50, 51, 52, 53, 54, 55, 56, 57, 45]⟩] (R := Is (.bool true)) (by rfl) Tryz.func49 (by kernel_rfl) rfl (stb_is _) ⟨(by exact fun _ _ _ h => h), (by exact fun _ _ _ h => h), (by exact fun _ _ _ h => h), (by exact fun _ _ _ h => h), trivial⟩ (HNM.out) ?_
              refine g_not (b := true) (by rfl) (by exact fun _ _ _ h => h) ?_
              refine g_move (R := Is (.bool false)) (by rfl) (stb_is _) (by exact fun _ _ _ h => h) ?_
              refine g_fa (g := g5) (k := 0) (off := 1) (by rfl) (by exact fun _ _ _ h => h) Tryz.underlying52 rfl ⟨0, by kernel_rfl⟩ rfl ?_
              refine g_cellw (g := g5) (k := 1) (v := .string (bs h.2)) (R := Is (.string (bs h.2))) (by rfl) (by exact fun _ _ _ h => h) (HN1.out) isAgg_str (stb_is _) (by exact fun _ _ => rfl) ?_
              refine g_fa (g := g5) (k := 0) (off := 1) (by rfl) (by exact fun _ _ _ h => h) Tryz.underlying52 rfl ⟨0, by kernel_rfl⟩ rfl ?_
              refine g_cellw (g := g5) (k := 1) (v := .string (bs h.2)) (R := Is (.string (bs h.2))) (by rfl) (by exact fun _ _ _ h => h) (HN1.out) isAgg_str (stb_is _) (by exact fun _ _ => rfl) ?_
              refine g_lens (s := bs h.2) (by rfl) (by exact fun _ _ _ h => h) ?_
              refine g_callK (f := 77) (xs := [.const (.int .u8 32), .const (.int .u8 126), .const (.int .u8 0)]) [.int .u8 32, .int .u8 126, .int .u8 0] (R := Is (.string (bs (spanA 32 0 95)))) (by rfl) Tryz.func77 (by kernel_rfl) rfl (stb_is _) ⟨(by exact fun _ _ _ h => h), (by exact fun _ _ _ h => h), (by exact fun _ _ _ h => h), trivial⟩ (HS2.out) ?_
              refine g_callK (f := 49) (xs := [.tmp 41, .const (.int .i64 0), .tmp 44, .tmp 45]) [.string (bs h.2), .int .i64 0, .int .i64 ((bs h.2).size : Nat), .string (bs (spanA 32 0 95))] (R := Is (.bool false)) (by rfl) Tryz.func49 (by kernel_rfl) rfl (stb_is _) ⟨(by exact fun _ _ _ h => h), (by exact fun _ _ _ h => h), (by exact fun _ _ _ h => h), (by exact fun _ _ _ h => h), trivial⟩ (HVL.out) ?_
              refine g_not (b := false) (by rfl) (by exact fun _ _ _ h => h) ?_
              refine g_pick (b := false) (R := Is (.bool true)) (by rfl) (by exact fun _ _ _ h => h) (stb_is _) (by exact fun _ _ _ h => h) ?_
              refine g_move (R := Is (.bool true)) (by rfl) (stb_is _) (by exact fun _ _ _ h => h) ?_
              refine g_dead (dead_of rfl rfl (fun _ _ _ h => h) (by rfl)) ?_
              refine g_dead (dead_of rfl rfl (fun _ _ _ h => h) (by rfl)) ?_
              refine g_dead (dead_of rfl rfl (fun _ _ _ h => h) (by rfl)) ?_
              refine g_dead (dead_of rfl rfl (fun _ _ _ h => h) (by rfl)) ?_
              refine g_dead (dead_of rfl rfl (fun _ _ _ h => h) (by rfl)) ?_
              refine g_dead (dead_of rfl rfl (fun _ _ _ h => h) (by rfl)) ?_
              refine g_pick (b := true) (R := Is (.bool true)) (by rfl) (by exact fun _ _ _ h => h) (stb_is _) (by exact fun _ _ _ h => h) ?_
              refine g_move (R := Is (.bool true)) (by rfl) (stb_is _) (by exact fun _ _ _ h => h) ?_
              refine g_dead (dead_of rfl rfl (fun _ _ _ h => h) (by rfl)) ?_
              refine g_dead (dead_of rfl rfl (fun _ _ _ h => h) (by rfl)) ?_
              refine g_dead (dead_of rfl rfl (fun _ _ _ h => h) (by rfl)) ?_
              refine g_pick (b := true) (R := Is (.bool true)) (by rfl) (by exact fun _ _ _ h => h) (stb_is _) (by exact fun _ _ _ h => h) ?_
              refine g_move (R := Is (.bool true)) (by rfl) (stb_is _) (by exact fun _ _ _ h => h) ?_
              refine g_dead (dead_of rfl rfl (fun _ _ _ h => h) (by rfl)) ?_
              refine g_dead (dead_of rfl rfl (fun _ _ _ h => h) (by rfl)) ?_
              refine g_dead (dead_of rfl rfl (fun _ _ _ h => h) (by rfl)) ?_
              intro w6 hR6 hb6 v35 h35 v36 h36 v37 h37 v38 h38 v39 h39 v40 h40 v41 h41 v42 h42 v43 h43 v44 h44 v45 h45 v46 h46 v47 h47 v48 h48 v49 h49 v50 h50 v51 h51 v52 h52 v53 h53 v54 h54 v55 h55 v56 h56 v57 h57 v58 h58 v59 h59 v60 h60 v61 h61 v62 h62 v63 h63 v64 h64 v65 h65
              simp only [softEnd, Act.put, List.setIfInBounds_toArray, List.set_cons_succ, List.set_cons_zero, List.drop_succ_cons, List.drop_zero]
              obtain rfl : v62 = .bool true := h62
              obtain rfl : v65 = undef := h65
              clear h35 h36 h37 h38 h39 h40 h41 h42 h43 h44 h45 h46 h47 h48 h49 h50 h51 h52 h53 h54 h55 h56 h57 h58 h59 h60 h61 h63 h64
              go_wp2_with fail
              go_meet
              exact ⟨by rw [HLV.out], hR6⟩
            | true =>
              by_cases a3 : trimS h.2 = h.2
              · skip
                by_cases a4 : h.1 = wCl
                · skip
                  rw [a1] at HNM0
                  have HNM := Lib.hid HNM0
                  rw [a2] at HVL0
                  have HVL := Lib.hid HVL0
                  rw [decide_eq_true a3] at hqq
                  have HQ := Lib.hid hqq
                  rw [decide_eq_true a4] at hcl
                  have HCL := Lib.hid hcl
                  have HLV : Hid (badB h = true) := Lib.hid (by unfold badB; simp [a2, a3, a4])
                  clear a1 a2 a3 a4 HNM0 HVL0 hqq hcl hte
                  refine wp_region_softG 31 (by kernel_rfl) (by kernel_rfl) (by rfl) hR ?_
                  refine g_fa (g := g5) (k := 0) (off := 0) (by rfl) (by exact fun _ _ _ h => h) Tryz.underlying52 rfl ⟨0, by kernel_rfl⟩ rfl ?_
                  refine g_cellw (g := g5) (k := 0) (v := .string (bs h.1)) (R := Is (.string (bs h.1))) (by rfl) (by exact fun _ _ _ h => h) (HN0.out) isAgg_str (stb_is _) (by exact fun _ _ => rfl) ?_
                  refine g_callK (f := 49) (xs := [.tmp 36, .const (.int .i64 1), .const (.int .i64 64), .const (.string ⟨#[97, 98, 99, 100, 101, 102, 103, 104, 105, 106, 107, 108, 109, 110, 111, 112, 113, 114, 115, 116, 117, 118, 119, 120, 121, 122, 48, 49, 50, 51, 52, 53, 54, 55, 56, 57, 45]⟩)]) [.string (bs h.1), .int .i64 1, .int .i64 64, .string ⟨#[97, 98, 99, 100, 101, 102, 103, 104, 105, 106, 107, 108, 109, 110, 111, 112, 113, 114, 115, 116, 117, 118, 119, 120, 121, 122, 48, 49, 50, 51, 52, 53, 54, 55, 56, 57, 45]⟩] (R := Is (.bool true)) (by rfl) Tryz.func49 (by kernel_rfl) rfl (stb_is _) ⟨(by exact fun _ _ _ h => h), (by exact fun _ _ _ h => h), (by exact fun _ _ _ h => h), (by exact fun _ _ _ h => h), trivial⟩ (HNM.out) ?_
                  refine g_not (b := true) (by rfl) (by exact fun _ _ _ h => h) ?_
                  refine g_move (R := Is (.bool false)) (by rfl) (stb_is _) (by exact fun _ _ _ h => h) ?_
                  refine g_fa (g := g5) (k := 0) (off := 1) (by rfl) (by exact fun _ _ _ h => h) Tryz.underlying52 rfl ⟨0, by kernel_rfl⟩ rfl ?_
                  refine g_cellw (g := g5) (k := 1) (v := .string (bs h.2)) (R := Is (.string (bs h.2))) (by rfl) (by exact fun _ _ _ h => h) (HN1.out) isAgg_str (stb_is _) (by exact fun _ _ => rfl) ?_
                  refine g_fa (g := g5) (k := 0) (off := 1) (by rfl) (by exact fun _ _ _ h => h) Tryz.underlying52 rfl ⟨0, by kernel_rfl⟩ rfl ?_
                  refine g_cellw (g := g5) (k := 1) (v := .string (bs h.2)) (R := Is (.string (bs h.2))) (by rfl) (by exact fun _ _ _ h => h) (HN1.out) isAgg_str (stb_is _) (by exact fun _ _ => rfl) ?_
                  refine g_lens (s := bs h.2) (by rfl) (by exact fun _ _ _ h => h) ?_
                  refine g_callK (f := 77) (xs := [.const (.int .u8 32), .const (.int .u8 126), .const (.int .u8 0)]) [.int .u8 32, .int .u8 126, .int .u8 0] (R := Is (.string (bs (spanA 32 0 95)))) (by rfl) Tryz.func77 (by kernel_rfl) rfl (stb_is _) ⟨(by exact fun _ _ _ h => h), (by exact fun _ _ _ h => h), (by exact fun _ _ _ h => h), trivial⟩ (HS2.out) ?_
                  refine g_callK (f := 49) (xs := [.tmp 41, .const (.int .i64 0), .tmp 44, .tmp 45]) [.string (bs h.2), .int .i64 0, .int .i64 ((bs h.2).size : Nat), .string (bs (spanA 32 0 95))] (R := Is (.bool true)) (by rfl) Tryz.func49 (by kernel_rfl) rfl (stb_is _) ⟨(by exact fun _ _ _ h => h), (by exact fun _ _ _ h => h), (by exact fun _ _ _ h => h), (by exact fun _ _ _ h => h), trivial⟩ (HVL.out) ?_
                  refine g_not (b := true) (by rfl) (by exact fun _ _ _ h => h) ?_
                  refine g_pick (b := false) (R := Is (.bool false)) (by rfl) (by exact fun _ _ _ h => h) (stb_is _) (by exact fun _ _ _ h => h) ?_
                  refine g_move (R := Is (.bool false)) (by rfl) (stb_is _) (by exact fun _ _ _ h => h) ?_
                  refine g_fa (g := g5) (k := 0) (off := 1) (by rfl) (by exact fun _ _ _ h => h) Tryz.underlying52 rfl ⟨0, by kernel_rfl⟩ rfl ?_
                  refine g_cellw (g := g5) (k := 1) (v := .string (bs h.2)) (R := Is (.string (bs h.2))) (by rfl) (by exact fun _ _ _ h => h) (HN1.out) isAgg_str (stb_is _) (by exact fun _ _ => rfl) ?_
                  refine g_callK (f := 62) (xs := [.tmp 51]) [.string (bs h.2)] (R := Is (.string (bs (trimS h.2)))) (by rfl) Tryz.func62 (by kernel_rfl) rfl (stb_is _) ⟨(by exact fun _ _ _ h => h), trivial⟩ (HTR.out) ?_
                  refine g_fa (g := g5) (k := 0) (off := 1) (by rfl) (by exact fun _ _ _ h => h) Tryz.underlying52 rfl ⟨0, by kernel_rfl⟩ rfl ?_
                  refine g_cellw (g := g5) (k := 1) (v := .string (bs h.2)) (R := Is (.string (bs h.2))) (by rfl) (by exact fun _ _ _ h => h) (HN1.out) isAgg_str (stb_is _) (by exact fun _ _ => rfl) ?_
                  refine g_bin (v := .string (bs (trimS h.2))) (u := .string (bs h.2)) (r := .bool false) (by rfl) (by exact fun _ _ _ h => h) (by exact fun _ _ _ h => h) (by rfl) (fun W => bin_nes (r := true) _ _ HQ.out W) ?_
                  refine g_pick (b := false) (R := Is (.bool false)) (by rfl) (by exact fun _ _ _ h => h) (stb_is _) (by exact fun _ _ _ h => h) ?_
                  refine g_move (R := Is (.bool false)) (by rfl) (stb_is _) (by exact fun _ _ _ h => h) ?_
                  refine g_fa (g := g5) (k := 0) (off := 0) (by rfl) (by exact fun _ _ _ h => h) Tryz.underlying52 rfl ⟨0, by kernel_rfl⟩ rfl ?_
                  refine g_cellw (g := g5) (k := 0) (v := .string (bs h.1)) (R := Is (.string (bs h.1))) (by rfl) (by exact fun _ _ _ h => h) (HN0.out) isAgg_str (stb_is _) (by exact fun _ _ => rfl) ?_
                  refine g_bin (v := .string (bs h.1)) (u := .string ⟨#[99, 111, 110, 116, 101, 110, 116, 45, 108, 101, 110, 103, 116, 104]⟩) (r := .bool true) (by rfl) (by exact fun _ _ _ h => h) (by exact fun _ _ _ h => h) (by rfl) (fun W => bin_eqs _ _ HCL.out W) ?_
                  refine g_pick (b := false) (R := Is (.bool true)) (by rfl) (by exact fun _ _ _ h => h) (stb_is _) (by exact fun _ _ _ h => h) ?_
                  refine g_move (R := Is (.bool true)) (by rfl) (stb_is _) (by exact fun _ _ _ h => h) ?_
                  refine g_dead (dead_of rfl rfl (fun _ _ _ h => h) (by rfl)) ?_
                  refine g_dead (dead_of rfl rfl (fun _ _ _ h => h) (by rfl)) ?_
                  refine g_dead (dead_of rfl rfl (fun _ _ _ h => h) (by rfl)) ?_
                  intro w6 hR6 hb6 v35 h35 v36 h36 v37 h37 v38 h38 v39 h39 v40 h40 v41 h41 v42 h42 v43 h43 v44 h44 v45 h45 v46 h46 v47 h47 v48 h48 v49 h49 v50 h50 v51 h51 v52 h52 v53 h53 v54 h54 v55 h55 v56 h56 v57 h57 v58 h58 v59 h59 v60 h60 v61 h61 v62 h62 v63 h63 v64 h64 v65 h65
                  simp only [softEnd, Act.put, List.setIfInBounds_toArray, List.set_cons_succ, List.set_cons_zero, List.drop_succ_cons, List.drop_zero]
                  obtain rfl : v62 = .bool true := h62
                  obtain rfl : v65 = undef := h65
                  clear h35 h36 h37 h38 h39 h40 h41 h42 h43 h44 h45 h46 h47 h48 h49 h50 h51 h52 h53 h54 h55 h56 h57 h58 h59 h60 h61 h63 h64
                  go_wp2_with fail
                  go_meet
                  exact ⟨by rw [HLV.out], hR6⟩
                · skip
                  by_cases a5 : h.1 = wTe
                  · skip
                    rw [a1] at HNM0
                    have HNM := Lib.hid HNM0
                    rw [a2] at HVL0
                    have HVL := Lib.hid HVL0
                    rw [decide_eq_true a3] at hqq
                    have HQ := Lib.hid hqq
                    rw [decide_eq_false a4] at hcl
                    have HCL := Lib.hid hcl
                    rw [decide_eq_true a5] at hte
                    have HTE := Lib.hid hte
                    have HLV : Hid (badB h = true) := Lib.hid (by unfold badB; simp [a2, a3, a5])
                    clear a1 a2 a3 a4 a5 HNM0 HVL0 hqq hcl hte
                    refine wp_region_softG 31 (by kernel_rfl) (by kernel_rfl) (by rfl) hR ?_
                    refine g_fa (g := g5) (k := 0) (off := 0) (by rfl) (by exact fun _ _ _ h => h) Tryz.underlying52 rfl ⟨0, by kernel_rfl⟩ rfl ?_
                    refine g_cellw (g := g5) (k := 0) (v := .string (bs h.1)) (R := Is (.string (bs h.1))) (by rfl) (by exact fun _ _ _ h => h) (HN0.out) isAgg_str (stb_is _) (by exact fun _ _ => rfl) ?_
                    refine g_callK (f := 49) (xs := [.tmp 36, .const (.int .i64 1), .const (.int .i64 64), .const (.string ⟨#[97, 98, 99, 100, 101, 102, 103, 104, 105, 106, 107, 108, 109, 110, 111, 112, 113, 114, 115, 116, 117, 118, 119, 120, 121, 122, 48, 49, 50, 51, 52, 53, 54, 55, 56, 57, 45]⟩)]) [.string (bs h.1), .int .i64 1, .int .i64 64, .string ⟨#[97, 98, 99, 100, 101, 102, 103, 104, 105, 106, 107, 108, 109, 110, 111, 112, 113, 114, 115, 116, 117, 118, 119, 120, 121, 122, 48, 49, 50, 51, 52, 53, 54, 55, 56, 57, 45]⟩] (R := Is (.bool true)) (by rfl) Tryz.func49 (by kernel_rfl) rfl (stb_is _) ⟨(by exact fun _ _ _ h => h), (by exact fun _ _ _ h => h), (by exact fun _ _ _ h => h), (by exact fun _ _ _ h => h), trivial⟩ (HNM.out) ?_
                    refine g_not (b := true) (by rfl) (by exact fun _ _ _ h => h) ?_
                    refine g_move (R := Is (.bool false)) (by rfl) (stb_is _) (by exact fun _ _ _ h => h) ?_
                    refine g_fa (g := g5) (k := 0) (off := 1) (by rfl) (by exact fun _ _ _ h => h) Tryz.underlying52 rfl ⟨0, by kernel_rfl⟩ rfl ?_
                    refine g_cellw (g := g5) (k := 1) (v := .string (bs h.2)) (R := Is (.string (bs h.2))) (by rfl) (by exact fun _ _ _ h => h) (HN1.out) isAgg_str (stb_is _) (by exact fun _ _ => rfl) ?_
                    refine g_fa (g := g5) (k := 0) (off := 1) (by rfl) (by exact fun _ _ _ h => h) Tryz.underlying52 rfl ⟨0, by kernel_rfl⟩ rfl ?_
                    refine g_cellw (g := g5) (k := 1) (v := .string (bs h.2)) (R := Is (.string (bs h.2))) (by rfl) (by exact fun _ _ _ h => h) (HN1.out) isAgg_str (stb_is _) (by exact fun _ _ => rfl) ?_
                    refine g_lens (s := bs h.2) (by rfl) (by exact fun _ _ _ h => h) ?_
                    refine g_callK (f := 77) (xs := [.const (.int .u8 32), .const (.int .u8 126), .const (.int .u8 0)]) [.int .u8 32, .int .u8 126, .int .u8 0] (R := Is (.string (bs (spanA 32 0 95)))) (by rfl) Tryz.func77 (by kernel_rfl) rfl (stb_is _) ⟨(by exact fun _ _ _ h => h), (by exact fun _ _ _ h => h), (by exact fun _ _ _ h => h), trivial⟩ (HS2.out) ?_
                    refine g_callK (f := 49) (xs := [.tmp 41, .const (.int .i64 0), .tmp 44, .tmp 45]) [.string (bs h.2), .int .i64 0, .int .i64 ((bs h.2).size : Nat), .string (bs (spanA 32 0 95))] (R := Is (.bool true)) (by rfl) Tryz.func49 (by kernel_rfl) rfl (stb_is _) ⟨(by exact fun _ _ _ h => h), (by exact fun _ _ _ h => h), (by exact fun _ _ _ h => h), (by exact fun _ _ _ h => h), trivial⟩ (HVL.out) ?_
                    refine g_not (b := true) (by rfl) (by exact fun _ _ _ h => h) ?_
                    refine g_pick (b := false) (R := Is (.bool false)) (by rfl) (by exact fun _ _ _ h => h) (stb_is _) (by exact fun _ _ _ h => h) ?_
                    refine g_move (R := Is (.bool false)) (by rfl) (stb_is _) (by exact fun _ _ _ h => h) ?_
                    refine g_fa (g := g5) (k := 0) (off := 1) (by rfl) (by exact fun _ _ _ h => h) Tryz.underlying52 rfl ⟨0, by kernel_rfl⟩ rfl ?_
                    refine g_cellw (g := g5) (k := 1) (v := .string (bs h.2)) (R := Is (.string (bs h.2))) (by rfl) (by exact fun _ _ _ h => h) (HN1.out) isAgg_str (stb_is _) (by exact fun _ _ => rfl) ?_
                    refine g_callK (f := 62) (xs := [.tmp 51]) [.string (bs h.2)] (R := Is (.string (bs (trimS h.2)))) (by rfl) Tryz.func62 (by kernel_rfl) rfl (stb_is _) ⟨(by exact fun _ _ _ h => h), trivial⟩ (HTR.out) ?_
                    refine g_fa (g := g5) (k := 0) (off := 1) (by rfl) (by exact fun _ _ _ h => h) Tryz.underlying52 rfl ⟨0, by kernel_rfl⟩ rfl ?_
                    refine g_cellw (g := g5) (k := 1) (v := .string (bs h.2)) (R := Is (.string (bs h.2))) (by rfl) (by exact fun _ _ _ h => h) (HN1.out) isAgg_str (stb_is _) (by exact fun _ _ => rfl) ?_
                    refine g_bin (v := .string (bs (trimS h.2))) (u := .string (bs h.2)) (r := .bool false) (by rfl) (by exact fun _ _ _ h => h) (by exact fun _ _ _ h => h) (by rfl) (fun W => bin_nes (r := true) _ _ HQ.out W) ?_
                    refine g_pick (b := false) (R := Is (.bool false)) (by rfl) (by exact fun _ _ _ h => h) (stb_is _) (by exact fun _ _ _ h => h) ?_
                    refine g_move (R := Is (.bool false)) (by rfl) (stb_is _) (by exact fun _ _ _ h => h) ?_
                    refine g_fa (g := g5) (k := 0) (off := 0) (by rfl) (by exact fun _ _ _ h => h) Tryz.underlying52 rfl ⟨0, by kernel_rfl⟩ rfl ?_
                    refine g_cellw (g := g5) (k := 0) (v := .string (bs h.1)) (R := Is (.string (bs h.1))) (by rfl) (by exact fun _ _ _ h => h) (HN0.out) isAgg_str (stb_is _) (by exact fun _ _ => rfl) ?_
                    refine g_bin (v := .string (bs h.1)) (u := .string ⟨#[99, 111, 110, 116, 101, 110, 116, 45, 108, 101, 110, 103, 116, 104]⟩) (r := .bool false) (by rfl) (by exact fun _ _ _ h => h) (by exact fun _ _ _ h => h) (by rfl) (fun W => bin_eqs _ _ HCL.out W) ?_
                    refine g_pick (b := false) (R := Is (.bool false)) (by rfl) (by exact fun _ _ _ h => h) (stb_is _) (by exact fun _ _ _ h => h) ?_
                    refine g_move (R := Is (.bool false)) (by rfl) (stb_is _) (by exact fun _ _ _ h => h) ?_
                    refine g_fa (g := g5) (k := 0) (off := 0) (by rfl) (by exact fun _ _ _ h => h) Tryz.underlying52 rfl ⟨0, by kernel_rfl⟩ rfl ?_
                    refine g_cellw (g := g5) (k := 0) (v := .string (bs h.1)) (R := Is (.string (bs h.1))) (by rfl) (by exact fun _ _ _ h => h) (HN0.out) isAgg_str (stb_is _) (by exact fun _ _ => rfl) ?_
                    refine g_bin (v := .string (bs h.1)) (u := .string ⟨#[116, 114, 97, 110, 115, 102, 101, 114, 45, 101, 110, 99, 111, 100, 105, 110, 103]⟩) (r := .bool true) (by rfl) (by exact fun _ _ _ h => h) (by exact fun _ _ _ h => h) (by rfl) (fun W => bin_eqs _ _ HTE.out W) ?_
                    intro w6 hR6 hb6 v35 h35 v36 h36 v37 h37 v38 h38 v39 h39 v40 h40 v41 h41 v42 h42 v43 h43 v44 h44 v45 h45 v46 h46 v47 h47 v48 h48 v49 h49 v50 h50 v51 h51 v52 h52 v53 h53 v54 h54 v55 h55 v56 h56 v57 h57 v58 h58 v59 h59 v60 h60 v61 h61 v62 h62 v63 h63 v64 h64 v65 h65
                    simp only [softEnd, Act.put, List.setIfInBounds_toArray, List.set_cons_succ, List.set_cons_zero, List.drop_succ_cons, List.drop_zero]
                    obtain rfl : v62 = .bool false := h62
                    obtain rfl : v65 = .bool true := h65
                    clear h35 h36 h37 h38 h39 h40 h41 h42 h43 h44 h45 h46 h47 h48 h49 h50 h51 h52 h53 h54 h55 h56 h57 h58 h59 h60 h61 h63 h64
                    go_wp2_with fail
                    go_meet
                    exact ⟨by rw [HLV.out], hR6⟩
                  · skip
                    rw [a1] at HNM0
                    have HNM := Lib.hid HNM0
                    rw [a2] at HVL0
                    have HVL := Lib.hid HVL0
                    rw [decide_eq_true a3] at hqq
                    have HQ := Lib.hid hqq
                    rw [decide_eq_false a4] at hcl
                    have HCL := Lib.hid hcl
                    rw [decide_eq_false a5] at hte
                    have HTE := Lib.hid hte
                    have HLV : Hid (badB h = false) := Lib.hid (by unfold badB; simp [a1, a2, a3, a4, a5])
                    clear a1 a2 a3 a4 a5 HNM0 HVL0 hqq hcl hte
                    refine wp_region_softG 31 (by kernel_rfl) (by kernel_rfl) (by rfl) hR ?_
                    refine g_fa (g := g5) (k := 0) (off := 0) (by rfl) (by exact fun _ _ _ h => h) Tryz.underlying52 rfl ⟨0, by kernel_rfl⟩ rfl ?_
                    refine g_cellw (g := g5) (k := 0) (v := .string (bs h.1)) (R := Is (.string (bs h.1))) (by rfl) (by exact fun _ _ _ h => h) (HN0.out) isAgg_str (stb_is _) (by exact fun _ _ => rfl) ?_
                    refine g_callK (f := 49) (xs := [.tmp 36, .const (.int .i64 1), .const (.int .i64 64), .const (.string ⟨#[97, 98, 99, 100, 101, 102, 103, 104, 105, 106, 107, 108, 109, 110, 111, 112, 113, 114, 115, 116, 117, 118, 119, 120, 121, 122, 48, 49, 50, 51, 52, 53, 54, 55, 56, 57, 45]⟩)]) [.string (bs h.1), .int .i64 1, .int .i64 64, .string ⟨#[97, 98, 99, 100, 101, 102, 103, 104, 105, 106, 107, 108, 109, 110, 111, 112, 113, 114, 115, 116, 117, 118, 119, 120, 121, 122, 48, 49, 50, 51, 52, 53, 54, 55, 56, 57, 45]⟩] (R := Is (.bool true)) (by rfl) Tryz.func49 (by kernel_rfl) rfl (stb_is _) ⟨(by exact fun _ _ _ h => h), (by exact fun _ _ _ h => h), (by exact fun _ _ _ h => h), (by exact fun _ _ _ h => h), trivial⟩ (HNM.out) ?_
                    refine g_not (b := true) (by rfl) (by exact fun _ _ _ h => h) ?_
                    refine g_move (R := Is (.bool false)) (by rfl) (stb_is _) (by exact fun _ _ _ h => h) ?_
                    refine g_fa (g := g5) (k := 0) (off := 1) (by rfl) (by exact fun _ _ _ h => h) Tryz.underlying52 rfl ⟨0, by kernel_rfl⟩ rfl ?_
                    refine g_cellw (g := g5) (k := 1) (v := .string (bs h.2)) (R := Is (.string (bs h.2))) (by rfl) (by exact fun _ _ _ h => h) (HN1.out) isAgg_str (stb_is _) (by exact fun _ _ => rfl) ?_
                    refine g_fa (g := g5) (k := 0) (off := 1) (by rfl) (by exact fun _ _ _ h => h) Tryz.underlying52 rfl ⟨0, by kernel_rfl⟩ rfl ?_
                    refine g_cellw (g := g5) (k := 1) (v := .string (bs h.2)) (R := Is (.string (bs h.2))) (by rfl) (by exact fun _ _ _ h => h) (HN1.out) isAgg_str (stb_is _) (by exact fun _ _ => rfl) ?_
                    refine g_lens (s := bs h.2) (by rfl) (by exact fun _ _ _ h => h) ?_
                    refine g_callK (f := 77) (xs := [.const (.int .u8 32), .const (.int .u8 126), .const (.int .u8 0)]) [.int .u8 32, .int .u8 126, .int .u8 0] (R := Is (.string (bs (spanA 32 0 95)))) (by rfl) Tryz.func77 (by kernel_rfl) rfl (stb_is _) ⟨(by exact fun _ _ _ h => h), (by exact fun _ _ _ h => h), (by exact fun _ _ _ h => h), trivial⟩ (HS2.out) ?_
                    refine g_callK (f := 49) (xs := [.tmp 41, .const (.int .i64 0), .tmp 44, .tmp 45]) [.string (bs h.2), .int .i64 0, .int .i64 ((bs h.2).size : Nat), .string (bs (spanA 32 0 95))] (R := Is (.bool true)) (by rfl) Tryz.func49 (by kernel_rfl) rfl (stb_is _) ⟨(by exact fun _ _ _ h => h), (by exact fun _ _ _ h => h), (by exact fun _ _ _ h => h), (by exact fun _ _ _ h => h), trivial⟩ (HVL.out) ?_
                    refine g_not (b := true) (by rfl) (by exact fun _ _ _ h => h) ?_
                    refine g_pick (b := false) (R := Is (.bool false)) (by rfl) (by exact fun _ _ _ h => h) (stb_is _) (by exact fun _ _ _ h => h) ?_
                    refine g_move (R := Is (.bool false)) (by rfl) (stb_is _) (by exact fun _ _ _ h => h) ?_
                    refine g_fa (g := g5) (k := 0) (off := 1) (by rfl) (by exact fun _ _ _ h => h) Tryz.underlying52 rfl ⟨0, by kernel_rfl⟩ rfl ?_
                    refine g_cellw (g := g5) (k := 1) (v := .string (bs h.2)) (R := Is (.string (bs h.2))) (by rfl) (by exact fun _ _ _ h => h) (HN1.out) isAgg_str (stb_is _) (by exact fun _ _ => rfl) ?_
                    refine g_callK (f := 62) (xs := [.tmp 51]) [.string (bs h.2)] (R := Is (.string (bs (trimS h.2)))) (by rfl) Tryz.func62 (by kernel_rfl) rfl (stb_is _) ⟨(by exact fun _ _ _ h => h), trivial⟩ (HTR.out) ?_
                    refine g_fa (g := g5) (k := 0) (off := 1) (by rfl) (by exact fun _ _ _ h => h) Tryz.underlying52 rfl ⟨0, by kernel_rfl⟩ rfl ?_
                    refine g_cellw (g := g5) (k := 1) (v := .string (bs h.2)) (R := Is (.string (bs h.2))) (by rfl) (by exact fun _ _ _ h => h) (HN1.out) isAgg_str (stb_is _) (by exact fun _ _ => rfl) ?_
                    refine g_bin (v := .string (bs (trimS h.2))) (u := .string (bs h.2)) (r := .bool false) (by rfl) (by exact fun _ _ _ h => h) (by exact fun _ _ _ h => h) (by rfl) (fun W => bin_nes (r := true) _ _ HQ.out W) ?_
                    refine g_pick (b := false) (R := Is (.bool false)) (by rfl) (by exact fun _ _ _ h => h) (stb_is _) (by exact fun _ _ _ h => h) ?_
                    refine g_move (R := Is (.bool false)) (by rfl) (stb_is _) (by exact fun _ _ _ h => h) ?_
                    refine g_fa (g := g5) (k := 0) (off := 0) (by rfl) (by exact fun _ _ _ h => h) Tryz.underlying52 rfl ⟨0, by kernel_rfl⟩ rfl ?_
                    refine g_cellw (g := g5) (k := 0) (v := .string (bs h.1)) (R := Is (.string (bs h.1))) (by rfl) (by exact fun _ _ _ h => h) (HN0.out) isAgg_str (stb_is _) (by exact fun _ _ => rfl) ?_
                    refine g_bin (v := .string (bs h.1)) (u := .string ⟨#[99, 111, 110, 116, 101, 110, 116, 45, 108, 101, 110, 103, 116, 104]⟩) (r := .bool false) (by rfl) (by exact fun _ _ _ h => h) (by exact fun _ _ _ h => h) (by rfl) (fun W => bin_eqs _ _ HCL.out W) ?_
                    refine g_pick (b := false) (R := Is (.bool false)) (by rfl) (by exact fun _ _ _ h => h) (stb_is _) (by exact fun _ _ _ h => h) ?_
                    refine g_move (R := Is (.bool false)) (by rfl) (stb_is _) (by exact fun _ _ _ h => h) ?_
                    refine g_fa (g := g5) (k := 0) (off := 0) (by rfl) (by exact fun _ _ _ h => h) Tryz.underlying52 rfl ⟨0, by kernel_rfl⟩ rfl ?_
                    refine g_cellw (g := g5) (k := 0) (v := .string (bs h.1)) (R := Is (.string (bs h.1))) (by rfl) (by exact fun _ _ _ h => h) (HN0.out) isAgg_str (stb_is _) (by exact fun _ _ => rfl) ?_
                    refine g_bin (v := .string (bs h.1)) (u := .string ⟨#[116, 114, 97, 110, 115, 102, 101, 114, 45, 101, 110, 99, 111, 100, 105, 110, 103]⟩) (r := .bool false) (by rfl) (by exact fun _ _ _ h => h) (by exact fun _ _ _ h => h) (by rfl) (fun W => bin_eqs _ _ HTE.out W) ?_
                    intro w6 hR6 hb6 v35 h35 v36 h36 v37 h37 v38 h38 v39 h39 v40 h40 v41 h41 v42 h42 v43 h43 v44 h44 v45 h45 v46 h46 v47 h47 v48 h48 v49 h49 v50 h50 v51 h51 v52 h52 v53 h53 v54 h54 v55 h55 v56 h56 v57 h57 v58 h58 v59 h59 v60 h60 v61 h61 v62 h62 v63 h63 v64 h64 v65 h65
                    simp only [softEnd, Act.put, List.setIfInBounds_toArray, List.set_cons_succ, List.set_cons_zero, List.drop_succ_cons, List.drop_zero]
                    obtain rfl : v62 = .bool false := h62
                    obtain rfl : v65 = .bool false := h65
                    clear h35 h36 h37 h38 h39 h40 h41 h42 h43 h44 h45 h46 h47 h48 h49 h50 h51 h52 h53 h54 h55 h56 h57 h58 h59 h60 h61 h63 h64
                    go_wp2_with fail
                    go_meet
                    exact ⟨by rw [HLV.out], hR6⟩
              · skip
                rw [a1] at HNM0
                have HNM := Lib.hid HNM0
                rw [a2] at HVL0
                have HVL := Lib.hid HVL0
                rw [decide_eq_false a3] at hqq
                have HQ := Lib.hid hqq
                have HLV : Hid (badB h = true) := Lib.hid (by unfold badB; simp [a1, a2, a3])
                clear a1 a2 a3 HNM0 HVL0 hqq hcl hte
                refine wp_region_softG 31 (by kernel_rfl) (by kernel_rfl) (by rfl) hR ?_
                refine g_fa (g := g5) (k := 0) (off := 0) (by rfl) (by exact fun _ _ _ h => h) Tryz.underlying52 rfl ⟨0, by kernel_rfl⟩ rfl ?_
                refine g_cellw (g := g5) (k := 0) (v := .string (bs h.1)) (R := Is (.string (bs h.1))) (by rfl) (by exact fun _ _ _ h => h) (HN0.out) isAgg_str (stb_is _) (by exact fun _ _ => rfl) ?_
                refine g_callK (f := 49) (xs := [.tmp 36, .const (.int .i64 1), .const (.int .i64 64), .const (.string ⟨#[97, 98, 99, 100, 101, 102, 103, 104, 105, 106, 107, 108, 109, 110, 111, 112, 113, 114, 115, 116, 117, 118, 119, 120, 121, 122, 48, 49, 50, 51, 52, 53, 54, 55, 56, 57, 45]⟩)]) [.string (bs h.1), .int .i64 1, .int .i64 64, .string ⟨#[97, 98, 99, 100, 101, 102, 103, 104, 105, 106, 107, 108, 109, 110, 111, 112, 113, 114, 115, 116, 117, 118, 119, 120, 121, 122, 48, 49, 50, 51, 52, 53, 54, 55, 56, 57, 45]⟩] (R := Is (.bool true)) (by rfl) Tryz.func49 (by kernel_rfl) rfl (stb_is _) ⟨(by exact fun _ _ _ h => h), (by exact fun _ _ _ h => h), (by exact fun _ _ _ h => h), (by exact fun _ _ _ h => h), trivial⟩ (HNM.out) ?_
                refine g_not (b := true) (by rfl) (by exact fun _ _ _ h => h) ?_
                refine g_move (R := Is (.bool false)) (by rfl) (stb_is _) (by exact fun _ _ _ h => h) ?_
                refine g_fa (g := g5) (k := 0) (off := 1) (by rfl) (by exact fun _ _ _ h => h) Tryz.underlying52 rfl ⟨0, by kernel_rfl⟩ rfl ?_
                refine g_cellw (g := g5) (k := 1) (v := .string (bs h.2)) (R := Is (.string (bs h.2))) (by rfl) (by exact fun _ _ _ h => h) (HN1.out) isAgg_str (stb_is _) (by exact fun _ _ => rfl) ?_
                refine g_fa (g := g5) (k := 0) (off := 1) (by rfl) (by exact fun _ _ _ h => h) Tryz.underlying52 rfl ⟨0, by kernel_rfl⟩ rfl ?_
                refine g_cellw (g := g5) (k := 1) (v := .string (bs h.2)) (R := Is (.string (bs h.2))) (by rfl) (by exact fun _ _ _ h => h) (HN1.out) isAgg_str (stb_is _) (by exact fun _ _ => rfl) ?_
                refine g_lens (s := bs h.2) (by rfl) (by exact fun _ _ _ h => h) ?_
                refine g_callK (f := 77) (xs := [.const (.int .u8 32), .const (.int .u8 126), .const (.int .u8 0)]) [.int .u8 32, .int .u8 126, .int .u8 0] (R := Is (.string (bs (spanA 32 0 95)))) (by rfl) Tryz.func77 (by kernel_rfl) rfl (stb_is _) ⟨(by exact fun _ _ _ h => h), (by exact fun _ _ _ h => h), (by exact fun _ _ _ h => h), trivial⟩ (HS2.out) ?_
                refine g_callK (f := 49) (xs := [.tmp 41, .const (.int .i64 0), .tmp 44, .tmp 45]) [.string (bs h.2), .int .i64 0, .int .i64 ((bs h.2).size : Nat), .string (bs (spanA 32 0 95))] (R := Is (.bool true)) (by rfl) Tryz.func49 (by kernel_rfl) rfl (stb_is _) ⟨(by exact fun _ _ _ h => h), (by exact fun _ _ _ h => h), (by exact fun _ _ _ h => h), (by exact fun _ _ _ h => h), trivial⟩ (HVL.out) ?_
                refine g_not (b := true) (by rfl) (by exact fun _ _ _ h => h) ?_
                refine g_pick (b := false) (R := Is (.bool false)) (by rfl) (by exact fun _ _ _ h => h) (stb_is _) (by exact fun _ _ _ h => h) ?_
                refine g_move (R := Is (.bool false)) (by rfl) (stb_is _) (by exact fun _ _ _ h => h) ?_
                refine g_fa (g := g5) (k := 0) (off := 1) (by rfl) (by exact fun _ _ _ h => h) Tryz.underlying52 rfl ⟨0, by kernel_rfl⟩ rfl ?_
                refine g_cellw (g := g5) (k := 1) (v := .string (bs h.2)) (R := Is (.string (bs h.2))) (by rfl) (by exact fun _ _ _ h => h) (HN1.out) isAgg_str (stb_is _) (by exact fun _ _ => rfl) ?_
                refine g_callK (f := 62) (xs := [.tmp 51]) [.string (bs h.2)] (R := Is (.string (bs (trimS h.2)))) (by rfl) Tryz.func62 (by kernel_rfl) rfl (stb_is _) ⟨(by exact fun _ _ _ h => h), trivial⟩ (HTR.out) ?_
                refine g_fa (g := g5) (k := 0) (off := 1) (by rfl) (by exact fun _ _ _ h => h) Tryz.underlying52 rfl ⟨0, by kernel_rfl⟩ rfl ?_
                refine g_cellw (g := g5) (k := 1) (v := .string (bs h.2)) (R := Is (.string (bs h.2))) (by rfl) (by exact fun _ _ _ h => h) (HN1.out) isAgg_str (stb_is _) (by exact fun _ _ => rfl) ?_
                refine g_bin (v := .string (bs (trimS h.2))) (u := .string (bs h.2)) (r := .bool true) (by rfl) (by exact fun _ _ _ h => h) (by exact fun _ _ _ h => h) (by rfl) (fun W => bin_nes (r := false) _ _ HQ.out W) ?_
                refine g_pick (b := false) (R := Is (.bool true)) (by rfl) (by exact fun _ _ _ h => h) (stb_is _) (by exact fun _ _ _ h => h) ?_
                refine g_move (R := Is (.bool true)) (by rfl) (stb_is _) (by exact fun _ _ _ h => h) ?_
                refine g_dead (dead_of rfl rfl (fun _ _ _ h => h) (by rfl)) ?_
                refine g_dead (dead_of rfl rfl (fun _ _ _ h => h) (by rfl)) ?_
                refine g_dead (dead_of rfl rfl (fun _ _ _ h => h) (by rfl)) ?_
                refine g_pick (b := true) (R := Is (.bool true)) (by rfl) (by exact fun _ _ _ h => h) (stb_is _) (by exact fun _ _ _ h => h) ?_
                refine g_move (R := Is (.bool true)) (by rfl) (stb_is _) (by exact fun _ _ _ h => h) ?_
                refine g_dead (dead_of rfl rfl (fun _ _ _ h => h) (by rfl)) ?_
                refine g_dead (dead_of rfl rfl (fun _ _ _ h => h) (by rfl)) ?_
                refine g_dead (dead_of rfl rfl (fun _ _ _ h => h) (by rfl)) ?_
                intro w6 hR6 hb6 v35 h35 v36 h36 v37 h37 v38 h38 v39 h39 v40 h40 v41 h41 v42 h42 v43 h43 v44 h44 v45 h45 v46 h46 v47 h47 v48 h48 v49 h49 v50 h50 v51 h51 v52 h52 v53 h53 v54 h54 v55 h55 v56 h56 v57 h57 v58 h58 v59 h59 v60 h60 v61 h61 v62 h62 v63 h63 v64 h64 v65 h65
                simp only [softEnd, Act.put, List.setIfInBounds_toArray, List.set_cons_succ, List.set_cons_zero, List.drop_succ_cons, List.drop_zero]
                obtain rfl : v62 = .bool true := h62
                obtain rfl : v65 = undef := h65
                clear h35 h36 h37 h38 h39 h40 h41 h42 h43 h44 h45 h46 h47 h48 h49 h50 h51 h52 h53 h54 h55 h56 h57 h58 h59 h60 h61 h63 h64
                go_wp2_with fail
                go_meet
                exact ⟨by rw [HLV.out], hR6⟩
        case rest =>
        obtain ⟨rfl, hR⟩ := hcut
        cases hbad : badB h with
        | true =>
          have HR : Hid (formB q = false) := Lib.hid (by rw [HFL.out, all_hd_false HH.out (by rw [fieldB_eq, hbad]; rfl)]; rfl)
          clear hbad
          go_wp2_with fail
          go_ret
          rw [HR.out]
          exact ⟨rfl, hR.below⟩
        | false =>
          have n0 := hR.cellAt (g := g5) (List.Mem.head _) 0 rfl
          have n1 := hR.cellAt (g := g5) (List.Mem.head _) 1 rfl
          have HRT := Lib.hid (hR.sub (List.Sublist.cons _ (List.Sublist.refl _)))
          by_cases hhost : h.1 = wHost
          · have hq1 : ((bs h.1).toList == [104, 111, 115, 116]) = true := by rw [bs_list, hhost]; rfl
            have hk1 : k ≤ 1048576 := by omega
            have HK2 : Hid (k + 1 = hosts (q.hs.take (i + 1))) := Lib.hid (by rw [hosts_take HH.out, if_pos hhost, HK.out])
            cases hof : ofB 1 255 hoC h.2 with
            | false =>
              have HC : Hid (∀ u, Calls Tryz.prog 49 #[.string (bs h.2), .int .i64 1, .int .i64 255, .string (bs lHost)] u fun e w' => e = .returned (.bool false) ∧ w' = u) := Lib.hid fun u => by rw [← hof]; exact Of_any h.2 lHost hoC has_host 1 255 u (by omega) (by rw [hSB]; decide)
              have HR : Hid (formB q = false) := Lib.hid (by rw [HFL.out, all_hd_false HH.out (by rw [fieldB_eq, hbad, hof, decide_eq_true hhost]; rfl)]; rfl)
              clear hbad hof hhost
              go_wp2_with fail
              refine (HC.out _).mono ?_
              rintro e w7 ⟨rfl, rfl⟩
              go_wp2_with fail
              go_ret
              rw [HR.out]
              exact ⟨rfl, HRT.out.below⟩
            | true =>
              have HC : Hid (∀ u, Calls Tryz.prog 49 #[.string (bs h.2), .int .i64 1, .int .i64 255, .string (bs lHost)] u fun e w' => e = .returned (.bool true) ∧ w' = u) := Lib.hid fun u => by rw [← hof]; exact Of_any h.2 lHost hoC has_host 1 255 u (by omega) (by rw [hSB]; decide)
              have HAL2 : Hid ((q.hs.take (i + 1)).all fieldB = true) := Lib.hid (by rw [all_hd HH.out, HAL.out, fieldB_eq, hbad, hof]; simp)
              clear hbad hof hhost
              go_wp2_with fail
              refine (HC.out _).mono ?_
              rintro e w7 ⟨rfl, rfl⟩
              go_wp2_with fail
              go_roundg (q.hs.length - (i + 1))
              case measure => omega
              case rel => exact ⟨i + 1, k + 1, by omega, rfl, by go_num, by go_num, by omega, HK2.out, HAL2.out, HRT.out⟩
          · have hq1 : ((bs h.1).toList == [104, 111, 115, 116]) = false := by rw [bs_list, beqL]; exact decide_eq_false hhost
            have HK2 : Hid (k = hosts (q.hs.take (i + 1))) := Lib.hid (by rw [hosts_take HH.out, if_neg hhost, HK.out]; rfl)
            have HAL2 : Hid ((q.hs.take (i + 1)).all fieldB = true) := Lib.hid (by rw [all_hd HH.out, HAL.out, fieldB_eq, hbad, decide_eq_false hhost]; rfl)
            clear hbad hhost
            go_wp2_with fail
            go_roundg (q.hs.length - (i + 1))
            case measure => omega
            case rel => exact ⟨i + 1, k, by omega, rfl, rfl, by go_num, by omega, HK2.out, HAL2.out, HRT.out⟩
      · have hltz : ¬ (i : Int) < (q.hs.length : Int) := by omega
        have hkk : k = hosts q.hs := by rw [HK.out, List.take_of_length_le (by omega)]
        have hall : q.hs.all fieldB = true := by have := HAL.out; rw [List.take_of_length_le (by omega)] at this; exact this
        obtain ⟨R, hRb⟩ : ∃ R, R = formB q := ⟨_, rfl⟩
        have hone : ((k : Int) == 1) = R := by rw [hRb, HFL.out, hall, hkk, beq1]; rfl
        have HRB := Lib.hid hRb
        clear hRb hkk hall
        go_wp2_with fail
        go_ret
        rw [← HRB.out]
        exact ⟨rfl, hR.below⟩
end Go.Proofs.YtipjkjcmceeaeaaGreatDoor
