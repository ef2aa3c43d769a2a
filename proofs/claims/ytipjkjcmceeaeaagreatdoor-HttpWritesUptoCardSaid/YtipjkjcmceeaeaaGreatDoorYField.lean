/- http.field: the walk. -/
import Derived.Test.YtipjkjcmceeaeaaGreatDoorYReq
import Derived.Test.YtipjkjcmceeaeaaGreatDoorYOf
import Derived.Test.YtipjkjcmceeaeaaGreatDoorYIs
import Derived.Test.YtipjkjcmceeaeaaGreatDoorShelf
namespace Go.Proofs.YtipjkjcmceeaeaaGreatDoor
open Go.RowKit

theorem trim_any (l : List UInt8) (w : World) (hl : l.length ≤ SB) : Calls Tryz.prog 56 #[.string (bs l), .string ⟨#[32]⟩] w (RW (Is (.string (bs (trimS l)))) w) := by
  have hSB := SB_eq
  refine (Tryz.strings_Trim_one (bs l) 32 (by decide) w (by rw [bs_size]; omega)).mono fun e w' h => ?_
  obtain ⟨rfl, h⟩ := h
  refine ⟨_, rfl, ?_, ?_⟩
  · rw [bs_data]; rfl
  · rcases h with rfl | rfl
    · exact Below.refl _ _
    · exact (Below.refl _ _).drew
def FieldPost (h : Hd) (w : World) : Ending → World → Prop := fun e w' => ((fieldB h = true ∧ e = .returned .nilIface) ∨ (fieldB h = false ∧ ∃ why, e = .returned (wrV why sHead))) ∧ Below w.heap.size w w'
theorem fieldB_host (h : Hd) (hn1 : h.1 ≠ wCl) (hn2 : h.1 ≠ wTe) : fieldB h = ((!decide (h.1 = wHost) || ofB 1 255 hoC h.2) && (ofB 1 64 smC h.1 && h.2.all plC && decide (trimS h.2 = h.2))) := by
  unfold fieldB
  rw [decide_eq_true hn1, decide_eq_true hn2]
  cases decide (h.1 = wHost) <;> cases ofB 1 255 hoC h.2 <;> cases ofB 1 64 smC h.1 <;> cases h.2.all plC <;> cases decide (trimS h.2 = h.2) <;> rfl
set_option maxRecDepth 100000 in
set_option maxHeartbeats 8000000 in
theorem field_any (h : Hd) (w : World) (h1 : h.1.length ≤ 1048576) (h2 : h.2.length ≤ 1048576) : Calls Tryz.prog 76 #[.agg #[.string (bs h.1), .string (bs h.2)]] w (FieldPost h w) := by
  have hSB := SB_eq
  have hR := Rws.start w
  have z1 := bs_size h.1
  have z2 := bs_size h.2
  by_cases c1 : h.1 = wCl
  · have q1 : ((bs h.1).toList == [99, 111, 110, 116, 101, 110, 116, 45, 108, 101, 110, 103, 116, 104]) = true := by rw [bs_list, c1]; rfl
    have HFB : Hid (fieldB h = false) := Lib.hid (by unfold fieldB; rw [decide_eq_false (fun hh => hh c1)]; rfl)
    clear c1
    go_enter Tryz.func76, Tryz.ntmps76
    go_upto_region 1 with (refine wpList_box_rws rfl _ _ (by rfl) (by exact hR) #[.string (bs h.1), .string (bs h.2)] rfl ?_; intro gb w1 hR)
    have n0 : w1.cell? ⟨gb, 0, none⟩ = some (.string (bs h.1)) := hR.cellAt (g := gb) (List.Mem.head _) 0 rfl
    go_wp2_with fail
    go_ret
    exact ⟨Or.inr ⟨HFB.out, _, rfl⟩, hR.below⟩
  have q1 : ((bs h.1).toList == [99, 111, 110, 116, 101, 110, 116, 45, 108, 101, 110, 103, 116, 104]) = false := by rw [bs_list, beqL]; exact decide_eq_false c1
  by_cases c2 : h.1 = wTe
  · have q2 : ((bs h.1).toList == [116, 114, 97, 110, 115, 102, 101, 114, 45, 101, 110, 99, 111, 100, 105, 110, 103]) = true := by rw [bs_list, c2]; rfl
    have HFB : Hid (fieldB h = false) := Lib.hid (by unfold fieldB; rw [show decide (h.1 ≠ wTe) = false from decide_eq_false (fun hh => hh c2)]; simp)
    clear c1 c2
    go_enter Tryz.func76, Tryz.ntmps76
    go_upto_region 1 with (refine wpList_box_rws rfl _ _ (by rfl) (by exact hR) #[.string (bs h.1), .string (bs h.2)] rfl ?_; intro gb w1 hR)
    have n0 : w1.cell? ⟨gb, 0, none⟩ = some (.string (bs h.1)) := hR.cellAt (g := gb) (List.Mem.head _) 0 rfl
    go_wp2_with fail
    go_ret
    exact ⟨Or.inr ⟨HFB.out, _, rfl⟩, hR.below⟩
  have q2 : ((bs h.1).toList == [116, 114, 97, 110, 115, 102, 101, 114, 45, 101, 110, 99, 111, 100, 105, 110, 103]) = false := by rw [bs_list, beqL]; exact decide_eq_false c2
  have HF2 := Lib.hid (fieldB_host h c1 c2)
  clear c1 c2
  by_cases c3 : h.1 = wHost
  · have q3 : ((bs h.1).toList == [104, 111, 115, 116]) = true := by rw [bs_list, c3]; rfl
    cases ho : ofB 1 255 hoC h.2 with
    | false =>
      have HFB : Hid (fieldB h = false) := Lib.hid (by rw [HF2.out, decide_eq_true c3, ho]; rfl)
      have HC : Hid (∀ u, Calls Tryz.prog 46 #[.string (bs h.2), .int .i64 1, .int .i64 255, .func (.func 97) #[] #[]] u fun e w' => e = .returned (.bool false) ∧ w' = u) := Lib.hid fun u => by rw [← ho]; exact of_any _ hoC lk_host h.2 1 255 u (by omega)
      clear c3 ho HF2
      go_enter Tryz.func76, Tryz.ntmps76
      go_upto_region 1 with (refine wpList_box_rws rfl _ _ (by rfl) (by exact hR) #[.string (bs h.1), .string (bs h.2)] rfl ?_; intro gb w1 hR)
      have n0 : w1.cell? ⟨gb, 0, none⟩ = some (.string (bs h.1)) := hR.cellAt (g := gb) (List.Mem.head _) 0 rfl
      have n1 : w1.cell? ⟨gb, 1, none⟩ = some (.string (bs h.2)) := hR.cellAt (g := gb) (List.Mem.head _) 1 rfl
      have HB := Lib.hid hR.below
      clear hR
      go_wp2_with fail
      refine (HC.out _).mono ?_
      rintro e w2 ⟨rfl, rfl⟩
      go_wp2_with fail
      go_ret
      exact ⟨Or.inr ⟨HFB.out, _, rfl⟩, HB.out⟩
    | true =>
      have HF3 : Hid (fieldB h = (ofB 1 64 smC h.1 && h.2.all plC && decide (trimS h.2 = h.2))) := Lib.hid (by rw [HF2.out, decide_eq_true c3, ho]; rfl)
      have HC : Hid (∀ u, Calls Tryz.prog 46 #[.string (bs h.2), .int .i64 1, .int .i64 255, .func (.func 97) #[] #[]] u fun e w' => e = .returned (.bool true) ∧ w' = u) := Lib.hid fun u => by rw [← ho]; exact of_any _ hoC lk_host h.2 1 255 u (by omega)
      clear c3 ho HF2
      go_enter Tryz.func76, Tryz.ntmps76
      go_upto_region 1 with (refine wpList_box_rws rfl _ _ (by rfl) (by exact hR) #[.string (bs h.1), .string (bs h.2)] rfl ?_; intro gb w1 hR)
      have HN0 : Hid (∀ u, Below w1.heap.size w1 u → u.cell? ⟨gb, 0, none⟩ = some (.string (bs h.1))) := Lib.hid fun u hb => (hb.cell (p := ⟨gb, 0, none⟩) (hR.lt (x := _) (by repeat (first | exact List.Mem.head _ | refine List.Mem.tail _ ?_)))).trans (hR.cellAt (g := gb) (by repeat (first | exact List.Mem.head _ | refine List.Mem.tail _ ?_)) 0 rfl)
      have HN1 : Hid (∀ u, Below w1.heap.size w1 u → u.cell? ⟨gb, 1, none⟩ = some (.string (bs h.2))) := Lib.hid fun u hb => (hb.cell (p := ⟨gb, 1, none⟩) (hR.lt (x := _) (by repeat (first | exact List.Mem.head _ | refine List.Mem.tail _ ?_)))).trans (hR.cellAt (g := gb) (by repeat (first | exact List.Mem.head _ | refine List.Mem.tail _ ?_)) 1 rfl)
      have HNM0 : ∀ u, Below w1.heap.size w1 u → Calls Tryz.prog 46 #[.string (bs h.1), .int .i64 1, .int .i64 64, .func (.func 43) #[] #[]] u (RW (Is (.bool (ofB 1 64 smC h.1))) u) := fun u _ => (of_any _ smC lk_small h.1 1 64 u (by omega)).mono fun _ _ h => rw_same h
      have HVL0 : ∀ u, Below w1.heap.size w1 u → Calls Tryz.prog 46 #[.string (bs h.2), .int .i64 0, .int .i64 ((bs h.2).size : Nat), .func (.func 98) #[] #[]] u (RW (Is (.bool (h.2.all plC))) u) := fun u _ => by
        have := of_any _ plC lk_plain h.2 0 h.2.length u (by omega)
        rw [bs_size]
        rw [show ofB 0 h.2.length plC h.2 = h.2.all plC by unfold ofB; simp] at this
        exact this.mono fun _ _ h => rw_same h
      have HTR : Hid (∀ u, Below w1.heap.size w1 u → Calls Tryz.prog 56 #[.string (bs h.2), .string ⟨#[32]⟩] u (RW (Is (.string (bs (trimS h.2)))) u)) := Lib.hid fun u _ => trim_any h.2 u (by omega)
      have hqq : ((bs (trimS h.2)).toList == (bs h.2).toList) = decide (trimS h.2 = h.2) := by rw [bs_list, bs_list, beqL]
      have n0 : w1.cell? ⟨gb, 0, none⟩ = some (.string (bs h.1)) := hR.cellAt (g := gb) (List.Mem.head _) 0 rfl
      have n1 : w1.cell? ⟨gb, 1, none⟩ = some (.string (bs h.2)) := hR.cellAt (g := gb) (List.Mem.head _) 1 rfl

      go_upto_region 8 with (go_at_call 46; refine (HC.out _).mono ?_; rintro e w2 ⟨rfl, rfl⟩)
      clear n0 n1
      cases a1 : ofB 1 64 smC h.1 with
      | false =>
        rw [a1] at HNM0
        have HNM := Lib.hid HNM0
        have HFB : Hid (fieldB h = false) := Lib.hid (by rw [HF3.out]; simp [a1])
        clear a1 HNM0 HVL0 hqq
        refine wp_region_softG 20 (by kernel_rfl) (by kernel_rfl) (by rfl) hR ?_
        refine g_fa (g := gb) (k := 0) (off := 0) (by rfl) (by exact fun _ _ _ h => h) Tryz.underlying52 rfl ⟨0, by kernel_rfl⟩ rfl ?_
        refine g_cellw (g := gb) (k := 0) (v := .string (bs h.1)) (R := Is (.string (bs h.1))) (by rfl) (by exact fun _ _ _ h => h) (HN0.out) isAgg_str (stb_is _) (by exact fun _ _ => rfl) ?_
        refine g_callK (f := 46) (xs := [.tmp 23, .const (.int .i64 1), .const (.int .i64 64), .func 43]) [.string (bs h.1), .int .i64 1, .int .i64 64, .func (.func 43) #[] #[]] (R := Is (.bool false)) (by rfl) Tryz.func46 (by kernel_rfl) rfl (stb_is _) ⟨(by exact fun _ _ _ h => h), (by exact fun _ _ _ h => h), (by exact fun _ _ _ h => h), (by exact fun _ _ _ h => h), trivial⟩ (HNM.out) ?_
        refine g_not (b := false) (by rfl) (by exact fun _ _ _ h => h) ?_
        refine g_move (R := Is (.bool true)) (by rfl) (stb_is _) (by exact fun _ _ _ h => h) ?_
        refine g_dead (dead_of rfl rfl (fun _ _ _ h => h) (by rfl)) ?_
        refine g_dead (dead_of rfl rfl (fun _ _ _ h => h) (by rfl)) ?_
        refine g_dead (dead_of rfl rfl (fun _ _ _ h => h) (by rfl)) ?_
        refine g_dead (dead_of rfl rfl (fun _ _ _ h => h) (by rfl)) ?_
        refine g_dead (dead_of rfl rfl (fun _ _ _ h => h) (by rfl)) ?_
        refine g_dead (dead_of rfl rfl (fun _ _ _ h => h) (by rfl)) ?_
        refine g_dead (dead_of rfl rfl (fun _ _ _ h => h) (by rfl)) ?_
        refine g_pick (b := true) (R := Is (.bool true)) (by rfl) (by exact fun _ _ _ h => h) (stb_is _) (by exact fun _ _ _ h => h) ?_
        refine g_move (R := Is (.bool true)) (by rfl) (stb_is _) (by exact fun _ _ _ h => h) ?_
        refine g_dead (dead_of rfl rfl (fun _ _ _ h => h) (by rfl)) ?_
        refine g_dead (dead_of rfl rfl (fun _ _ _ h => h) (by rfl)) ?_
        refine g_dead (dead_of rfl rfl (fun _ _ _ h => h) (by rfl)) ?_
        refine g_dead (dead_of rfl rfl (fun _ _ _ h => h) (by rfl)) ?_
        refine g_dead (dead_of rfl rfl (fun _ _ _ h => h) (by rfl)) ?_
        refine g_dead (dead_of rfl rfl (fun _ _ _ h => h) (by rfl)) ?_
        intro w6 hR6 hb6 v22 h22 v23 h23 v24 h24 v25 h25 v26 h26 v27 h27 v28 h28 v29 h29 v30 h30 v31 h31 v32 h32 v33 h33 v34 h34 v35 h35 v36 h36 v37 h37 v38 h38 v39 h39 v40 h40 v41 h41
        simp only [softEnd, Act.put, List.setIfInBounds_toArray, List.set_cons_succ, List.set_cons_zero, List.drop_succ_cons, List.drop_zero]
        obtain rfl : v35 = .bool true := h35
        obtain rfl : v41 = undef := h41
        clear h22 h23 h24 h25 h26 h27 h28 h29 h30 h31 h32 h33 h34 h36 h37 h38 h39 h40
        go_wp2_with fail
        go_ret
        exact ⟨Or.inr ⟨HFB.out, _, rfl⟩, hR6.below⟩
      | true =>
        cases a2 : h.2.all plC with
        | false =>
          rw [a1] at HNM0
          have HNM := Lib.hid HNM0
          rw [a2] at HVL0
          have HVL := Lib.hid HVL0
          have HFB : Hid (fieldB h = false) := Lib.hid (by rw [HF3.out]; simp [a2])
          clear a1 a2 HNM0 HVL0 hqq
          refine wp_region_softG 20 (by kernel_rfl) (by kernel_rfl) (by rfl) hR ?_
          refine g_fa (g := gb) (k := 0) (off := 0) (by rfl) (by exact fun _ _ _ h => h) Tryz.underlying52 rfl ⟨0, by kernel_rfl⟩ rfl ?_
          refine g_cellw (g := gb) (k := 0) (v := .string (bs h.1)) (R := Is (.string (bs h.1))) (by rfl) (by exact fun _ _ _ h => h) (HN0.out) isAgg_str (stb_is _) (by exact fun _ _ => rfl) ?_
          refine g_callK (f := 46) (xs := [.tmp 23, .const (.int .i64 1), .const (.int .i64 64), .func 43]) [.string (bs h.1), .int .i64 1, .int .i64 64, .func (.func 43) #[] #[]] (R := Is (.bool true)) (by rfl) Tryz.func46 (by kernel_rfl) rfl (stb_is _) ⟨(by exact fun _ _ _ h => h), (by exact fun _ _ _ h => h), (by exact fun _ _ _ h => h), (by exact fun _ _ _ h => h), trivial⟩ (HNM.out) ?_
          refine g_not (b := true) (by rfl) (by exact fun _ _ _ h => h) ?_
          refine g_move (R := Is (.bool false)) (by rfl) (stb_is _) (by exact fun _ _ _ h => h) ?_
          refine g_fa (g := gb) (k := 0) (off := 1) (by rfl) (by exact fun _ _ _ h => h) Tryz.underlying52 rfl ⟨0, by kernel_rfl⟩ rfl ?_
          refine g_cellw (g := gb) (k := 1) (v := .string (bs h.2)) (R := Is (.string (bs h.2))) (by rfl) (by exact fun _ _ _ h => h) (HN1.out) isAgg_str (stb_is _) (by exact fun _ _ => rfl) ?_
          refine g_fa (g := gb) (k := 0) (off := 1) (by rfl) (by exact fun _ _ _ h => h) Tryz.underlying52 rfl ⟨0, by kernel_rfl⟩ rfl ?_
          refine g_cellw (g := gb) (k := 1) (v := .string (bs h.2)) (R := Is (.string (bs h.2))) (by rfl) (by exact fun _ _ _ h => h) (HN1.out) isAgg_str (stb_is _) (by exact fun _ _ => rfl) ?_
          refine g_lens (s := bs h.2) (by rfl) (by exact fun _ _ _ h => h) ?_
          refine g_callK (f := 46) (xs := [.tmp 28, .const (.int .i64 0), .tmp 31, .func 98]) [.string (bs h.2), .int .i64 0, .int .i64 ((bs h.2).size : Nat), .func (.func 98) #[] #[]] (R := Is (.bool false)) (by rfl) Tryz.func46 (by kernel_rfl) rfl (stb_is _) ⟨(by exact fun _ _ _ h => h), (by exact fun _ _ _ h => h), (by exact fun _ _ _ h => h), (by exact fun _ _ _ h => h), trivial⟩ (HVL.out) ?_
          refine g_not (b := false) (by rfl) (by exact fun _ _ _ h => h) ?_
          refine g_pick (b := false) (R := Is (.bool true)) (by rfl) (by exact fun _ _ _ h => h) (stb_is _) (by exact fun _ _ _ h => h) ?_
          refine g_move (R := Is (.bool true)) (by rfl) (stb_is _) (by exact fun _ _ _ h => h) ?_
          refine g_dead (dead_of rfl rfl (fun _ _ _ h => h) (by rfl)) ?_
          refine g_dead (dead_of rfl rfl (fun _ _ _ h => h) (by rfl)) ?_
          refine g_dead (dead_of rfl rfl (fun _ _ _ h => h) (by rfl)) ?_
          refine g_dead (dead_of rfl rfl (fun _ _ _ h => h) (by rfl)) ?_
          refine g_dead (dead_of rfl rfl (fun _ _ _ h => h) (by rfl)) ?_
          refine g_dead (dead_of rfl rfl (fun _ _ _ h => h) (by rfl)) ?_
          intro w6 hR6 hb6 v22 h22 v23 h23 v24 h24 v25 h25 v26 h26 v27 h27 v28 h28 v29 h29 v30 h30 v31 h31 v32 h32 v33 h33 v34 h34 v35 h35 v36 h36 v37 h37 v38 h38 v39 h39 v40 h40 v41 h41
          simp only [softEnd, Act.put, List.setIfInBounds_toArray, List.set_cons_succ, List.set_cons_zero, List.drop_succ_cons, List.drop_zero]
          obtain rfl : v35 = .bool true := h35
          obtain rfl : v41 = undef := h41
          clear h22 h23 h24 h25 h26 h27 h28 h29 h30 h31 h32 h33 h34 h36 h37 h38 h39 h40
          go_wp2_with fail
          go_ret
          exact ⟨Or.inr ⟨HFB.out, _, rfl⟩, hR6.below⟩
        | true =>
          by_cases a3 : trimS h.2 = h.2
          · skip
            rw [a1] at HNM0
            have HNM := Lib.hid HNM0
            rw [a2] at HVL0
            have HVL := Lib.hid HVL0
            rw [decide_eq_true a3] at hqq
            have HQ := Lib.hid hqq
            have HFB : Hid (fieldB h = true) := Lib.hid (by rw [HF3.out]; simp [a1, a2, a3])
            clear a1 a2 a3 HNM0 HVL0 hqq
            refine wp_region_softG 20 (by kernel_rfl) (by kernel_rfl) (by rfl) hR ?_
            refine g_fa (g := gb) (k := 0) (off := 0) (by rfl) (by exact fun _ _ _ h => h) Tryz.underlying52 rfl ⟨0, by kernel_rfl⟩ rfl ?_
            refine g_cellw (g := gb) (k := 0) (v := .string (bs h.1)) (R := Is (.string (bs h.1))) (by rfl) (by exact fun _ _ _ h => h) (HN0.out) isAgg_str (stb_is _) (by exact fun _ _ => rfl) ?_
            refine g_callK (f := 46) (xs := [.tmp 23, .const (.int .i64 1), .const (.int .i64 64), .func 43]) [.string (bs h.1), .int .i64 1, .int .i64 64, .func (.func 43) #[] #[]] (R := Is (.bool true)) (by rfl) Tryz.func46 (by kernel_rfl) rfl (stb_is _) ⟨(by exact fun _ _ _ h => h), (by exact fun _ _ _ h => h), (by exact fun _ _ _ h => h), (by exact fun _ _ _ h => h), trivial⟩ (HNM.out) ?_
            refine g_not (b := true) (by rfl) (by exact fun _ _ _ h => h) ?_
            refine g_move (R := Is (.bool false)) (by rfl) (stb_is _) (by exact fun _ _ _ h => h) ?_
            refine g_fa (g := gb) (k := 0) (off := 1) (by rfl) (by exact fun _ _ _ h => h) Tryz.underlying52 rfl ⟨0, by kernel_rfl⟩ rfl ?_
            refine g_cellw (g := gb) (k := 1) (v := .string (bs h.2)) (R := Is (.string (bs h.2))) (by rfl) (by exact fun _ _ _ h => h) (HN1.out) isAgg_str (stb_is _) (by exact fun _ _ => rfl) ?_
            refine g_fa (g := gb) (k := 0) (off := 1) (by rfl) (by exact fun _ _ _ h => h) Tryz.underlying52 rfl ⟨0, by kernel_rfl⟩ rfl ?_
            refine g_cellw (g := gb) (k := 1) (v := .string (bs h.2)) (R := Is (.string (bs h.2))) (by rfl) (by exact fun _ _ _ h => h) (HN1.out) isAgg_str (stb_is _) (by exact fun _ _ => rfl) ?_
            refine g_lens (s := bs h.2) (by rfl) (by exact fun _ _ _ h => h) ?_
            refine g_callK (f := 46) (xs := [.tmp 28, .const (.int .i64 0), .tmp 31, .func 98]) [.string (bs h.2), .int .i64 0, .int .i64 ((bs h.2).size : Nat), .func (.func 98) #[] #[]] (R := Is (.bool true)) (by rfl) Tryz.func46 (by kernel_rfl) rfl (stb_is _) ⟨(by exact fun _ _ _ h => h), (by exact fun _ _ _ h => h), (by exact fun _ _ _ h => h), (by exact fun _ _ _ h => h), trivial⟩ (HVL.out) ?_
            refine g_not (b := true) (by rfl) (by exact fun _ _ _ h => h) ?_
            refine g_pick (b := false) (R := Is (.bool false)) (by rfl) (by exact fun _ _ _ h => h) (stb_is _) (by exact fun _ _ _ h => h) ?_
            refine g_move (R := Is (.bool false)) (by rfl) (stb_is _) (by exact fun _ _ _ h => h) ?_
            refine g_fa (g := gb) (k := 0) (off := 1) (by rfl) (by exact fun _ _ _ h => h) Tryz.underlying52 rfl ⟨0, by kernel_rfl⟩ rfl ?_
            refine g_cellw (g := gb) (k := 1) (v := .string (bs h.2)) (R := Is (.string (bs h.2))) (by rfl) (by exact fun _ _ _ h => h) (HN1.out) isAgg_str (stb_is _) (by exact fun _ _ => rfl) ?_
            refine g_callK (f := 56) (xs := [.tmp 37, .const (.string ⟨#[32]⟩)]) [.string (bs h.2), .string ⟨#[32]⟩] (R := Is (.string (bs (trimS h.2)))) (by rfl) Tryz.func56 (by kernel_rfl) rfl (stb_is _) ⟨(by exact fun _ _ _ h => h), (by exact fun _ _ _ h => h), trivial⟩ (HTR.out) ?_
            refine g_fa (g := gb) (k := 0) (off := 1) (by rfl) (by exact fun _ _ _ h => h) Tryz.underlying52 rfl ⟨0, by kernel_rfl⟩ rfl ?_
            refine g_cellw (g := gb) (k := 1) (v := .string (bs h.2)) (R := Is (.string (bs h.2))) (by rfl) (by exact fun _ _ _ h => h) (HN1.out) isAgg_str (stb_is _) (by exact fun _ _ => rfl) ?_
            refine g_bin (v := .string (bs (trimS h.2))) (u := .string (bs h.2)) (r := .bool false) (by rfl) (by exact fun _ _ _ h => h) (by exact fun _ _ _ h => h) (by rfl) (fun W => bin_nes (r := true) _ _ HQ.out W) ?_
            intro w6 hR6 hb6 v22 h22 v23 h23 v24 h24 v25 h25 v26 h26 v27 h27 v28 h28 v29 h29 v30 h30 v31 h31 v32 h32 v33 h33 v34 h34 v35 h35 v36 h36 v37 h37 v38 h38 v39 h39 v40 h40 v41 h41
            simp only [softEnd, Act.put, List.setIfInBounds_toArray, List.set_cons_succ, List.set_cons_zero, List.drop_succ_cons, List.drop_zero]
            obtain rfl : v35 = .bool false := h35
            obtain rfl : v41 = .bool false := h41
            clear h22 h23 h24 h25 h26 h27 h28 h29 h30 h31 h32 h33 h34 h36 h37 h38 h39 h40
            go_wp2_with fail
            go_ret
            exact ⟨Or.inl ⟨HFB.out, rfl⟩, hR6.below⟩
          · skip
            rw [a1] at HNM0
            have HNM := Lib.hid HNM0
            rw [a2] at HVL0
            have HVL := Lib.hid HVL0
            rw [decide_eq_false a3] at hqq
            have HQ := Lib.hid hqq
            have HFB : Hid (fieldB h = false) := Lib.hid (by rw [HF3.out]; simp [a3])
            clear a1 a2 a3 HNM0 HVL0 hqq
            refine wp_region_softG 20 (by kernel_rfl) (by kernel_rfl) (by rfl) hR ?_
            refine g_fa (g := gb) (k := 0) (off := 0) (by rfl) (by exact fun _ _ _ h => h) Tryz.underlying52 rfl ⟨0, by kernel_rfl⟩ rfl ?_
            refine g_cellw (g := gb) (k := 0) (v := .string (bs h.1)) (R := Is (.string (bs h.1))) (by rfl) (by exact fun _ _ _ h => h) (HN0.out) isAgg_str (stb_is _) (by exact fun _ _ => rfl) ?_
            refine g_callK (f := 46) (xs := [.tmp 23, .const (.int .i64 1), .const (.int .i64 64), .func 43]) [.string (bs h.1), .int .i64 1, .int .i64 64, .func (.func 43) #[] #[]] (R := Is (.bool true)) (by rfl) Tryz.func46 (by kernel_rfl) rfl (stb_is _) ⟨(by exact fun _ _ _ h => h), (by exact fun _ _ _ h => h), (by exact fun _ _ _ h => h), (by exact fun _ _ _ h => h), trivial⟩ (HNM.out) ?_
            refine g_not (b := true) (by rfl) (by exact fun _ _ _ h => h) ?_
            refine g_move (R := Is (.bool false)) (by rfl) (stb_is _) (by exact fun _ _ _ h => h) ?_
            refine g_fa (g := gb) (k := 0) (off := 1) (by rfl) (by exact fun _ _ _ h => h) Tryz.underlying52 rfl ⟨0, by kernel_rfl⟩ rfl ?_
            refine g_cellw (g := gb) (k := 1) (v := .string (bs h.2)) (R := Is (.string (bs h.2))) (by rfl) (by exact fun _ _ _ h => h) (HN1.out) isAgg_str (stb_is _) (by exact fun _ _ => rfl) ?_
            refine g_fa (g := gb) (k := 0) (off := 1) (by rfl) (by exact fun _ _ _ h => h) Tryz.underlying52 rfl ⟨0, by kernel_rfl⟩ rfl ?_
            refine g_cellw (g := gb) (k := 1) (v := .string (bs h.2)) (R := Is (.string (bs h.2))) (by rfl) (by exact fun _ _ _ h => h) (HN1.out) isAgg_str (stb_is _) (by exact fun _ _ => rfl) ?_
            refine g_lens (s := bs h.2) (by rfl) (by exact fun _ _ _ h => h) ?_
            refine g_callK (f := 46) (xs := [.tmp 28, .const (.int .i64 0), .tmp 31, .func 98]) [.string (bs h.2), .int .i64 0, .int .i64 ((bs h.2).size : Nat), .func (.func 98) #[] #[]] (R := Is (.bool true)) (by rfl) Tryz.func46 (by kernel_rfl) rfl (stb_is _) ⟨(by exact fun _ _ _ h => h), (by exact fun _ _ _ h => h), (by exact fun _ _ _ h => h), (by exact fun _ _ _ h => h), trivial⟩ (HVL.out) ?_
            refine g_not (b := true) (by rfl) (by exact fun _ _ _ h => h) ?_
            refine g_pick (b := false) (R := Is (.bool false)) (by rfl) (by exact fun _ _ _ h => h) (stb_is _) (by exact fun _ _ _ h => h) ?_
            refine g_move (R := Is (.bool false)) (by rfl) (stb_is _) (by exact fun _ _ _ h => h) ?_
            refine g_fa (g := gb) (k := 0) (off := 1) (by rfl) (by exact fun _ _ _ h => h) Tryz.underlying52 rfl ⟨0, by kernel_rfl⟩ rfl ?_
            refine g_cellw (g := gb) (k := 1) (v := .string (bs h.2)) (R := Is (.string (bs h.2))) (by rfl) (by exact fun _ _ _ h => h) (HN1.out) isAgg_str (stb_is _) (by exact fun _ _ => rfl) ?_
            refine g_callK (f := 56) (xs := [.tmp 37, .const (.string ⟨#[32]⟩)]) [.string (bs h.2), .string ⟨#[32]⟩] (R := Is (.string (bs (trimS h.2)))) (by rfl) Tryz.func56 (by kernel_rfl) rfl (stb_is _) ⟨(by exact fun _ _ _ h => h), (by exact fun _ _ _ h => h), trivial⟩ (HTR.out) ?_
            refine g_fa (g := gb) (k := 0) (off := 1) (by rfl) (by exact fun _ _ _ h => h) Tryz.underlying52 rfl ⟨0, by kernel_rfl⟩ rfl ?_
            refine g_cellw (g := gb) (k := 1) (v := .string (bs h.2)) (R := Is (.string (bs h.2))) (by rfl) (by exact fun _ _ _ h => h) (HN1.out) isAgg_str (stb_is _) (by exact fun _ _ => rfl) ?_
            refine g_bin (v := .string (bs (trimS h.2))) (u := .string (bs h.2)) (r := .bool true) (by rfl) (by exact fun _ _ _ h => h) (by exact fun _ _ _ h => h) (by rfl) (fun W => bin_nes (r := false) _ _ HQ.out W) ?_
            intro w6 hR6 hb6 v22 h22 v23 h23 v24 h24 v25 h25 v26 h26 v27 h27 v28 h28 v29 h29 v30 h30 v31 h31 v32 h32 v33 h33 v34 h34 v35 h35 v36 h36 v37 h37 v38 h38 v39 h39 v40 h40 v41 h41
            simp only [softEnd, Act.put, List.setIfInBounds_toArray, List.set_cons_succ, List.set_cons_zero, List.drop_succ_cons, List.drop_zero]
            obtain rfl : v35 = .bool false := h35
            obtain rfl : v41 = .bool true := h41
            clear h22 h23 h24 h25 h26 h27 h28 h29 h30 h31 h32 h33 h34 h36 h37 h38 h39 h40
            go_wp2_with fail
            go_ret
            exact ⟨Or.inr ⟨HFB.out, _, rfl⟩, hR6.below⟩
  · have q3 : ((bs h.1).toList == [104, 111, 115, 116]) = false := by rw [bs_list, beqL]; exact decide_eq_false c3
    have HF3 : Hid (fieldB h = (ofB 1 64 smC h.1 && h.2.all plC && decide (trimS h.2 = h.2))) := Lib.hid (by rw [HF2.out, decide_eq_false c3]; rfl)
    clear c3 HF2
    go_enter Tryz.func76, Tryz.ntmps76
    go_upto_region 1 with (refine wpList_box_rws rfl _ _ (by rfl) (by exact hR) #[.string (bs h.1), .string (bs h.2)] rfl ?_; intro gb w1 hR)
    have HN0 : Hid (∀ u, Below w1.heap.size w1 u → u.cell? ⟨gb, 0, none⟩ = some (.string (bs h.1))) := Lib.hid fun u hb => (hb.cell (p := ⟨gb, 0, none⟩) (hR.lt (x := _) (by repeat (first | exact List.Mem.head _ | refine List.Mem.tail _ ?_)))).trans (hR.cellAt (g := gb) (by repeat (first | exact List.Mem.head _ | refine List.Mem.tail _ ?_)) 0 rfl)
    have HN1 : Hid (∀ u, Below w1.heap.size w1 u → u.cell? ⟨gb, 1, none⟩ = some (.string (bs h.2))) := Lib.hid fun u hb => (hb.cell (p := ⟨gb, 1, none⟩) (hR.lt (x := _) (by repeat (first | exact List.Mem.head _ | refine List.Mem.tail _ ?_)))).trans (hR.cellAt (g := gb) (by repeat (first | exact List.Mem.head _ | refine List.Mem.tail _ ?_)) 1 rfl)
    have HNM0 : ∀ u, Below w1.heap.size w1 u → Calls Tryz.prog 46 #[.string (bs h.1), .int .i64 1, .int .i64 64, .func (.func 43) #[] #[]] u (RW (Is (.bool (ofB 1 64 smC h.1))) u) := fun u _ => (of_any _ smC lk_small h.1 1 64 u (by omega)).mono fun _ _ h => rw_same h
    have HVL0 : ∀ u, Below w1.heap.size w1 u → Calls Tryz.prog 46 #[.string (bs h.2), .int .i64 0, .int .i64 ((bs h.2).size : Nat), .func (.func 98) #[] #[]] u (RW (Is (.bool (h.2.all plC))) u) := fun u _ => by
      have := of_any _ plC lk_plain h.2 0 h.2.length u (by omega)
      rw [bs_size]
      rw [show ofB 0 h.2.length plC h.2 = h.2.all plC by unfold ofB; simp] at this
      exact this.mono fun _ _ h => rw_same h
    have HTR : Hid (∀ u, Below w1.heap.size w1 u → Calls Tryz.prog 56 #[.string (bs h.2), .string ⟨#[32]⟩] u (RW (Is (.string (bs (trimS h.2)))) u)) := Lib.hid fun u _ => trim_any h.2 u (by omega)
    have hqq : ((bs (trimS h.2)).toList == (bs h.2).toList) = decide (trimS h.2 = h.2) := by rw [bs_list, bs_list, beqL]
    have n0 : w1.cell? ⟨gb, 0, none⟩ = some (.string (bs h.1)) := hR.cellAt (g := gb) (List.Mem.head _) 0 rfl
    have n1 : w1.cell? ⟨gb, 1, none⟩ = some (.string (bs h.2)) := hR.cellAt (g := gb) (List.Mem.head _) 1 rfl

    go_upto_region 8 with fail
    clear n0 n1
    cases a1 : ofB 1 64 smC h.1 with
    | false =>
      rw [a1] at HNM0
      have HNM := Lib.hid HNM0
      have HFB : Hid (fieldB h = false) := Lib.hid (by rw [HF3.out]; simp [a1])
      clear a1 HNM0 HVL0 hqq
      refine wp_region_softG 20 (by kernel_rfl) (by kernel_rfl) (by rfl) hR ?_
      refine g_fa (g := gb) (k := 0) (off := 0) (by rfl) (by exact fun _ _ _ h => h) Tryz.underlying52 rfl ⟨0, by kernel_rfl⟩ rfl ?_
      refine g_cellw (g := gb) (k := 0) (v := .string (bs h.1)) (R := Is (.string (bs h.1))) (by rfl) (by exact fun _ _ _ h => h) (HN0.out) isAgg_str (stb_is _) (by exact fun _ _ => rfl) ?_
      refine g_callK (f := 46) (xs := [.tmp 23, .const (.int .i64 1), .const (.int .i64 64), .func 43]) [.string (bs h.1), .int .i64 1, .int .i64 64, .func (.func 43) #[] #[]] (R := Is (.bool false)) (by rfl) Tryz.func46 (by kernel_rfl) rfl (stb_is _) ⟨(by exact fun _ _ _ h => h), (by exact fun _ _ _ h => h), (by exact fun _ _ _ h => h), (by exact fun _ _ _ h => h), trivial⟩ (HNM.out) ?_
      refine g_not (b := false) (by rfl) (by exact fun _ _ _ h => h) ?_
      refine g_move (R := Is (.bool true)) (by rfl) (stb_is _) (by exact fun _ _ _ h => h) ?_
      refine g_dead (dead_of rfl rfl (fun _ _ _ h => h) (by rfl)) ?_
      refine g_dead (dead_of rfl rfl (fun _ _ _ h => h) (by rfl)) ?_
      refine g_dead (dead_of rfl rfl (fun _ _ _ h => h) (by rfl)) ?_
      refine g_dead (dead_of rfl rfl (fun _ _ _ h => h) (by rfl)) ?_
      refine g_dead (dead_of rfl rfl (fun _ _ _ h => h) (by rfl)) ?_
      refine g_dead (dead_of rfl rfl (fun _ _ _ h => h) (by rfl)) ?_
      refine g_dead (dead_of rfl rfl (fun _ _ _ h => h) (by rfl)) ?_
      refine g_pick (b := true) (R := Is (.bool true)) (by rfl) (by exact fun _ _ _ h => h) (stb_is _) (by exact fun _ _ _ h => h) ?_
      refine g_move (R := Is (.bool true)) (by rfl) (stb_is _) (by exact fun _ _ _ h => h) ?_
      refine g_dead (dead_of rfl rfl (fun _ _ _ h => h) (by rfl)) ?_
      refine g_dead (dead_of rfl rfl (fun _ _ _ h => h) (by rfl)) ?_
      refine g_dead (dead_of rfl rfl (fun _ _ _ h => h) (by rfl)) ?_
      refine g_dead (dead_of rfl rfl (fun _ _ _ h => h) (by rfl)) ?_
      refine g_dead (dead_of rfl rfl (fun _ _ _ h => h) (by rfl)) ?_
      refine g_dead (dead_of rfl rfl (fun _ _ _ h => h) (by rfl)) ?_
      intro w6 hR6 hb6 v22 h22 v23 h23 v24 h24 v25 h25 v26 h26 v27 h27 v28 h28 v29 h29 v30 h30 v31 h31 v32 h32 v33 h33 v34 h34 v35 h35 v36 h36 v37 h37 v38 h38 v39 h39 v40 h40 v41 h41
      simp only [softEnd, Act.put, List.setIfInBounds_toArray, List.set_cons_succ, List.set_cons_zero, List.drop_succ_cons, List.drop_zero]
      obtain rfl : v35 = .bool true := h35
      obtain rfl : v41 = undef := h41
      clear h22 h23 h24 h25 h26 h27 h28 h29 h30 h31 h32 h33 h34 h36 h37 h38 h39 h40
      go_wp2_with fail
      go_ret
      exact ⟨Or.inr ⟨HFB.out, _, rfl⟩, hR6.below⟩
    | true =>
      cases a2 : h.2.all plC with
      | false =>
        rw [a1] at HNM0
        have HNM := Lib.hid HNM0
        rw [a2] at HVL0
        have HVL := Lib.hid HVL0
        have HFB : Hid (fieldB h = false) := Lib.hid (by rw [HF3.out]; simp [a2])
        clear a1 a2 HNM0 HVL0 hqq
        refine wp_region_softG 20 (by kernel_rfl) (by kernel_rfl) (by rfl) hR ?_
        refine g_fa (g := gb) (k := 0) (off := 0) (by rfl) (by exact fun _ _ _ h => h) Tryz.underlying52 rfl ⟨0, by kernel_rfl⟩ rfl ?_
        refine g_cellw (g := gb) (k := 0) (v := .string (bs h.1)) (R := Is (.string (bs h.1))) (by rfl) (by exact fun _ _ _ h => h) (HN0.out) isAgg_str (stb_is _) (by exact fun _ _ => rfl) ?_
        refine g_callK (f := 46) (xs := [.tmp 23, .const (.int .i64 1), .const (.int .i64 64), .func 43]) [.string (bs h.1), .int .i64 1, .int .i64 64, .func (.func 43) #[] #[]] (R := Is (.bool true)) (by rfl) Tryz.func46 (by kernel_rfl) rfl (stb_is _) ⟨(by exact fun _ _ _ h => h), (by exact fun _ _ _ h => h), (by exact fun _ _ _ h => h), (by exact fun _ _ _ h => h), trivial⟩ (HNM.out) ?_
        refine g_not (b := true) (by rfl) (by exact fun _ _ _ h => h) ?_
        refine g_move (R := Is (.bool false)) (by rfl) (stb_is _) (by exact fun _ _ _ h => h) ?_
        refine g_fa (g := gb) (k := 0) (off := 1) (by rfl) (by exact fun _ _ _ h => h) Tryz.underlying52 rfl ⟨0, by kernel_rfl⟩ rfl ?_
        refine g_cellw (g := gb) (k := 1) (v := .string (bs h.2)) (R := Is (.string (bs h.2))) (by rfl) (by exact fun _ _ _ h => h) (HN1.out) isAgg_str (stb_is _) (by exact fun _ _ => rfl) ?_
        refine g_fa (g := gb) (k := 0) (off := 1) (by rfl) (by exact fun _ _ _ h => h) Tryz.underlying52 rfl ⟨0, by kernel_rfl⟩ rfl ?_
        refine g_cellw (g := gb) (k := 1) (v := .string (bs h.2)) (R := Is (.string (bs h.2))) (by rfl) (by exact fun _ _ _ h => h) (HN1.out) isAgg_str (stb_is _) (by exact fun _ _ => rfl) ?_
        refine g_lens (s := bs h.2) (by rfl) (by exact fun _ _ _ h => h) ?_
        refine g_callK (f := 46) (xs := [.tmp 28, .const (.int .i64 0), .tmp 31, .func 98]) [.string (bs h.2), .int .i64 0, .int .i64 ((bs h.2).size : Nat), .func (.func 98) #[] #[]] (R := Is (.bool false)) (by rfl) Tryz.func46 (by kernel_rfl) rfl (stb_is _) ⟨(by exact fun _ _ _ h => h), (by exact fun _ _ _ h => h), (by exact fun _ _ _ h => h), (by exact fun _ _ _ h => h), trivial⟩ (HVL.out) ?_
        refine g_not (b := false) (by rfl) (by exact fun _ _ _ h => h) ?_
        refine g_pick (b := false) (R := Is (.bool true)) (by rfl) (by exact fun _ _ _ h => h) (stb_is _) (by exact fun _ _ _ h => h) ?_
        refine g_move (R := Is (.bool true)) (by rfl) (stb_is _) (by exact fun _ _ _ h => h) ?_
        refine g_dead (dead_of rfl rfl (fun _ _ _ h => h) (by rfl)) ?_
        refine g_dead (dead_of rfl rfl (fun _ _ _ h => h) (by rfl)) ?_
        refine g_dead (dead_of rfl rfl (fun _ _ _ h => h) (by rfl)) ?_
        refine g_dead (dead_of rfl rfl (fun _ _ _ h => h) (by rfl)) ?_
        refine g_dead (dead_of rfl rfl (fun _ _ _ h => h) (by rfl)) ?_
        refine g_dead (dead_of rfl rfl (fun _ _ _ h => h) (by rfl)) ?_
        intro w6 hR6 hb6 v22 h22 v23 h23 v24 h24 v25 h25 v26 h26 v27 h27 v28 h28 v29 h29 v30 h30 v31 h31 v32 h32 v33 h33 v34 h34 v35 h35 v36 h36 v37 h37 v38 h38 v39 h39 v40 h40 v41 h41
        simp only [softEnd, Act.put, List.setIfInBounds_toArray, List.set_cons_succ, List.set_cons_zero, List.drop_succ_cons, List.drop_zero]
        obtain rfl : v35 = .bool true := h35
        obtain rfl : v41 = undef := h41
        clear h22 h23 h24 h25 h26 h27 h28 h29 h30 h31 h32 h33 h34 h36 h37 h38 h39 h40
        go_wp2_with fail
        go_ret
        exact ⟨Or.inr ⟨HFB.out, _, rfl⟩, hR6.below⟩
      | true =>
        by_cases a3 : trimS h.2 = h.2
        · skip
          rw [a1] at HNM0
          have HNM := Lib.hid HNM0
          rw [a2] at HVL0
          have HVL := Lib.hid HVL0
          rw [decide_eq_true a3] at hqq
          have HQ := Lib.hid hqq
          have HFB : Hid (fieldB h = true) := Lib.hid (by rw [HF3.out]; simp [a1, a2, a3])
          clear a1 a2 a3 HNM0 HVL0 hqq
          refine wp_region_softG 20 (by kernel_rfl) (by kernel_rfl) (by rfl) hR ?_
          refine g_fa (g := gb) (k := 0) (off := 0) (by rfl) (by exact fun _ _ _ h => h) Tryz.underlying52 rfl ⟨0, by kernel_rfl⟩ rfl ?_
          refine g_cellw (g := gb) (k := 0) (v := .string (bs h.1)) (R := Is (.string (bs h.1))) (by rfl) (by exact fun _ _ _ h => h) (HN0.out) isAgg_str (stb_is _) (by exact fun _ _ => rfl) ?_
          refine g_callK (f := 46) (xs := [.tmp 23, .const (.int .i64 1), .const (.int .i64 64), .func 43]) [.string (bs h.1), .int .i64 1, .int .i64 64, .func (.func 43) #[] #[]] (R := Is (.bool true)) (by rfl) Tryz.func46 (by kernel_rfl) rfl (stb_is _) ⟨(by exact fun _ _ _ h => h), (by exact fun _ _ _ h => h), (by exact fun _ _ _ h => h), (by exact fun _ _ _ h => h), trivial⟩ (HNM.out) ?_
          refine g_not (b := true) (by rfl) (by exact fun _ _ _ h => h) ?_
          refine g_move (R := Is (.bool false)) (by rfl) (stb_is _) (by exact fun _ _ _ h => h) ?_
          refine g_fa (g := gb) (k := 0) (off := 1) (by rfl) (by exact fun _ _ _ h => h) Tryz.underlying52 rfl ⟨0, by kernel_rfl⟩ rfl ?_
          refine g_cellw (g := gb) (k := 1) (v := .string (bs h.2)) (R := Is (.string (bs h.2))) (by rfl) (by exact fun _ _ _ h => h) (HN1.out) isAgg_str (stb_is _) (by exact fun _ _ => rfl) ?_
          refine g_fa (g := gb) (k := 0) (off := 1) (by rfl) (by exact fun _ _ _ h => h) Tryz.underlying52 rfl ⟨0, by kernel_rfl⟩ rfl ?_
          refine g_cellw (g := gb) (k := 1) (v := .string (bs h.2)) (R := Is (.string (bs h.2))) (by rfl) (by exact fun _ _ _ h => h) (HN1.out) isAgg_str (stb_is _) (by exact fun _ _ => rfl) ?_
          refine g_lens (s := bs h.2) (by rfl) (by exact fun _ _ _ h => h) ?_
          refine g_callK (f := 46) (xs := [.tmp 28, .const (.int .i64 0), .tmp 31, .func 98]) [.string (bs h.2), .int .i64 0, .int .i64 ((bs h.2).size : Nat), .func (.func 98) #[] #[]] (R := Is (.bool true)) (by rfl) Tryz.func46 (by kernel_rfl) rfl (stb_is _) ⟨(by exact fun _ _ _ h => h), (by exact fun _ _ _ h => h), (by exact fun _ _ _ h => h), (by exact fun _ _ _ h => h), trivial⟩ (HVL.out) ?_
          refine g_not (b := true) (by rfl) (by exact fun _ _ _ h => h) ?_
          refine g_pick (b := false) (R := Is (.bool false)) (by rfl) (by exact fun _ _ _ h => h) (stb_is _) (by exact fun _ _ _ h => h) ?_
          refine g_move (R := Is (.bool false)) (by rfl) (stb_is _) (by exact fun _ _ _ h => h) ?_
          refine g_fa (g := gb) (k := 0) (off := 1) (by rfl) (by exact fun _ _ _ h => h) Tryz.underlying52 rfl ⟨0, by kernel_rfl⟩ rfl ?_
          refine g_cellw (g := gb) (k := 1) (v := .string (bs h.2)) (R := Is (.string (bs h.2))) (by rfl) (by exact fun _ _ _ h => h) (HN1.out) isAgg_str (stb_is _) (by exact fun _ _ => rfl) ?_
          refine g_callK (f := 56) (xs := [.tmp 37, .const (.string ⟨#[32]⟩)]) [.string (bs h.2), .string ⟨#[32]⟩] (R := Is (.string (bs (trimS h.2)))) (by rfl) Tryz.func56 (by kernel_rfl) rfl (stb_is _) ⟨(by exact fun _ _ _ h => h), (by exact fun _ _ _ h => h), trivial⟩ (HTR.out) ?_
          refine g_fa (g := gb) (k := 0) (off := 1) (by rfl) (by exact fun _ _ _ h => h) Tryz.underlying52 rfl ⟨0, by kernel_rfl⟩ rfl ?_
          refine g_cellw (g := gb) (k := 1) (v := .string (bs h.2)) (R := Is (.string (bs h.2))) (by rfl) (by exact fun _ _ _ h => h) (HN1.out) isAgg_str (stb_is _) (by exact fun _ _ => rfl) ?_
          refine g_bin (v := .string (bs (trimS h.2))) (u := .string (bs h.2)) (r := .bool false) (by rfl) (by exact fun _ _ _ h => h) (by exact fun _ _ _ h => h) (by rfl) (fun W => bin_nes (r := true) _ _ HQ.out W) ?_
          intro w6 hR6 hb6 v22 h22 v23 h23 v24 h24 v25 h25 v26 h26 v27 h27 v28 h28 v29 h29 v30 h30 v31 h31 v32 h32 v33 h33 v34 h34 v35 h35 v36 h36 v37 h37 v38 h38 v39 h39 v40 h40 v41 h41
          simp only [softEnd, Act.put, List.setIfInBounds_toArray, List.set_cons_succ, List.set_cons_zero, List.drop_succ_cons, List.drop_zero]
          obtain rfl : v35 = .bool false := h35
          obtain rfl : v41 = .bool false := h41
          clear h22 h23 h24 h25 h26 h27 h28 h29 h30 h31 h32 h33 h34 h36 h37 h38 h39 h40
          go_wp2_with fail
          go_ret
          exact ⟨Or.inl ⟨HFB.out, rfl⟩, hR6.below⟩
        · skip
          rw [a1] at HNM0
          have HNM := Lib.hid HNM0
          rw [a2] at HVL0
          have HVL := Lib.hid HVL0
          rw [decide_eq_false a3] at hqq
          have HQ := Lib.hid hqq
          have HFB : Hid (fieldB h = false) := Lib.hid (by rw [HF3.out]; simp [a3])
          clear a1 a2 a3 HNM0 HVL0 hqq
          refine wp_region_softG 20 (by kernel_rfl) (by kernel_rfl) (by rfl) hR ?_
          refine g_fa (g := gb) (k := 0) (off := 0) (by rfl) (by exact fun _ _ _ h => h) Tryz.underlying52 rfl ⟨0, by kernel_rfl⟩ rfl ?_
          refine g_cellw (g := gb) (k := 0) (v := .string (bs h.1)) (R := Is (.string (bs h.1))) (by rfl) (by exact fun _ _ _ h => h) (HN0.out) isAgg_str (stb_is _) (by exact fun _ _ => rfl) ?_
          refine g_callK (f := 46) (xs := [.tmp 23, .const (.int .i64 1), .const (.int .i64 64), .func 43]) [.string (bs h.1), .int .i64 1, .int .i64 64, .func (.func 43) #[] #[]] (R := Is (.bool true)) (by rfl) Tryz.func46 (by kernel_rfl) rfl (stb_is _) ⟨(by exact fun _ _ _ h => h), (by exact fun _ _ _ h => h), (by exact fun _ _ _ h => h), (by exact fun _ _ _ h => h), trivial⟩ (HNM.out) ?_
          refine g_not (b := true) (by rfl) (by exact fun _ _ _ h => h) ?_
          refine g_move (R := Is (.bool false)) (by rfl) (stb_is _) (by exact fun _ _ _ h => h) ?_
          refine g_fa (g := gb) (k := 0) (off := 1) (by rfl) (by exact fun _ _ _ h => h) Tryz.underlying52 rfl ⟨0, by kernel_rfl⟩ rfl ?_
          refine g_cellw (g := gb) (k := 1) (v := .string (bs h.2)) (R := Is (.string (bs h.2))) (by rfl) (by exact fun _ _ _ h => h) (HN1.out) isAgg_str (stb_is _) (by exact fun _ _ => rfl) ?_
          refine g_fa (g := gb) (k := 0) (off := 1) (by rfl) (by exact fun _ _ _ h => h) Tryz.underlying52 rfl ⟨0, by kernel_rfl⟩ rfl ?_
          refine g_cellw (g := gb) (k := 1) (v := .string (bs h.2)) (R := Is (.string (bs h.2))) (by rfl) (by exact fun _ _ _ h => h) (HN1.out) isAgg_str (stb_is _) (by exact fun _ _ => rfl) ?_
          refine g_lens (s := bs h.2) (by rfl) (by exact fun _ _ _ h => h) ?_
          refine g_callK (f := 46) (xs := [.tmp 28, .const (.int .i64 0), .tmp 31, .func 98]) [.string (bs h.2), .int .i64 0, .int .i64 ((bs h.2).size : Nat), .func (.func 98) #[] #[]] (R := Is (.bool true)) (by rfl) Tryz.func46 (by kernel_rfl) rfl (stb_is _) ⟨(by exact fun _ _ _ h => h), (by exact fun _ _ _ h => h), (by exact fun _ _ _ h => h), (by exact fun _ _ _ h => h), trivial⟩ (HVL.out) ?_
          refine g_not (b := true) (by rfl) (by exact fun _ _ _ h => h) ?_
          refine g_pick (b := false) (R := Is (.bool false)) (by rfl) (by exact fun _ _ _ h => h) (stb_is _) (by exact fun _ _ _ h => h) ?_
          refine g_move (R := Is (.bool false)) (by rfl) (stb_is _) (by exact fun _ _ _ h => h) ?_
          refine g_fa (g := gb) (k := 0) (off := 1) (by rfl) (by exact fun _ _ _ h => h) Tryz.underlying52 rfl ⟨0, by kernel_rfl⟩ rfl ?_
          refine g_cellw (g := gb) (k := 1) (v := .string (bs h.2)) (R := Is (.string (bs h.2))) (by rfl) (by exact fun _ _ _ h => h) (HN1.out) isAgg_str (stb_is _) (by exact fun _ _ => rfl) ?_
          refine g_callK (f := 56) (xs := [.tmp 37, .const (.string ⟨#[32]⟩)]) [.string (bs h.2), .string ⟨#[32]⟩] (R := Is (.string (bs (trimS h.2)))) (by rfl) Tryz.func56 (by kernel_rfl) rfl (stb_is _) ⟨(by exact fun _ _ _ h => h), (by exact fun _ _ _ h => h), trivial⟩ (HTR.out) ?_
          refine g_fa (g := gb) (k := 0) (off := 1) (by rfl) (by exact fun _ _ _ h => h) Tryz.underlying52 rfl ⟨0, by kernel_rfl⟩ rfl ?_
          refine g_cellw (g := gb) (k := 1) (v := .string (bs h.2)) (R := Is (.string (bs h.2))) (by rfl) (by exact fun _ _ _ h => h) (HN1.out) isAgg_str (stb_is _) (by exact fun _ _ => rfl) ?_
          refine g_bin (v := .string (bs (trimS h.2))) (u := .string (bs h.2)) (r := .bool true) (by rfl) (by exact fun _ _ _ h => h) (by exact fun _ _ _ h => h) (by rfl) (fun W => bin_nes (r := false) _ _ HQ.out W) ?_
          intro w6 hR6 hb6 v22 h22 v23 h23 v24 h24 v25 h25 v26 h26 v27 h27 v28 h28 v29 h29 v30 h30 v31 h31 v32 h32 v33 h33 v34 h34 v35 h35 v36 h36 v37 h37 v38 h38 v39 h39 v40 h40 v41 h41
          simp only [softEnd, Act.put, List.setIfInBounds_toArray, List.set_cons_succ, List.set_cons_zero, List.drop_succ_cons, List.drop_zero]
          obtain rfl : v35 = .bool false := h35
          obtain rfl : v41 = .bool true := h41
          clear h22 h23 h24 h25 h26 h27 h28 h29 h30 h31 h32 h33 h34 h36 h37 h38 h39 h40
          go_wp2_with fail
          go_ret
          exact ⟨Or.inr ⟨HFB.out, _, rfl⟩, hR6.below⟩
end Go.Proofs.YtipjkjcmceeaeaaGreatDoor
