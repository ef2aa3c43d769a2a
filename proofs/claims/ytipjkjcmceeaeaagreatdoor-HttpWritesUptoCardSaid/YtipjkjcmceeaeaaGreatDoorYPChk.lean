/- http.Check, Print: the walks. -/
import Derived.Test.YtipjkjcmceeaeaaGreatDoorYRChk
import Derived.Test.YtipjkjcmceeaeaaGreatDoorYPHead
namespace Go.Proofs.YtipjkjcmceeaeaaGreatDoor
open Go.RowKit

set_option maxRecDepth 100000 in
set_option maxHeartbeats 8000000 in
theorem Check_any (q : Rq) (ad : Option Addr) (c : Nat) (w : World) (hs : SlH w q.hs ad c) (hq : SmallQ q) (hgw : Gw w) : Calls Tryz.prog 23 #[rqv q ad c] w (RetI (checkS q) w) := by
  have hMX := MX_eq
  have hql := hq.k
  have hqb := hq.b
  have hR := Rws.start w
  have hcm := hs.2.1
  have hle := hs.1
  have HHD : Hid (∀ u, Below w.heap.size w u → Calls Tryz.prog 40 #[rqv q ad c] u (RetS (bs (headS q)) u)) := Lib.hid fun u hb => head_any q ad c u (hs.grown hb) hq (hgw.below hb)
  have zb := bs_size q.b
  obtain ⟨T, hT⟩ : ∃ T, T = headS q := ⟨_, rfl⟩
  rw [← hT] at HHD
  have zt := bs_size T
  have HFM0 : q.hs.length ≤ 31 → ∀ u, Below w.heap.size w u → Calls Tryz.prog 51 #[rqv q ad c] u (FormPost q u) := fun h u hb => form_any q ad c u (hs.grown hb) hq h
  clear hs hq hgw
  go_enter Tryz.func23, Tryz.ntmps23
  go_upto_region 1 with (refine wpList_box_rws rfl _ _ (by rfl) (by exact hR) (rqC q ad c) rfl ?_; intro gb w1 hR)
  have f0 : w1.cell? ⟨gb, 0, none⟩ = some (.string (bs q.m)) := hR.cellAt (g := gb) (List.Mem.head _) 0 rfl
  have f1 : w1.cell? ⟨gb, 1, none⟩ = some (.string (bs q.t)) := hR.cellAt (g := gb) (List.Mem.head _) 1 rfl
  have f2 : w1.cell? ⟨gb, 2, none⟩ = some (.slice ad q.hs.length c) := hR.cellAt (g := gb) (List.Mem.head _) 2 rfl
  have f3 : w1.cell? ⟨gb, 3, none⟩ = some (.string (bs q.b)) := hR.cellAt (g := gb) (List.Mem.head _) 3 rfl
  by_cases h31 : 31 < q.hs.length
  · have z : (31 : Int) < (q.hs.length : Int) := by omega
    have HC : Hid (checkS q = 152) := Lib.hid (by unfold checkS; rw [if_pos h31])
    clear h31 hT HFM0
    go_wp2_with fail
    go_ret
    rw [HC.out]
    exact ⟨rfl, hR.below⟩
  have z : ¬ (31 : Int) < (q.hs.length : Int) := by omega
  cases hf : formB q with
  | false =>
    have HC : Hid (checkS q = 151) := Lib.hid (by unfold checkS; rw [if_neg h31, if_pos hf])
    have HFM : Hid (∀ u, Below w.heap.size w u → Calls Tryz.prog 51 #[rqv q ad c] u fun e w' => (∃ why, e = .returned (wrV why sHead)) ∧ Below u.heap.size u w') := Lib.hid fun u hb => (HFM0 (by omega) u hb).mono fun e w' hh => by
      obtain ⟨⟨h1, _⟩ | ⟨_, h2⟩, hb⟩ := hh
      · rw [hf] at h1; cases h1
      · exact ⟨h2, hb⟩
    have HTD : Hid (∀ why u, Calls Tryz.prog 30 #[wrV why sHead] u (RetI 151 u)) := Lib.hid fun why u => told_any _ 151 u (Or.inr ⟨sHead, Or.inr ⟨why, rfl⟩, Or.inl ⟨rfl, rfl⟩⟩)
    clear hf h31 hT HFM0
    go_wp2_with (first
      | (refine wpList_load_rws rfl _ _ (by rfl) (by exact hR) gb rfl _ _ (by repeat (first | exact List.Mem.head _ | refine List.Mem.tail _ ?_)) _ Tryz.underlying24 rfl (by kernel_rfl) ?_)
      | (go_at_call 51; refine (HFM.out _ hR.below).mono ?_; rintro e w2 ⟨⟨why, rfl⟩, hb2⟩; have hR2 := hR.call hb2)
      | (go_at_call 30; refine (HTD.out _ _).mono ?_; rintro e w2b ⟨rfl, hb2b⟩; have hR2 := hR2.call hb2b))
    go_ret
    rw [HC.out]
    exact ⟨rfl, hR2.below⟩
  | true =>
    have HFM : Hid (∀ u, Below w.heap.size w u → Calls Tryz.prog 51 #[rqv q ad c] u fun e w' => e = .returned .nilIface ∧ Below u.heap.size u w') := Lib.hid fun u hb => (HFM0 (by omega) u hb).mono fun e w' hh => by
      obtain ⟨⟨_, h1⟩ | ⟨h1, _⟩, hb⟩ := hh
      · exact ⟨h1, hb⟩
      · rw [hf] at h1; cases h1
    have HTD : Hid (∀ u, Calls Tryz.prog 30 #[.nilIface] u (RetI 0 u)) := Lib.hid fun u => told_any _ 0 u (Or.inl ⟨rfl, rfl⟩)
    have HC0 : Hid (checkS q = if 8192 < q.b.length ∨ 8192 < T.length then 152 else 0) := Lib.hid (by unfold checkS; rw [if_neg h31, if_neg (by rw [hf]; decide), hT])
    clear hf h31 hT HFM0
    go_upto_region 6 with (first
      | (refine wpList_load_rws rfl _ _ (by rfl) (by exact hR) gb rfl _ _ (by repeat (first | exact List.Mem.head _ | refine List.Mem.tail _ ?_)) _ Tryz.underlying24 rfl (by kernel_rfl) ?_)
      | (go_at_call 51; refine (HFM.out _ hR.below).mono ?_; rintro e w2b ⟨rfl, hb2b⟩; have hR2 := hR.call hb2b)
      | (go_at_call 30; refine (HTD.out _).mono ?_; rintro e w2 ⟨rfl, hb2⟩; have hR2 := hR2.call hb2))
    clear f0 f1 f2 f3
    have hR := hR2
    have f0 : w2.cell? ⟨gb, 0, none⟩ = some (.string (bs q.m)) := hR.cellAt (g := gb) (List.Mem.head _) 0 rfl
    have f1 : w2.cell? ⟨gb, 1, none⟩ = some (.string (bs q.t)) := hR.cellAt (g := gb) (List.Mem.head _) 1 rfl
    have f2 : w2.cell? ⟨gb, 2, none⟩ = some (.slice ad q.hs.length c) := hR.cellAt (g := gb) (List.Mem.head _) 2 rfl
    have f3 : w2.cell? ⟨gb, 3, none⟩ = some (.string (bs q.b)) := hR.cellAt (g := gb) (List.Mem.head _) 3 rfl
    by_cases h8 : 8192 < q.b.length
    · have z8 : (8192 : Int) < (q.b.length : Int) := by omega
      have HC : Hid (checkS q = 152) := Lib.hid (by rw [HC0.out, if_pos (Or.inl h8)])
      clear h8
      go_wp2_with fail
      go_ret
      rw [HC.out]
      exact ⟨rfl, hR.below⟩
    have z8 : ¬ (8192 : Int) < (q.b.length : Int) := by omega
    by_cases h9 : 8192 < T.length
    · have z9 : (8192 : Int) < (T.length : Int) := by omega
      have HC : Hid (checkS q = 152) := Lib.hid (by rw [HC0.out, if_pos (Or.inr h9)])
      clear h8 h9
      go_wp2_with (go_at_call 40; refine (HHD.out _ hR.below).mono ?_; rintro e w3 ⟨rfl, hb3⟩; have hR3 := hR.call hb3)
      go_ret
      rw [HC.out]
      exact ⟨rfl, hR3.below⟩
    · have z9 : ¬ (8192 : Int) < (T.length : Int) := by omega
      have HC : Hid (checkS q = 0) := Lib.hid (by rw [HC0.out, if_neg (by rintro (h | h); exact h8 h; exact h9 h)])
      clear h8 h9
      go_wp2_with (go_at_call 40; refine (HHD.out _ hR.below).mono ?_; rintro e w3 ⟨rfl, hb3⟩; have hR3 := hR.call hb3)
      go_ret
      rw [HC.out]
      exact ⟨rfl, hR3.below⟩
set_option maxRecDepth 100000 in
set_option maxHeartbeats 8000000 in
theorem Print_any (q : Rq) (ad : Option Addr) (c : Nat) (w : World) (hs : SlH w q.hs ad c) (hq : SmallQ q) (hgw : Gw w) : Calls Tryz.prog 19 #[rqv q ad c] w (RetSE (printS q) w) := by
  have hR := Rws.start w
  have hqb := hq.b
  have HCK : Hid (∀ u, Below w.heap.size w u → Calls Tryz.prog 23 #[rqv q ad c] u (RetI (checkS q) u)) := Lib.hid fun u hb => Check_any q ad c u (hs.grown hb) hq (hgw.below hb)
  have HHD : Hid (∀ u, Below w.heap.size w u → Calls Tryz.prog 40 #[rqv q ad c] u (RetS (bs (headS q)) u)) := Lib.hid fun u hb => head_any q ad c u (hs.grown hb) hq (hgw.below hb)
  clear hs hq hgw
  by_cases h0 : checkS q = 0
  · have hlt := (check_parts h0).2.2.2
    obtain ⟨T, hT⟩ : ∃ T, T = headS q := ⟨_, rfl⟩
    have HP : Hid (printS q = (T ++ q.b, 0)) := Lib.hid (by unfold printS; rw [if_pos h0, hT])
    rw [h0] at HCK
    rw [← hT] at HHD hlt
    clear h0 hT
    go_enter Tryz.func19, Tryz.ntmps19
    go_upto_region 4 with (first
      | (refine wpList_box_rws rfl _ _ (by rfl) (by exact hR) (rqC q ad c) rfl ?_; intro gb w1 hR)
      | (refine wpList_load_rws rfl _ _ (by rfl) (by exact hR) gb rfl _ _ (by repeat (first | exact List.Mem.head _ | refine List.Mem.tail _ ?_)) _ Tryz.underlying24 rfl (by kernel_rfl) ?_)
      | (go_at_call 23; refine (HCK.out _ hR.below).mono ?_; rintro e w2 ⟨rfl, hb2⟩; have hR := hR.call hb2))
    have HB3 : Hid (∀ u, Below w2.heap.size w2 u → u.cell? ⟨gb, 3, none⟩ = some (.string (bs q.b))) := Lib.hid fun u hb => (hb.cell (p := ⟨gb, 3, none⟩) (hR.lt (x := _) (by repeat (first | exact List.Mem.head _ | refine List.Mem.tail _ ?_)))).trans (hR.cellAt (g := gb) (by repeat (first | exact List.Mem.head _ | refine List.Mem.tail _ ?_)) 3 rfl)
    have HH2 : Hid (∀ u, Below w2.heap.size w2 u → Calls Tryz.prog 40 #[rqv q ad c] u (RW (Is (.string (bs T))) u)) := Lib.hid fun u hb => (HHD.out u (hR.below.trans (hb.mono hR.len))).mono fun _ _ h => rw_below h
    have HZ : Hid (∀ W, (binOp .add 9 (.string (bs T)) (.string (bs q.b))).run Tryz.prog W = .ok (.string (bs (T ++ q.b))) W) := Lib.hid fun W => bin_addL T q.b (by omega) W
    refine wp_region_softG 6 (by kernel_rfl) (by kernel_rfl) (by rfl) hR ?_
    refine g_ldw (g := gb) (cs := (rqC q ad c)) (R := Is (rqv q ad c)) (by rfl) (by exact fun _ _ _ h => h) (by repeat (first | exact List.Mem.head _ | refine List.Mem.tail _ ?_)) Tryz.underlying24 rfl rq_inf (stb_is _) (by exact fun _ _ => rfl) ?_
    refine g_callK (f := 40) (xs := [.tmp 10]) [rqv q ad c] (R := Is (.string (bs T))) (by rfl) Tryz.func40 (by kernel_rfl) rfl (stb_is _) ⟨(by exact fun _ _ _ h => h), trivial⟩ (HH2.out) ?_
    refine g_fa (g := gb) (k := 0) (off := 3) (by rfl) (by exact fun _ _ _ h => h) Tryz.underlying24 rfl ⟨0, by kernel_rfl⟩ rfl ?_
    refine g_cellw (g := gb) (k := 3) (v := .string (bs q.b)) (R := Is (.string (bs q.b))) (by rfl) (by exact fun _ _ _ h => h) (HB3.out) isAgg_str (stb_is _) (by exact fun _ _ => rfl) ?_
    refine g_bin (v := .string (bs T)) (u := .string (bs q.b)) (r := .string (bs (T ++ q.b))) (by rfl) (by exact fun _ _ _ h => h) (by exact fun _ _ _ h => h) (by rfl) (HZ.out) ?_
    refine g_assign (R := Is (.string (bs (T ++ q.b)))) (by rfl) (stb_is _) (by exact fun _ _ _ h => h) ?_
    intro w6 hR6 hb6 v10 h10 v11 h11 v12 h12 v13 h13 v14 h14 v2 h2
    simp only [softEnd, Act.put, List.setIfInBounds_toArray, List.set_cons_succ, List.set_cons_zero, List.drop_succ_cons, List.drop_zero]
    obtain rfl : v2 = .string (bs (T ++ q.b)) := h2
    clear h10 h11 h12 h13 h14
    go_wp2_with fail
    go_ret2
    rw [HP.out]
    exact ⟨rfl, hR6.below⟩
  · have HP : Hid (printS q = ([], checkS q)) := Lib.hid (by unfold printS; rw [if_neg h0])
    obtain ⟨E, hE⟩ : ∃ E, E = checkS q := ⟨_, rfl⟩
    rw [← hE] at HCK HP h0
    have hz : (E != 0) = true := by simpa using h0
    clear hE
    go_enter Tryz.func19, Tryz.ntmps19
    go_wp2_with (first
      | (refine wpList_box_rws rfl _ _ (by rfl) (by exact hR) (rqC q ad c) rfl ?_; intro gb w1 hR)
      | (refine wpList_load_rws rfl _ _ (by rfl) (by exact hR) gb rfl _ _ (by repeat (first | exact List.Mem.head _ | refine List.Mem.tail _ ?_)) _ Tryz.underlying24 rfl (by kernel_rfl) ?_)
      | (go_at_call 23; refine (HCK.out _ hR.below).mono ?_; rintro e w2 ⟨rfl, hb2⟩; have hR := hR.call hb2))
    go_ret2
    rw [HP.out]
    exact ⟨rfl, hR.below⟩
end Go.Proofs.YtipjkjcmceeaeaaGreatDoor
