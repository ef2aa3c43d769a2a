/- ostiaryref06.Oid: the walk (gen_zroid.py). -/
import Derived.Test.YtebhiplcoioenaaGreatDoorZDQ
import Derived.Test.YtebhiplcoioenaaGreatDoorZZRGrp
import Derived.Test.YtebhiplcoioenaaGreatDoorZZOidW
import Derived.Test.YtebhiplcoioenaaGreatDoorZZRCheck
import Derived.Test.YtebhiplcoioenaaGreatDoorZZRFine
namespace Go.Proofs.YtebhiplcoioenaaGreatDoor
open Go.RowKit

theorem rcheck_6 (v : Dv) (ad : Option Addr) (cp : Nat) (w : World) (hb : v.b.length ≤ 1048576) : v.c = 0 → v.t = 6 → ∀ u, Below w.heap.size w u → Calls Tryz.prog 50 #[dvv v ad cp] u (RetI v.check u) := by
  obtain ⟨c, t, k, b, l⟩ := v
  intro hc ht u hu
  simp only at hc ht hb
  subst hc ht
  exact rCheck_prim 6 k b l ad cp u (by decide) (fun _ => hb) (fun u2 _ => by
    rw [fine_oid]
    exact rfine_6 b u2 _ (fun u3 _ => (RGroups_any b u3 hb).mono fun e w' hh => by
      obtain ⟨⟨V, h1, _⟩, h2⟩ := hh
      exact ⟨⟨V, h1⟩, h2⟩))
set_option maxRecDepth 100000 in
set_option maxHeartbeats 8000000 in
theorem ROid_any (v : Dv) (ad : Option Addr) (cp : Nat) (w : World) (hb : v.b.length ≤ 1048576) : Calls Tryz.prog 17 #[dvv v ad cp] w fun e w' => e = .returned (.tuple #[.string (bs (oidS v).1), .int .i64 (oidS v).2]) ∧ Below w.heap.size w w' := by
  have hR := Rws.start w
  have HKI : Hid (∀ u, Below w.heap.size w u → Calls Tryz.prog 42 #[dvv v ad cp, .int .i64 6] u (RetB (v.isK 6) u)) := Lib.hid fun u hu => rkind_any v ad cp 6 u (fun h1 h2 u2 hu2 => rcheck_6 v ad cp u hb h1 h2 u2 hu2)
  cases hB : v.isK 6 with
  | false =>
    have hx : oidS v = ([], 65) := by unfold oidS; rw [if_neg (by rw [hB]; decide)]
    rw [hx]
    rw [hB] at HKI
    obtain ⟨c, t, k, b, l⟩ := v
    clear hx hB hb
    go_enter Tryz.func17, Tryz.ntmps17
    go_upto_region 1 with (refine wpList_box_rws rfl _ _ (by rfl) (by exact hR) (dvC ⟨c, t, k, b, l⟩ ad cp) rfl ?_; intro gb w1 hR)
    go_wp2_with (first
      | (refine wpList_load_rws rfl _ _ (by rfl) (by exact hR) gb rfl (dvC ⟨c, t, k, b, l⟩ ad cp) _ (List.Mem.head _) _ Tryz.underlying24 rfl (by kernel_rfl) ?_)
      | (go_at_call 42; refine (HKI.out _ hR.below).mono ?_; rintro e w2 ⟨rfl, hb2⟩; have hR := hR.call hb2))
    go_ret2
    exact ⟨rfl, hR.below⟩
  | true =>
    have hx0 : oidS v = (textT ((groupsS v.b).getD []), 0) := by
      unfold oidS
      rw [if_pos hB]
    obtain ⟨g, hvo, hg0, hall, hgs, hx1, _, hvl⟩ := oid_ok hx0
    rw [hx0, hx1]
    obtain ⟨n0, rest, rfl⟩ : ∃ n0 rest, g = n0 :: rest := by
      cases g with
      | nil => exact absurd rfl hg0
      | cons n0 rest => exact ⟨n0, rest, rfl⟩
    have HRL : Hid (rest.length ≤ 16384) := Lib.hid (by
      have h1 := grp_count (n0 :: rest)
      have h2 : v.b = ((n0 :: rest).map grpB).flatten := congrArg Dv.b hvo
      rw [← h2] at h1
      simp only [List.length_cons] at h1
      omega)
    have HAL := Lib.hid hall
    have HGR : Hid (∀ u, Calls Tryz.prog 43 #[.string (bs v.b)] u fun e w' => ∃ bl c, e = .returned (.tuple #[.slice (some ⟨bl, 0, none⟩) (rest.length + 1) c, .bool true]) ∧ rest.length + 1 ≤ c ∧ c ≤ MX ∧ bl < w'.heap.size ∧ (∀ (j : Nat) y, (n0 :: rest)[j]? = some y → w'.cell? ⟨bl, j, none⟩ = some (.int .i64 (y : Nat))) ∧ Below u.heap.size u w') := Lib.hid fun u => (RGroups_any v.b u (by omega)).mono fun e w' hh => by
      rw [hgs] at hh
      obtain ⟨⟨v2, rfl, h2⟩, h3⟩ := hh
      obtain ⟨bl, c, rfl, h4, h5, h6, h7⟩ := own_ints (h2 _ rfl)
      exact ⟨bl, c, rfl, h4, h5, h6, h7, h3⟩
    have hn0 : n0 ≤ 2147483647 := hall n0 (List.mem_cons_self ..)
    rw [hB] at HKI
    obtain ⟨c, t, k, b, l⟩ := v
    simp only at hvl hgs hvo
    clear hx0 hx1 hB hb hvo hg0 hall hgs
    go_enter Tryz.func17, Tryz.ntmps17
    go_upto_region 1 with (refine wpList_box_rws rfl _ _ (by rfl) (by exact hR) (dvC ⟨c, t, k, b, l⟩ ad cp) rfl ?_; intro gb w1 hR)
    go_upto_region 3 with (first
      | (refine wpList_load_rws rfl _ _ (by rfl) (by exact hR) gb rfl (dvC ⟨c, t, k, b, l⟩ ad cp) _ (List.Mem.head _) _ Tryz.underlying24 rfl (by kernel_rfl) ?_)
      | (go_at_call 42; refine (HKI.out _ hR.below).mono ?_; rintro e w2 ⟨rfl, hb2⟩; have hR := hR.call hb2))
    have f3 := hR.cellAt (g := gb) (List.Mem.head _) 3 rfl
    go_upto_region 4 with (go_at_call 43; refine (HGR.out _).mono ?_; rintro e w3 ⟨bl, c3, rfl, hc1, hc2, hbl, hce, hb3⟩; have hR := hR.call hb3)
    have HCE := Lib.hid hce
    have f4 := hce 0 n0 rfl
    clear hce hb3 f3
    have hlz : (0 : Int) < (rest.length : Int) + 1 := by omega
    have hMX := MX_eq
    by_cases h80 : n0 < 80
    · have h8z : (n0 : Int) < 80 := by omega
      have HDM : Hid (∀ (a : Int) u, a = ((n0 - 80 : Nat) : Int) → ∃ P : Bs, P.length ≤ 11 ∧ Calls Tryz.prog 44 #[.int .i64 a] u fun e w' => e = .returned (.string (bs P)) ∧ Below u.heap.size u w') := Lib.hid fun a u h => ⟨numT (n0 - 80), Nat.le_trans (num_grp (by omega)).2 (by decide), by rw [h]; exact RDigits_any _ (by omega) u⟩
      obtain ⟨P0, hP0⟩ : ∃ P, P = numT (n0 - 80) := ⟨_, rfl⟩
      have hP0l : P0.length ≤ 10 := by rw [hP0]; exact (num_grp (by omega)).2
      have zP0 := bs_size P0
      have HDM : Hid (∀ (a : Int) u, a = ((n0 - 80 : Nat) : Int) → Calls Tryz.prog 44 #[.int .i64 a] u fun e w' => e = .returned (.string (bs P0)) ∧ Below u.heap.size u w') := Lib.hid fun a u h => by rw [h, hP0]; exact RDigits_any _ (by omega) u
      clear hP0
      go_upto_region 5 with (go_at_call 44; refine (HDM.out _ _ (by omega)).mono ?_; rintro e w5 ⟨rfl, hb5⟩; have hR := hR.call hb5)
      have f4 := (hb5.cell (p := ⟨bl, 0, none⟩) hbl).trans f4
      have HCE := Lib.hid (fun (j : Nat) y (hj : (n0 :: rest)[j]? = some y) => (hb5.cell (p := ⟨bl, j, none⟩) hbl).trans (HCE.out j y hj))
      have hbl := Nat.lt_of_lt_of_le hbl hb5.size
      clear hb5
      go_upto_region 6 with fail
      obtain ⟨A1, hA1⟩ : ∃ A, A = numT (n0 / 40) := ⟨_, rfl⟩
      obtain ⟨A2, hA2⟩ : ∃ A, A = numT (n0 % 40) := ⟨_, rfl⟩
      have hA1l : A1.length ≤ 10 := by rw [hA1]; exact (num_grp (by omega)).2
      have hA2l : A2.length ≤ 10 := by rw [hA2]; exact (num_grp (by omega)).2
      have z1 := bs_size A1
      have z2 := bs_size A2
      have HT1 : Hid (∀ u, Below w5.heap.size w5 u → Calls Tryz.prog 44 #[.int .i64 (n0 / 40 : Nat)] u (RW (Is (.string (bs A1))) u)) := Lib.hid fun u _ => by rw [hA1]; exact (RDigits_any _ (by omega) u).mono fun _ _ h => rw_below h
      have HT2 : Hid (∀ u, Below w5.heap.size w5 u → Calls Tryz.prog 44 #[.int .i64 (n0 % 40 : Nat)] u (RW (Is (.string (bs A2))) u)) := Lib.hid fun u _ => by rw [hA2]; exact (RDigits_any _ (by omega) u).mono fun _ _ h => rw_below h
      have HC0 : Hid (∀ u, Below w5.heap.size w5 u → u.cell? ⟨bl, 0 + 0 * 1, none⟩ = some (.int .i64 (n0 : Nat))) := Lib.hid fun u hb => (hb.cell (p := ⟨bl, 0, none⟩) hbl).trans f4
      have HHD2 : Hid (textT (n0 :: rest) = (A1 ++ 46 :: A2) ++ tailT rest) := Lib.hid (by
        have ht : topN n0 = n0 / 40 := by unfold topN; omega
        rw [textT, ht, show n0 - 40 * (n0 / 40) = n0 % 40 by omega, hA1, hA2])
      have hes : bs A1 ++ ⟨#[46]⟩ ++ bs A2 = bs (A1 ++ 46 :: A2) := by
        show bs A1 ++ bs [46] ++ bs A2 = _
        rw [bs_app2, bs_app2, List.append_assoc]; rfl
      clear hA1 hA2 HDM
      refine wp_region_softG 12 (by kernel_rfl) (by kernel_rfl) (by rfl) hR ?_
      refine g_move (R := Is (.slice (some ⟨bl, 0, none⟩) (rest.length + 1) c3)) (by rfl) (stb_is _) (by exact fun _ _ _ h => h) ?_
      refine g_ixi (b := bl) (f := 0) (len := (rest.length + 1)) (c := c3) (i := 0) (by rfl) (by exact fun _ _ _ h => h) (by exact fun _ _ _ h => h) (Nat.succ_pos _) ?_
      refine g_cellw (g := bl) (k := 0 + 0 * 1) (v := .int .i64 (n0 : Nat)) (R := Is (.int .i64 (n0 : Nat))) (by rfl) (by exact fun _ _ _ h => h) (HC0.out) isAgg_int (stb_is _) (by exact fun _ _ => rfl) ?_
      refine g_bin (v := .int .i64 (n0 : Nat)) (u := .int .i64 40) (r := .int .i64 (n0 / 40 : Nat)) (by rfl) (by exact fun _ _ _ h => h) (by exact fun _ _ _ h => h) (by rfl) (fun W => bin_quo2 _ _ (by decide) (by decide) (by omega) W) ?_
      refine g_callK (f := 44) (xs := [.tmp 31]) [.int .i64 (n0 / 40 : Nat)] (R := Is (.string (bs A1))) (by rfl) Tryz.func44 (by kernel_rfl) rfl (stb_is _) ⟨(by exact fun _ _ _ h => h), trivial⟩ (HT1.out) ?_
      refine g_bin (v := .string (bs A1)) (u := .string ⟨#[46]⟩) (r := .string (bs A1 ++ ⟨#[46]⟩)) (by rfl) (by exact fun _ _ _ h => h) (by exact fun _ _ _ h => h) (by rfl) (fun W => bin_adds _ _ (by rw [z1]; show _ + 1 ≤ _; omega) W) ?_
      refine g_move (R := Is (.slice (some ⟨bl, 0, none⟩) (rest.length + 1) c3)) (by rfl) (stb_is _) (by exact fun _ _ _ h => h) ?_
      refine g_ixi (b := bl) (f := 0) (len := (rest.length + 1)) (c := c3) (i := 0) (by rfl) (by exact fun _ _ _ h => h) (by exact fun _ _ _ h => h) (Nat.succ_pos _) ?_
      refine g_cellw (g := bl) (k := 0 + 0 * 1) (v := .int .i64 (n0 : Nat)) (R := Is (.int .i64 (n0 : Nat))) (by rfl) (by exact fun _ _ _ h => h) (HC0.out) isAgg_int (stb_is _) (by exact fun _ _ => rfl) ?_
      refine g_bin (v := .int .i64 (n0 : Nat)) (u := .int .i64 40) (r := .int .i64 (n0 % 40 : Nat)) (by rfl) (by exact fun _ _ _ h => h) (by exact fun _ _ _ h => h) (by rfl) (fun W => bin_rem2 _ _ (by decide) (by decide) (by omega) W) ?_
      refine g_callK (f := 44) (xs := [.tmp 37]) [.int .i64 (n0 % 40 : Nat)] (R := Is (.string (bs A2))) (by rfl) Tryz.func44 (by kernel_rfl) rfl (stb_is _) ⟨(by exact fun _ _ _ h => h), trivial⟩ (HT2.out) ?_
      refine g_bin (v := .string (bs A1 ++ ⟨#[46]⟩)) (u := .string (bs A2)) (r := .string (bs A1 ++ ⟨#[46]⟩ ++ bs A2)) (by rfl) (by exact fun _ _ _ h => h) (by exact fun _ _ _ h => h) (by rfl) (fun W => bin_adds _ _ (by rw [ByteArray.size_append, z1, z2]; show _ + 1 + _ ≤ _; omega) W) ?_
      intro w6 hR6 hb6 v28 h28 v29 h29 v30 h30 v31 h31 v32 h32 v33 h33 v34 h34 v35 h35 v36 h36 v37 h37 v38 h38 v39 h39
      simp only [softEnd, Act.put, List.setIfInBounds_toArray, List.set_cons_succ, List.set_cons_zero, List.drop_succ_cons, List.drop_zero]
      obtain rfl : v39 = .string (bs A1 ++ ⟨#[46]⟩ ++ bs A2) := h39
      clear h28 h29 h30 h31 h32 h33 h34 h35 h36 h37 h38
      rw [hes]
      obtain ⟨HD, hHD⟩ : ∃ HD, HD = A1 ++ 46 :: A2 := ⟨_, rfl⟩
      have HHD : Hid (HD.length ≤ 21) := Lib.hid (by rw [hHD]; simp; omega)
      rw [← hHD] at HHD2 ⊢
      obtain ⟨wx, hwx⟩ : ∃ wx : World, wx = w6 := ⟨_, rfl⟩
      have HB6 := Lib.hid hR6.below
      have HBL : Hid (bl < w6.heap.size) := Lib.hid (Nat.lt_of_lt_of_le hbl hb6.size)
      have HCE4 : Hid (∀ (j : Nat) y, (n0 :: rest)[j]? = some y → w6.cell? ⟨bl, j, none⟩ = some (.int .i64 (y : Nat))) := Lib.hid fun j y hj => (hb6.cell (p := ⟨bl, j, none⟩) hbl).trans (HCE.out j y hj)
      rw [← hwx] at HB6 HBL HCE4 ⊢
      clear hes hHD hR6 hb6 f4 HT1 HT2 HC0 HCE hR hwx hbl z1 z2 hlz
      go_upto_region 8 with fail
      obtain ⟨wb, hwb⟩ : ∃ wb : World, wb = wx := ⟨_, rfl⟩
      rw [← hwb] at HB6 HBL HCE4 ⊢
      clear hwb
      go_loopg [6, 7] rest.length (fun gg s6 s7 wr => ∃ (i : Nat), i ≤ rest.length ∧ gg = rest.length - i ∧ s7 = .int .i64 (i + 1 : Nat) ∧ s6 = .string (bs (HD ++ tailT (rest.take i))) ∧ Aside (Below w.heap.size w wr ∧ Below wb.heap.size wb wr))
      case atStart => exact ⟨0, Nat.zero_le _, rfl, rfl, by rw [List.take_zero]; show _ = Value.string (bs (HD ++ [])); rw [List.append_nil], HB6.out, Below.refl _ _⟩
      case round =>
        obtain ⟨i, hil, rfl, rfl, rfl, HB⟩ := hrel
        by_cases hlt : i < rest.length
        · have hltz : ((i + 1 : Nat) : Int) < (rest.length : Int) + 1 := by omega
          obtain ⟨x, hx⟩ : ∃ x, rest[i]? = some x := ⟨rest[i], List.getElem?_eq_getElem hlt⟩
          have fx : wr.cell? ⟨bl, i + 1, none⟩ = some (.int .i64 (x : Nat)) := (HB.out.2.cell (p := ⟨bl, i + 1, none⟩) HBL.out).trans (HCE4.out (i + 1) x (by simpa using hx))
          have hxl : x ≤ 2147483647 := HAL.out x (List.mem_cons_of_mem _ (List.mem_of_getElem? hx))
          have HTK : Hid (rest.take (i + 1) = rest.take i ++ [x]) := Lib.hid (by
            rw [List.take_add_one, hx]; rfl)
          have HIT : Hid (∀ u, Calls Tryz.prog 44 #[.int .i64 (x : Nat)] u fun e w' => e = .returned (.string (bs (numT x))) ∧ Below u.heap.size u w') := Lib.hid fun u => RDigits_any x (by omega) u
          obtain ⟨P, hP⟩ : ∃ P, P = HD ++ tailT (rest.take i) := ⟨_, rfl⟩
          have hPl : P.length ≤ 200000 := by
            have h1 := tail_len (rest.take i) fun m hm => HAL.out m (List.mem_cons_of_mem _ (List.mem_of_mem_take hm))
            rw [List.length_take] at h1
            have h2 := HHD.out
            have h3 := HRL.out
            rw [hP, List.length_append]; omega
          have hNl : (numT x).length ≤ 10 := (num_grp hxl).2
          have zp := bs_size P
          have zn := bs_size (numT x)
          have HPP := Lib.hid hP
          rw [← hP]
          obtain ⟨NX, hNX⟩ : ∃ NX, NX = numT x := ⟨_, rfl⟩
          have HPS : Hid (bs P ++ (⟨#[46]⟩ ++ bs NX) = bs (HD ++ tailT (rest.take (i + 1)))) := Lib.hid (by
            rw [HTK.out, tail_snoc, ← List.append_assoc, ← hP, ← hNX]
            show bs P ++ (bs [46] ++ bs NX) = _
            rw [bs_app2, bs_app2]; rfl)
          rw [← hNX] at HIT hNl zn
          clear hx hP hxl hNX
          go_wp2_with (go_at_call 44; refine (HIT.out _).mono ?_; rintro e w8 ⟨rfl, hb8⟩)
          rw [HPS.out]
          go_roundg (rest.length - (i + 1))
          case measure => omega
          case rel => exact ⟨i + 1, by omega, rfl, by go_num, rfl, HB.out.1.trans (hb8.mono HB.out.1.size), HB.out.2.trans (hb8.mono HB.out.2.size)⟩
        · have hltz : ¬ ((i + 1 : Nat) : Int) < (rest.length : Int) + 1 := by omega
          have HE : Hid (HD ++ tailT (rest.take i) = textT (n0 :: rest)) := Lib.hid (by
            rw [List.take_of_length_le (by omega), HHD2.out])
          go_wp2_with fail
          go_ret2
          rw [HE.out]
          exact ⟨rfl, HB.out.1⟩
    · have h8z : ¬ (n0 : Int) < 80 := by omega
      obtain ⟨P0, hP0⟩ : ∃ P, P = numT (n0 - 80) := ⟨_, rfl⟩
      have hP0l : P0.length ≤ 10 := by rw [hP0]; exact (num_grp (by omega)).2
      have zP0 := bs_size P0
      have HDM : Hid (∀ (a : Int) u, a = ((n0 - 80 : Nat) : Int) → Calls Tryz.prog 44 #[.int .i64 a] u fun e w' => e = .returned (.string (bs P0)) ∧ Below u.heap.size u w') := Lib.hid fun a u h => by rw [h, hP0]; exact RDigits_any _ (by omega) u
      have HHD2 : Hid (textT (n0 :: rest) = ([50, 46] ++ P0) ++ tailT rest) := Lib.hid (by
        have ht : topN n0 = 2 := by unfold topN; omega
        rw [textT, ht, hP0, show numT 2 = [50] from numT_small (by decide)]
        rfl)
      clear hP0
      go_upto_region 5 with (go_at_call 44; refine (HDM.out _ _ (by omega)).mono ?_; rintro e w5 ⟨rfl, hb5⟩; have hR := hR.call hb5)
      have f4 := (hb5.cell (p := ⟨bl, 0, none⟩) hbl).trans f4
      have HCE := Lib.hid (fun (j : Nat) y (hj : (n0 :: rest)[j]? = some y) => (hb5.cell (p := ⟨bl, j, none⟩) hbl).trans (HCE.out j y hj))
      have hbl := Nat.lt_of_lt_of_le hbl hb5.size
      clear hb5
      have hes : (⟨#[50, 46]⟩ : ByteArray) ++ bs P0 = bs ([50, 46] ++ P0) := bs_app2 [50, 46] P0
      rw [hes]
      obtain ⟨HD, hHD⟩ : ∃ HD, HD = [50, 46] ++ P0 := ⟨_, rfl⟩
      have HHD : Hid (HD.length ≤ 21) := Lib.hid (by rw [hHD]; simp; omega)
      rw [← hHD] at HHD2 ⊢
      obtain ⟨wx, hwx⟩ : ∃ wx : World, wx = w5 := ⟨_, rfl⟩
      have HB6 := Lib.hid hR.below
      have HBL : Hid (bl < w5.heap.size) := Lib.hid hbl
      have HCE4 : Hid (∀ (j : Nat) y, (n0 :: rest)[j]? = some y → w5.cell? ⟨bl, j, none⟩ = some (.int .i64 (y : Nat))) := HCE
      rw [← hwx] at f4 HB6 HBL HCE4 ⊢
      clear hes hHD HCE hR hwx hbl hlz HDM
      go_upto_region 8 with fail
      obtain ⟨wb, hwb⟩ : ∃ wb : World, wb = wx := ⟨_, rfl⟩
      rw [← hwb] at HB6 HBL HCE4 ⊢
      clear hwb
      go_loopg [6, 7] rest.length (fun gg s6 s7 wr => ∃ (i : Nat), i ≤ rest.length ∧ gg = rest.length - i ∧ s7 = .int .i64 (i + 1 : Nat) ∧ s6 = .string (bs (HD ++ tailT (rest.take i))) ∧ Aside (Below w.heap.size w wr ∧ Below wb.heap.size wb wr))
      case atStart => exact ⟨0, Nat.zero_le _, rfl, rfl, by rw [List.take_zero]; show _ = Value.string (bs (HD ++ [])); rw [List.append_nil], HB6.out, Below.refl _ _⟩
      case round =>
        obtain ⟨i, hil, rfl, rfl, rfl, HB⟩ := hrel
        by_cases hlt : i < rest.length
        · have hltz : ((i + 1 : Nat) : Int) < (rest.length : Int) + 1 := by omega
          obtain ⟨x, hx⟩ : ∃ x, rest[i]? = some x := ⟨rest[i], List.getElem?_eq_getElem hlt⟩
          have fx : wr.cell? ⟨bl, i + 1, none⟩ = some (.int .i64 (x : Nat)) := (HB.out.2.cell (p := ⟨bl, i + 1, none⟩) HBL.out).trans (HCE4.out (i + 1) x (by simpa using hx))
          have hxl : x ≤ 2147483647 := HAL.out x (List.mem_cons_of_mem _ (List.mem_of_getElem? hx))
          have HTK : Hid (rest.take (i + 1) = rest.take i ++ [x]) := Lib.hid (by
            rw [List.take_add_one, hx]; rfl)
          have HIT : Hid (∀ u, Calls Tryz.prog 44 #[.int .i64 (x : Nat)] u fun e w' => e = .returned (.string (bs (numT x))) ∧ Below u.heap.size u w') := Lib.hid fun u => RDigits_any x (by omega) u
          obtain ⟨P, hP⟩ : ∃ P, P = HD ++ tailT (rest.take i) := ⟨_, rfl⟩
          have hPl : P.length ≤ 200000 := by
            have h1 := tail_len (rest.take i) fun m hm => HAL.out m (List.mem_cons_of_mem _ (List.mem_of_mem_take hm))
            rw [List.length_take] at h1
            have h2 := HHD.out
            have h3 := HRL.out
            rw [hP, List.length_append]; omega
          have hNl : (numT x).length ≤ 10 := (num_grp hxl).2
          have zp := bs_size P
          have zn := bs_size (numT x)
          have HPP := Lib.hid hP
          rw [← hP]
          obtain ⟨NX, hNX⟩ : ∃ NX, NX = numT x := ⟨_, rfl⟩
          have HPS : Hid (bs P ++ (⟨#[46]⟩ ++ bs NX) = bs (HD ++ tailT (rest.take (i + 1)))) := Lib.hid (by
            rw [HTK.out, tail_snoc, ← List.append_assoc, ← hP, ← hNX]
            show bs P ++ (bs [46] ++ bs NX) = _
            rw [bs_app2, bs_app2]; rfl)
          rw [← hNX] at HIT hNl zn
          clear hx hP hxl hNX
          go_wp2_with (go_at_call 44; refine (HIT.out _).mono ?_; rintro e w8 ⟨rfl, hb8⟩)
          rw [HPS.out]
          go_roundg (rest.length - (i + 1))
          case measure => omega
          case rel => exact ⟨i + 1, by omega, rfl, by go_num, rfl, HB.out.1.trans (hb8.mono HB.out.1.size), HB.out.2.trans (hb8.mono HB.out.2.size)⟩
        · have hltz : ¬ ((i + 1 : Nat) : Int) < (rest.length : Int) + 1 := by omega
          have HE : Hid (HD ++ tailT (rest.take i) = textT (n0 :: rest)) := Lib.hid (by
            rw [List.take_of_length_le (by omega), HHD2.out])
          go_wp2_with fail
          go_ret2
          rw [HE.out]
          exact ⟨rfl, HB.out.1⟩
end Go.Proofs.YtebhiplcoioenaaGreatDoor
