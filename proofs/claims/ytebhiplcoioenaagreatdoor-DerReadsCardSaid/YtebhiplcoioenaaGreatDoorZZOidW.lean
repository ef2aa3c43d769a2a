/- der.Oid: the walk (gen_zoidw.py). -/
import Derived.Test.YtebhiplcoioenaaGreatDoorZZTimeW
import Derived.Test.YtebhiplcoioenaaGreatDoorZZGrp
import Derived.Test.YtebhiplcoioenaaGreatDoorZZGS
namespace Go.Proofs.YtebhiplcoioenaaGreatDoor
open Go.RowKit

theorem bin_mulI (a b : Int) {r : Int} (h : IntKind.i64.wrap (a * b) = r) (W : World) : (binOp .mul 3 (.int .i64 a) (.int .i64 b)).run Tryz.prog W = .ok (.int .i64 r) W := by
  rw [← h]; kernel_rfl
theorem bin_subI (a b : Int) {r : Int} (h : IntKind.i64.wrap (a - b) = r) (W : World) : (binOp .sub 3 (.int .i64 a) (.int .i64 b)).run Tryz.prog W = .ok (.int .i64 r) W := by
  rw [← h]; kernel_rfl
theorem bin_addI (a b : Int) {r : Int} (h : IntKind.i64.wrap (a + b) = r) (W : World) : (binOp .add 3 (.int .i64 a) (.int .i64 b)).run Tryz.prog W = .ok (.int .i64 r) W := by
  rw [← h]; kernel_rfl
theorem own_ints {B : Nat} {w : World} {v : Value} {x : Nat} {l : List Nat} (h : OwnI B w v (x :: l)) : ∃ bl c, v = .slice (some ⟨bl, 0, none⟩) (l.length + 1) c ∧ l.length + 1 ≤ c ∧ c ≤ MX ∧ bl < w.heap.size ∧ ∀ (j : Nat) y, (x :: l)[j]? = some y → w.cell? ⟨bl, j, none⟩ = some (.int .i64 (y : Nat)) := by
  have ho := h
  obtain ⟨hl, ⟨_, h0⟩ | ⟨g, cap, cur, rfl, hg, hh, hn, hcm, hcs, htk⟩⟩ := h
  · cases h0
  · refine ⟨g, cap, rfl, hn, hcm, (Array.getElem?_eq_some_iff.1 hh).1, fun j y hj => ?_⟩
    have hc := World.ownsRow.cells ho (g := g) rfl j (.int .i64 (y : Nat)) (by unfold InC; rw [List.getElem?_map, hj]; rfl)
    rw [Addr.add_lit, Nat.zero_add] at hc
    exact hc
theorem grp_count (l : List Nat) : l.length ≤ (l.map grpB).flatten.length := by
  induction l with
  | nil => exact Nat.le_refl _
  | cons n l ih => 
    have h1 : 1 ≤ (grpB n).length := by unfold grpB; simp
    simp only [List.map_cons, List.flatten_cons, List.length_append, List.length_cons]; omega
theorem tail_len : ∀ (l : List Nat), (∀ n ∈ l, n ≤ 2147483647) → (tailT l).length ≤ 11 * l.length
  | [], _ => Nat.le_refl _
  | n :: l, h => by
    have h1 := (num_grp (h n (List.mem_cons_self ..))).2
    have h2 := tail_len l fun m hm => h m (List.mem_cons_of_mem _ hm)
    simp only [tailT, List.length_cons, List.length_append]; omega
theorem tail_snoc (x : Nat) : ∀ l : List Nat, tailT (l ++ [x]) = tailT l ++ 46 :: numT x
  | [] => by simp [tailT]
  | n :: l => by simp only [List.cons_append, tailT, tail_snoc x l, List.append_assoc]
set_option maxRecDepth 100000 in
set_option maxHeartbeats 4000000 in
theorem Oid_any (v : Dv) (ad : Option Addr) (cp : Nat) (w : World) (hb : v.b.length ≤ SB) (hg : Gd w) (hck : ∀ t, t ∈ ([6] : List Int) → v.c = 0 → v.t = t → ∀ u, Below w.heap.size w u → Calls Tryz.prog 15 #[dvv v ad cp] u (RetI v.check u)) : Calls Tryz.prog 16 #[dvv v ad cp] w fun e w' => e = .returned (.tuple #[.string (bs (oidS v).1), .int .i64 (oidS v).2]) ∧ Below w.heap.size w w' := by
  have hSB := SB_eq
  have hR := Rws.start w
  have HAM : Hid (∀ u, Below w.heap.size w u → Calls Tryz.prog 39 #[dvv v ad cp, .slice (some ⟨u.heap.size, 0, none⟩) 1 1] (u.alloc (.cells #[.int .i64 6] 3)) fun e w' => e = .returned (amongV (([6] : List Int).any v.isK)) ∧ Below (u.alloc (.cells #[.int .i64 6] 3)).heap.size (u.alloc (.cells #[.int .i64 6] 3)) w') := Lib.hid fun u hu =>
    among_any v ad cp [6] u.heap.size 1 _ (fun j x hx => by
      rw [cell_new]
      match j, hx with
      | 0, hx => cases hx; rfl
      | j + 1, hx => simp at hx) (by simp) (by simp) (by simp [MX_eq]) (fun t ht hc htt u2 hu2 => hck t ht hc htt u2 (hu.trans ((b_alloc u _).mono (hu.size) |>.trans (hu2.mono (by simp; have := hu.size; omega)))))
  have HTO : Hid (∀ u, Below w.heap.size w u → Calls Tryz.prog 36 #[wrV 65] u (RetI 65 u)) := Lib.hid fun u hu => told_any 65 _ (Or.inr ⟨by decide, 0, .wrong⟩) u (hg.below hu).ty
  cases hB : ([6] : List Int).any v.isK with
  | false =>
    have hx : oidS v = ([], 65) := by
      unfold oidS
      rw [if_neg (fun h => by simp only [List.any_cons, List.any_nil, Bool.or_false] at hB; rw [hB] at h; cases h)]
    rw [hx]
    obtain ⟨c, t, k, b, l⟩ := v
    rw [hB] at HAM
    clear hx hB hck hb
    have HAM : Hid (∀ u, Below w.heap.size w u → Calls Tryz.prog 39 #[dvv ⟨c, t, k, b, l⟩ ad cp, .slice (some ⟨u.heap.size, 0, none⟩) 1 1] (u.alloc (.cells #[.int .i64 6] 3)) fun e w' => e = .returned (wrV 65) ∧ Below (u.alloc (.cells #[.int .i64 6] 3)).heap.size (u.alloc (.cells #[.int .i64 6] 3)) w') := HAM
    go_enter Tryz.func16, Tryz.ntmps16
    go_upto_region 1 with (refine wpList_box_rws rfl _ _ (by rfl) (by exact hR) (dvC ⟨c, t, k, b, l⟩ ad cp) rfl ?_; intro gb w1 hR)
    go_upto_region 2 with (first
      | (refine wpList_load_rws rfl _ _ (by rfl) (by exact hR) gb rfl (dvC ⟨c, t, k, b, l⟩ ad cp) _ (List.Mem.head _) _ Tryz.underlying24 rfl (by kernel_rfl) ?_)
      | (go_at_call 39; refine (HAM.out _ hR.below).mono ?_; rintro e w2 ⟨rfl, hb2⟩; have hR := (hR.alloc0 _).call hb2))
    go_wp2_with (go_at_call 36; refine (HTO.out _ hR.below).mono ?_; rintro e w3 ⟨rfl, hb3⟩; have hR := hR.call hb3)
    go_ret2
    exact ⟨rfl, hR.below⟩
  | true =>
    have hB2 : v.isK 6 = true := by simpa [List.any_cons] using hB
    have hx0 : oidS v = (textT ((groupsS v.b).getD []), 0) := by
      unfold oidS
      rw [if_pos hB2]
    obtain ⟨g, hvo, hg0, hall, hgs, hx1, _, hvl⟩ := oid_ok hx0
    rw [hx0, hx1]
    obtain ⟨n0, rest, rfl⟩ : ∃ n0 rest, g = n0 :: rest := by
      cases g with
      | nil => exact absurd rfl hg0
      | cons n0 rest => exact ⟨n0, rest, rfl⟩
    have HRL : Hid (rest.length ≤ 16384) := Lib.hid (by
      have h1 := grp_count (n0 :: rest)
      have h2 : v.b = ((n0 :: rest).map grpB).flatten := congrArg Dv.b hvo
      rw [← h2] at h1
      simp only [List.length_cons] at h1
      omega)
    have HAL := Lib.hid hall
    have HG := Lib.hid hg
    have HGR : Hid (∀ u, Calls Tryz.prog 40 #[.string (bs v.b)] u fun e w' => ∃ bl c, e = .returned (.tuple #[.slice (some ⟨bl, 0, none⟩) (rest.length + 1) c, .bool true]) ∧ rest.length + 1 ≤ c ∧ c ≤ MX ∧ bl < w'.heap.size ∧ (∀ (j : Nat) y, (n0 :: rest)[j]? = some y → w'.cell? ⟨bl, j, none⟩ = some (.int .i64 (y : Nat))) ∧ Below u.heap.size u w') := Lib.hid fun u => (groups_any v.b u (by omega)).mono fun e w' hh => by
      rw [hgs] at hh
      obtain ⟨⟨v2, rfl, h2⟩, h3⟩ := hh
      obtain ⟨bl, c, rfl, h4, h5, h6, h7⟩ := own_ints (h2 _ rfl)
      exact ⟨bl, c, rfl, h4, h5, h6, h7, h3⟩
    have hn0 : n0 ≤ 2147483647 := hall n0 (List.mem_cons_self ..)
    obtain ⟨c, t, k, b, l⟩ := v
    simp only at hvl hgs hvo
    rw [hB] at HAM
    clear hx0 hx1 hB hck hb hB2 hvo hg0 hall hgs hg
    have HAM : Hid (∀ u, Below w.heap.size w u → Calls Tryz.prog 39 #[dvv ⟨c, t, k, b, l⟩ ad cp, .slice (some ⟨u.heap.size, 0, none⟩) 1 1] (u.alloc (.cells #[.int .i64 6] 3)) fun e w' => e = .returned .nilIface ∧ Below (u.alloc (.cells #[.int .i64 6] 3)).heap.size (u.alloc (.cells #[.int .i64 6] 3)) w') := HAM
    go_enter Tryz.func16, Tryz.ntmps16
    go_upto_region 1 with (refine wpList_box_rws rfl _ _ (by rfl) (by exact hR) (dvC ⟨c, t, k, b, l⟩ ad cp) rfl ?_; intro gb w1 hR)
    go_upto_region 2 with (first
      | (refine wpList_load_rws rfl _ _ (by rfl) (by exact hR) gb rfl (dvC ⟨c, t, k, b, l⟩ ad cp) _ (List.Mem.head _) _ Tryz.underlying24 rfl (by kernel_rfl) ?_)
      | (go_at_call 39; refine (HAM.out _ hR.below).mono ?_; rintro e w2 ⟨rfl, hb2⟩; have hR := (hR.alloc0 _).call hb2))
    have f3 := hR.cellAt (g := gb) (List.Mem.head _) 3 rfl
    go_upto_region 5 with (go_at_call 40; refine (HGR.out _).mono ?_; rintro e w3 ⟨bl, c3, rfl, hc1, hc2, hbl, hce, hb3⟩; have hR := hR.call hb3)
    have HCE := Lib.hid hce
    have f4 := hce 0 n0 rfl
    clear hce hb3 f3
    go_upto_region 6 with fail
    obtain ⟨T, hT⟩ : ∃ T, T = topN n0 := ⟨_, rfl⟩
    obtain ⟨M, hM⟩ : ∃ M, M = n0 - 40 * topN n0 := ⟨_, rfl⟩
    have hTl := top_split (n := n0)
    rw [← hT] at hTl hM
    rw [show min ((n0 : Int) / 40) 2 = (T : Int) by rw [hT]; unfold topN; omega]
    have HW1 : Hid (IntKind.i64.wrap (40 * (T : Int)) = 40 * (T : Int)) := Lib.hid (IntWalk.i64_in _ (by omega))
    have HW2 : Hid (IntKind.i64.wrap ((n0 : Int) - 40 * (T : Int)) = (M : Int)) := Lib.hid (by rw [IntWalk.i64_in _ (by omega)]; omega)
    obtain ⟨NT, hNT⟩ : ∃ NT, NT = numT T := ⟨_, rfl⟩
    obtain ⟨NM, hNM⟩ : ∃ NM, NM = numT M := ⟨_, rfl⟩
    have hNTl : NT.length ≤ 10 := by rw [hNT]; exact (num_grp (by omega)).2
    have hNMl : NM.length ≤ 10 := by rw [hNM]; exact (num_grp (by omega)).2
    have zNT := bs_size NT
    have zNM := bs_size NM
    have HT1 : Hid (∀ u, Below w3.heap.size w3 u → Calls Tryz.prog 41 #[.int .i64 (T : Nat)] u (RW (Is (.string (bs NT))) u)) := Lib.hid fun u hb => by rw [hNT]; exact (itoa_any T (by omega) u (HG.out.below (hR.call hb).below)).mono fun _ _ h => rw_below h
    have HT2 : Hid (∀ u, Below w3.heap.size w3 u → Calls Tryz.prog 41 #[.int .i64 (M : Nat)] u (RW (Is (.string (bs NM))) u)) := Lib.hid fun u hb => by rw [hNM]; exact (itoa_any M (by omega) u (HG.out.below (hR.call hb).below)).mono fun _ _ h => rw_below h
    have HC0 : Hid (∀ u, Below w3.heap.size w3 u → u.cell? ⟨bl, 0 + 0 * 1, none⟩ = some (.int .i64 (n0 : Nat))) := Lib.hid fun u hb => (hb.cell (p := ⟨bl, 0, none⟩) hbl).trans f4
    have HHD2 : Hid (textT (n0 :: rest) = (NT ++ 46 :: NM) ++ tailT rest) := Lib.hid (by rw [hNT, hNM, hM, hT]; rfl)
    have hes : bs NT ++ ⟨#[46]⟩ ++ bs NM = bs (NT ++ 46 :: NM) := by
      rw [bs_app, bs_app2]
      show bs ((NT ++ [46]) ++ NM) = _
      rw [List.append_assoc]; rfl
    clear hT hM hTl hNT hNM
    refine wp_region_softG 11 (by kernel_rfl) (by kernel_rfl) (by rfl) hR ?_
    refine g_move (R := Is (.int .i64 (T : Nat))) (by rfl) (stb_is _) (by exact fun _ _ _ h => h) ?_
    refine g_callK (f := 41) (xs := [.tmp 29]) [.int .i64 (T : Nat)] (R := Is (.string (bs NT))) (by rfl) Tryz.func41 (by kernel_rfl) rfl (stb_is _) ⟨(by exact fun _ _ _ h => h), trivial⟩ (HT1.out) ?_
    refine g_bin (v := .string (bs NT)) (u := .string ⟨#[46]⟩) (r := .string (bs NT ++ ⟨#[46]⟩)) (by rfl) (by exact fun _ _ _ h => h) (by exact fun _ _ _ h => h) (by rfl) (fun W => bin_adds _ _ (by rw [zNT]; show _ + 1 ≤ _; omega) W) ?_
    refine g_move (R := Is (.slice (some ⟨bl, 0, none⟩) (rest.length + 1) c3)) (by rfl) (stb_is _) (by exact fun _ _ _ h => h) ?_
    refine g_ixi (b := bl) (f := 0) (len := (rest.length + 1)) (c := c3) (i := 0) (by rfl) (by exact fun _ _ _ h => h) (by exact fun _ _ _ h => h) (Nat.succ_pos _) ?_
    refine g_cellw (g := bl) (k := 0 + 0 * 1) (v := .int .i64 (n0 : Nat)) (R := Is (.int .i64 (n0 : Nat))) (by rfl) (by exact fun _ _ _ h => h) (HC0.out) isAgg_int (stb_is _) (by exact fun _ _ => rfl) ?_
    refine g_move (R := Is (.int .i64 (T : Nat))) (by rfl) (stb_is _) (by exact fun _ _ _ h => h) ?_
    refine g_bin (v := .int .i64 40) (u := .int .i64 (T : Nat)) (r := .int .i64 (40 * (T : Int))) (by rfl) (by exact fun _ _ _ h => h) (by exact fun _ _ _ h => h) (by rfl) (fun W => bin_mulI _ _ HW1.out W) ?_
    refine g_bin (v := .int .i64 (n0 : Nat)) (u := .int .i64 (40 * (T : Int))) (r := .int .i64 (M : Nat)) (by rfl) (by exact fun _ _ _ h => h) (by exact fun _ _ _ h => h) (by rfl) (fun W => bin_subI _ _ HW2.out W) ?_
    refine g_callK (f := 41) (xs := [.tmp 37]) [.int .i64 (M : Nat)] (R := Is (.string (bs NM))) (by rfl) Tryz.func41 (by kernel_rfl) rfl (stb_is _) ⟨(by exact fun _ _ _ h => h), trivial⟩ (HT2.out) ?_
    refine g_bin (v := .string (bs NT ++ ⟨#[46]⟩)) (u := .string (bs NM)) (r := .string (bs NT ++ ⟨#[46]⟩ ++ bs NM)) (by rfl) (by exact fun _ _ _ h => h) (by exact fun _ _ _ h => h) (by rfl) (fun W => bin_adds _ _ (by rw [ByteArray.size_append, zNT, zNM]; show _ + 1 + _ ≤ _; omega) W) ?_
    intro w4 hR4 hb4 v29 h29 v30 h30 v31 h31 v32 h32 v33 h33 v34 h34 v35 h35 v36 h36 v37 h37 v38 h38 v39 h39
    simp only [softEnd, Act.put, List.setIfInBounds_toArray, List.set_cons_succ, List.set_cons_zero, List.drop_succ_cons, List.drop_zero]
    obtain rfl : v39 = .string (bs NT ++ ⟨#[46]⟩ ++ bs NM) := h39
    clear h29 h30 h31 h32 h33 h34 h35 h36 h37 h38
    rw [hes]
    obtain ⟨HD, hHD⟩ : ∃ HD, HD = NT ++ 46 :: NM := ⟨_, rfl⟩
    have HHD : Hid (HD.length ≤ 21) := Lib.hid (by rw [hHD]; simp; omega)
    rw [← hHD] at HHD2 ⊢
    have HB6 := Lib.hid hR4.below
    have HBL : Hid (bl < w4.heap.size) := Lib.hid (Nat.lt_of_lt_of_le hbl hb4.size)
    have HCE4 : Hid (∀ (j : Nat) y, (n0 :: rest)[j]? = some y → w4.cell? ⟨bl, j, none⟩ = some (.int .i64 (y : Nat))) := Lib.hid fun j y hj => (hb4.cell (p := ⟨bl, j, none⟩) hbl).trans (HCE.out j y hj)
    clear hes hHD hR4 hb4 f4 HT1 HT2 HC0 HCE hR
    have hMX := MX_eq
    by_cases hc1' : c3 = 1
    · have hr0 : rest = [] := List.eq_nil_of_length_eq_zero (by omega)
      subst hr0 hc1'
      go_upto_region 8 with fail
      go_loopg [8, 43] 0 (fun gg s8 s43 wr => gg = 0 ∧ s8 = .string (bs HD) ∧ s43 = .int .i64 0 ∧ wr = w4)
      case atStart => exact ⟨rfl, rfl, rfl, rfl⟩
      case round =>
        obtain ⟨rfl, rfl, rfl, rfl⟩ := hrel
        go_wp2_with fail
        go_ret2
        rw [HHD2.out]
        have e0 : HD ++ tailT [] = HD := List.append_nil _
        rw [e0]
        exact ⟨rfl, HB6.out⟩
    · go_upto_region 8 with fail
      clear hc1'
      obtain ⟨wb, hwb⟩ : ∃ wb : World, wb = w4 := ⟨_, rfl⟩
      rw [← hwb] at HB6 HBL HCE4 ⊢
      clear hwb
      go_loopg [8, 43] rest.length (fun gg s8 s43 wr => ∃ (i : Nat), i ≤ rest.length ∧ gg = rest.length - i ∧ s43 = .int .i64 (i : Nat) ∧ s8 = .string (bs (HD ++ tailT (rest.take i))) ∧ Aside (Below w.heap.size w wr ∧ Below wb.heap.size wb wr))
      case atStart => exact ⟨0, Nat.zero_le _, rfl, rfl, by rw [List.take_zero]; show _ = Value.string (bs (HD ++ [])); rw [List.append_nil], HB6.out, Below.refl _ _⟩
      case round =>
        obtain ⟨i, hil, rfl, rfl, rfl, HB⟩ := hrel
        by_cases hlt : i < rest.length
        · have hltz : (i : Int) < (rest.length : Int) := by omega
          obtain ⟨x, hx⟩ : ∃ x, rest[i]? = some x := ⟨rest[i], List.getElem?_eq_getElem hlt⟩
          have fx : wr.cell? ⟨bl, 1 + i, none⟩ = some (.int .i64 (x : Nat)) := (HB.out.2.cell (p := ⟨bl, 1 + i, none⟩) HBL.out).trans (by rw [Nat.add_comm 1 i]; exact HCE4.out (i + 1) x (by simpa using hx))
          have hxl : x ≤ 2147483647 := HAL.out x (List.mem_cons_of_mem _ (List.mem_of_getElem? hx))
          have HTK : Hid (rest.take (i + 1) = rest.take i ++ [x]) := Lib.hid (by
            rw [List.take_add_one, hx]; rfl)
          have HIT : Hid (∀ u, Below w.heap.size w u → Calls Tryz.prog 41 #[.int .i64 (x : Nat)] u fun e w' => e = .returned (.string (bs (numT x))) ∧ Below u.heap.size u w') := Lib.hid fun u hb => itoa_any x (by omega) u (HG.out.below hb)
          obtain ⟨P, hP⟩ : ∃ P, P = HD ++ tailT (rest.take i) := ⟨_, rfl⟩
          have hPl : P.length ≤ 200000 := by
            have h1 := tail_len (rest.take i) fun m hm => HAL.out m (List.mem_cons_of_mem _ (List.mem_of_mem_take hm))
            rw [List.length_take] at h1
            have h2 := HHD.out
            have h3 := HRL.out
            rw [hP, List.length_append]; omega
          have hNl : (numT x).length ≤ 10 := (num_grp hxl).2
          have zp := bs_size P
          have zn := bs_size (numT x)
          have HPP := Lib.hid hP
          rw [← hP]
          obtain ⟨NX, hNX⟩ : ∃ NX, NX = numT x := ⟨_, rfl⟩
          have HPS : Hid (bs P ++ (⟨#[46]⟩ ++ bs NX) = bs (HD ++ tailT (rest.take (i + 1)))) := Lib.hid (by
            rw [HTK.out, tail_snoc, ← List.append_assoc, ← hP, ← hNX]
            show bs P ++ (bs [46] ++ bs NX) = _
            rw [bs_app2, bs_app2]; rfl)
          rw [← hNX] at HIT hNl zn
          clear hx hP hxl hNX
          go_wp2_with (go_at_call 41; refine (HIT.out _ HB.out.1).mono ?_; rintro e w8 ⟨rfl, hb8⟩)
          rw [HPS.out]
          go_roundg (rest.length - (i + 1))
          case measure => omega
          case rel => exact ⟨i + 1, by omega, rfl, by go_num, rfl, HB.out.1.trans (hb8.mono HB.out.1.size), HB.out.2.trans (hb8.mono HB.out.2.size)⟩
        · have hltz : ¬ (i : Int) < (rest.length : Int) := by omega
          have HE : Hid (HD ++ tailT (rest.take i) = textT (n0 :: rest)) := Lib.hid (by
            rw [List.take_of_length_le (by omega), HHD2.out])
          go_wp2_with fail
          go_ret2
          rw [HE.out]
          exact ⟨rfl, HB.out.1⟩
end Go.Proofs.YtebhiplcoioenaaGreatDoor
