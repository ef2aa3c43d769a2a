/- ostiarylaw06.fixed: the walk (gen_zfixed.py). -/
import Derived.Test.YtebhiplcoioenaaGreatDoorZZOfOid
import Derived.Test.YtebhiplcoioenaaGreatDoorZZParse
import Derived.Test.YtebhiplcoioenaaGreatDoorZZSame
namespace Go.Proofs.YtebhiplcoioenaaGreatDoor
open Go.RowKit

def fxV : Dv := ⟨0, 16, true, [], .cons 0 2 false [5] .nil .nil⟩
theorem fx1_eq : parseS [48, 3, 2, 1, 5] = (fxV, 0) := by kernel_rfl
theorem fx2_eq : parseS [48, 129, 3, 2, 1, 5] = (.zero, 61) := by kernel_rfl
theorem fx3_eq : parseS [2, 2, 5] = (.zero, 60) := by kernel_rfl
theorem fx4_eq : parseS [2, 1, 5, 0] = (.zero, 66) := by kernel_rfl
theorem fx5_eq : parseS [8, 0] = (.zero, 62) := by kernel_rfl
theorem oid1_eq : ofOidS [50, 46, 53, 46, 50, 57, 46, 49, 57] = (oidV [85, 29, 19], 0) := by
  have h1 : oidS (oidV [85, 29, 19]) = ([50, 46, 53, 46, 50, 57, 46, 49, 57], 0) := by
    unfold oidS
    rw [if_pos (by decide +kernel), show groupsS (oidV [85, 29, 19]).b = some [85, 29, 19] from rfl]
    simp [textT, tailT, topN, numT_small, numT_big]
  exact oid_of h1
theorem oid2_eq : ofOidS [49, 46, 52, 48] = (.zero, 61) := by
  have h0 : oidBs ((splitW [49, 46, 52, 48]).map fun w => (wordN w).toNat) = [80] := by
    show grpT (80 / 128) ++ [UInt8.ofNat (80 % 128)] ++ [] = _
    rw [show 80 / 128 = 0 from rfl, grpT_zero]; rfl
  have h1 : oidS (oidV [80]) = ([50, 46, 48], 0) := by
    unfold oidS
    rw [if_pos (by decide +kernel), show groupsS (oidV [80]).b = some [80] from rfl]
    simp [textT, tailT, topN, numT_small]
  show (let ws := splitW [49, 46, 52, 48]; if ws.length < 2 ∨ 65536 < ([49, 46, 52, 48] : Bs).length ∨ ws.all wordB = false then (Dv.zero, (61 : Int)) else let d := oidV (oidBs (ws.map fun w => (wordN w).toNat)); if oidS d = ([49, 46, 52, 48], 0) then (d, 0) else (.zero, 61)) = _
  simp only
  rw [if_neg (by decide), h0, h1, if_neg (by decide)]
theorem tim1_eq : timeN ⟨0, 24, false, [50, 48, 48, 48, 48, 50, 50, 57, 48, 48, 48, 48, 48, 48, 90], .nil⟩ = (951782400, 0) := by decide +kernel
theorem tim2_eq : timeN ⟨0, 23, false, [48, 48, 48, 50, 51, 48, 48, 48, 48, 48, 48, 48, 90], .nil⟩ = (0, 65) := by decide +kernel
theorem oft_eq : ofTimeS 0 = (utcV [55, 48, 48, 49, 48, 49, 48, 48, 48, 48, 48, 48, 90], 0) := by
  have := of_num (y := 1970) (m := 1) (d := 1) (z := 0) (by decide) (by decide) (by decide) (by decide) (by decide) (by decide)
  rw [day_1970] at this
  exact this
set_option maxRecDepth 100000 in
set_option maxHeartbeats 8000000 in
theorem fixed_any (w : World) (hg : Gd w) : Calls Tryz.prog 13 #[] w (RetB true w) := by
  have hMX := MX_eq
  have H1 : Hid (∀ u, Below w.heap.size w u → Calls Tryz.prog 10 #[.string ⟨#[48, 3, 2, 1, 5]⟩] u fun e w' => ∃ ad c, e = .returned (.tuple #[dvv fxV ad c, .int .i64 0]) ∧ SlD w' fxV.l ad c ∧ Below u.heap.size u w') := Lib.hid fun u hb => (Parse_any [48, 3, 2, 1, 5] u (by decide) (hg.below hb)).mono fun e w' hh => by
    rw [fx1_eq] at hh
    obtain ⟨ad, c, h1, h2, _, h3⟩ := hh
    exact ⟨ad, c, h1, h2.sld, h3⟩
  have H2 : Hid (∀ u, Below w.heap.size w u → Calls Tryz.prog 10 #[.string ⟨#[48, 129, 3, 2, 1, 5]⟩] u fun e w' => ∃ ad c, e = .returned (.tuple #[dvv .zero ad c, .int .i64 61]) ∧ Below u.heap.size u w') := Lib.hid fun u hb => (Parse_any [48, 129, 3, 2, 1, 5] u (by decide) (hg.below hb)).mono fun e w' hh => by
    rw [fx2_eq] at hh
    obtain ⟨ad, c, h1, h2, _, h3⟩ := hh
    exact ⟨ad, c, h1, h3⟩
  have H3 : Hid (∀ u, Below w.heap.size w u → Calls Tryz.prog 10 #[.string ⟨#[2, 2, 5]⟩] u fun e w' => ∃ ad c, e = .returned (.tuple #[dvv .zero ad c, .int .i64 60]) ∧ Below u.heap.size u w') := Lib.hid fun u hb => (Parse_any [2, 2, 5] u (by decide) (hg.below hb)).mono fun e w' hh => by
    rw [fx3_eq] at hh
    obtain ⟨ad, c, h1, h2, _, h3⟩ := hh
    exact ⟨ad, c, h1, h3⟩
  have H4 : Hid (∀ u, Below w.heap.size w u → Calls Tryz.prog 10 #[.string ⟨#[2, 1, 5, 0]⟩] u fun e w' => ∃ ad c, e = .returned (.tuple #[dvv .zero ad c, .int .i64 66]) ∧ Below u.heap.size u w') := Lib.hid fun u hb => (Parse_any [2, 1, 5, 0] u (by decide) (hg.below hb)).mono fun e w' hh => by
    rw [fx4_eq] at hh
    obtain ⟨ad, c, h1, h2, _, h3⟩ := hh
    exact ⟨ad, c, h1, h3⟩
  have H5 : Hid (∀ u, Below w.heap.size w u → Calls Tryz.prog 10 #[.string ⟨#[8, 0]⟩] u fun e w' => ∃ ad c, e = .returned (.tuple #[dvv .zero ad c, .int .i64 62]) ∧ Below u.heap.size u w') := Lib.hid fun u hb => (Parse_any [8, 0] u (by decide) (hg.below hb)).mono fun e w' hh => by
    rw [fx5_eq] at hh
    obtain ⟨ad, c, h1, h2, _, h3⟩ := hh
    exact ⟨ad, c, h1, h3⟩
  obtain ⟨BO, hBO⟩ : ∃ BO, BO = bs [85, 29, 19] := ⟨_, rfl⟩
  obtain ⟨BT, hBT⟩ : ∃ BT, BT = bs [55, 48, 48, 49, 48, 49, 48, 48, 48, 48, 48, 48, 90] := ⟨_, rfl⟩
  obtain ⟨B5, hB5⟩ : ∃ B5, B5 = bs [5] := ⟨_, rfl⟩
  have H6 : Hid (∀ u, Below w.heap.size w u → Calls Tryz.prog 18 #[.string ⟨#[50, 46, 53, 46, 50, 57, 46, 49, 57]⟩] u fun e w' => e = .returned (.tuple #[.agg (pv 6 BO), .int .i64 0]) ∧ Below u.heap.size u w') := Lib.hid fun u hb => (OfOid_any [50, 46, 53, 46, 50, 57, 46, 49, 57] u (by decide) (hg.below hb)).mono fun e w' hh => by
    rw [oid1_eq] at hh
    rw [hBO]; exact hh.2
  have H7 : Hid (∀ u, Below w.heap.size w u → Calls Tryz.prog 18 #[.string ⟨#[49, 46, 52, 48]⟩] u fun e w' => e = .returned (.tuple #[.agg (pv 0 ⟨#[]⟩), .int .i64 61]) ∧ Below u.heap.size u w') := Lib.hid fun u hb => (OfOid_any [49, 46, 52, 48] u (by decide) (hg.below hb)).mono fun e w' hh => by
    rw [oid2_eq] at hh
    exact hh.2
  have H8 : Hid (∀ u, Below w.heap.size w u → Calls Tryz.prog 20 #[.agg (pv 24 ⟨#[50, 48, 48, 48, 48, 50, 50, 57, 48, 48, 48, 48, 48, 48, 90]⟩)] u fun e w' => e = .returned (.tuple #[.int .i64 951782400, .int .i64 0]) ∧ Below u.heap.size u w') := Lib.hid fun u hb => (Time_any ⟨0, 24, false, [50, 48, 48, 48, 48, 50, 50, 57, 48, 48, 48, 48, 48, 48, 90], .nil⟩ none 0 u (by decide) (hg.below hb) (fun t _ _ _ u2 hu2 => Check_any _ none 0 u2 (by decide) (SlD.nil u2) (hg.below (hb.trans (hu2.mono hb.size))))).mono fun e w' hh => by
    rw [tim1_eq] at hh
    exact hh
  have H9 : Hid (∀ u, Below w.heap.size w u → Calls Tryz.prog 20 #[.agg (pv 23 ⟨#[48, 48, 48, 50, 51, 48, 48, 48, 48, 48, 48, 48, 90]⟩)] u fun e w' => e = .returned (.tuple #[.int .i64 0, .int .i64 65]) ∧ Below u.heap.size u w') := Lib.hid fun u hb => (Time_any ⟨0, 23, false, [48, 48, 48, 50, 51, 48, 48, 48, 48, 48, 48, 48, 90], .nil⟩ none 0 u (by decide) (hg.below hb) (fun t _ _ _ u2 hu2 => Check_any _ none 0 u2 (by decide) (SlD.nil u2) (hg.below (hb.trans (hu2.mono hb.size))))).mono fun e w' hh => by
    rw [tim2_eq] at hh
    exact hh
  have H10 : Hid (∀ u, Calls Tryz.prog 22 #[.int .i64 0] u fun e w' => e = .returned (.tuple #[.agg (pv 23 BT), .int .i64 0]) ∧ Below u.heap.size u w') := Lib.hid fun u => (OfTime_any 0 u (by decide) (by decide)).mono fun e w' hh => by
    rw [oft_eq] at hh
    rw [hBT]; exact hh.2
  have q5 : B5.toList = [5] := by rw [hB5, bs_list]
  have qo : BO.toList = [85, 29, 19] := by rw [hBO, bs_list]
  have qt : BT.toList = [55, 48, 48, 49, 48, 49, 48, 48, 48, 48, 48, 48, 90] := by rw [hBT, bs_list]
  have HB5 := Lib.hid hB5
  clear hBO hBT hB5 hg
  go_enter Tryz.func13, Tryz.ntmps13
  go_upto_region 2 with (first
    | (go_at_call 10; refine (H1.out _ (Below.refl _ _)).mono ?_; rintro e wa ⟨ad1, c1, rfl, hs1, hb1⟩; have hR := Rws.start wa)
    | (refine wpList_alloc_rws rfl _ (by rfl) (by exact hR) (dvC .zero none 0) zero_der ?_; intro g1 wx1 hR)
    | (refine wpList_store_rws rfl _ _ _ (by rfl) (by exact hR) g1 rfl #[.int .i64 0, .int .i64 16, .bool true, .string ⟨#[]⟩, .slice ad1 1 c1] (by rfl) _ _ _ (by repeat (first | exact Pick.here | apply Pick.there)) (by kernel_rfl) (by rfl) (by simp [Value.oneCell']) ?_; intro wy1 hR))
  have HB1 := Lib.hid hb1
  have hlow : ∀ u, Below wa.heap.size wa u → Below w.heap.size w u := fun u hu => HB1.out.trans (hu.mono HB1.out.size)
  have HLO := Lib.hid hlow
  obtain ⟨hle1, hcm1, b1, f1, had1, hrow1⟩ := hs1
  obtain rfl : ad1 = some ⟨b1, f1, none⟩ := by
    rcases had1 with h | ⟨_, h⟩
    · exact h
    · exact absurd h (by decide)
  obtain ⟨_, _, _, _, _, hb5, _⟩ := hrow1.kids
  rw [← HB5.out] at hb5
  have HC5 : Hid (∀ u, Below wa.heap.size wa u → u.cell? ⟨b1, f1 + 3, none⟩ = some (.string B5)) := Lib.hid fun u hu => (hu.cell (p := ⟨b1, f1 + 3, none⟩) (World.block_lt_of_cell? wa _ hb5)).trans hb5
  have hc1 : 1 ≤ c1 := hle1
  clear hb1 hlow hle1 had1 hrow1 hb5
  go_upto_region 3 with (first
    | (go_at_call 10; refine (H2.out _ (HLO.out _ hR.below)).mono ?_; rintro e wb2 ⟨ad2, c2, rfl, hb2⟩; have hR := hR.call hb2)
    | (refine wpList_alloc_rws rfl _ (by rfl) (by exact hR) (dvC .zero none 0) zero_der ?_; intro g2 wx2 hR)
    | (refine wpList_store_rws rfl _ _ _ (by rfl) (by exact hR) g2 rfl (dvC .zero ad2 c2) (by rfl) _ _ _ (by repeat (first | exact Pick.here | apply Pick.there)) (by kernel_rfl) (by rfl) (by simp [Value.oneCell', dvC, Dv.zero]) ?_; intro wy2 hR))
  clear hb2
  go_upto_region 4 with (first
    | (go_at_call 10; refine (H3.out _ (HLO.out _ hR.below)).mono ?_; rintro e wb3 ⟨ad3, c3, rfl, hb3⟩; have hR := hR.call hb3)
    | (refine wpList_alloc_rws rfl _ (by rfl) (by exact hR) (dvC .zero none 0) zero_der ?_; intro g3 wx3 hR)
    | (refine wpList_store_rws rfl _ _ _ (by rfl) (by exact hR) g3 rfl (dvC .zero ad3 c3) (by rfl) _ _ _ (by repeat (first | exact Pick.here | apply Pick.there)) (by kernel_rfl) (by rfl) (by simp [Value.oneCell', dvC, Dv.zero]) ?_; intro wy3 hR))
  clear hb3
  go_upto_region 5 with (first
    | (go_at_call 10; refine (H4.out _ (HLO.out _ hR.below)).mono ?_; rintro e wb4 ⟨ad4, c4, rfl, hb4⟩; have hR := hR.call hb4)
    | (refine wpList_alloc_rws rfl _ (by rfl) (by exact hR) (dvC .zero none 0) zero_der ?_; intro g4 wx4 hR)
    | (refine wpList_store_rws rfl _ _ _ (by rfl) (by exact hR) g4 rfl (dvC .zero ad4 c4) (by rfl) _ _ _ (by repeat (first | exact Pick.here | apply Pick.there)) (by kernel_rfl) (by rfl) (by simp [Value.oneCell', dvC, Dv.zero]) ?_; intro wy4 hR))
  clear hb4
  go_upto_region 6 with (first
    | (go_at_call 10; refine (H5.out _ (HLO.out _ hR.below)).mono ?_; rintro e wb5 ⟨ad5, c5, rfl, hb5⟩; have hR := hR.call hb5)
    | (refine wpList_alloc_rws rfl _ (by rfl) (by exact hR) (dvC .zero none 0) zero_der ?_; intro g5 wx5 hR)
    | (refine wpList_store_rws rfl _ _ _ (by rfl) (by exact hR) g5 rfl (dvC .zero ad5 c5) (by rfl) _ _ _ (by repeat (first | exact Pick.here | apply Pick.there)) (by kernel_rfl) (by rfl) (by simp [Value.oneCell', dvC, Dv.zero]) ?_; intro wy5 hR))
  clear hb5
  go_upto_region 7 with (first
    | (go_at_call 18; refine (H6.out _ (HLO.out _ hR.below)).mono ?_; rintro e wb6 ⟨rfl, hb6⟩; have hR := hR.call hb6)
    | (refine wpList_alloc_rws rfl _ (by rfl) (by exact hR) (dvC .zero none 0) zero_der ?_; intro g6 wx6 hR)
    | (refine wpList_store_rws rfl _ _ _ (by rfl) (by exact hR) g6 rfl (pv 6 BO) (by rfl) _ _ _ (by repeat (first | exact Pick.here | apply Pick.there)) (by kernel_rfl) (by rfl) (by simp [Value.oneCell', pv]) ?_; intro wy6 hR))
  clear hb6
  go_upto_region 8 with (first
    | (go_at_call 18; refine (H7.out _ (HLO.out _ hR.below)).mono ?_; rintro e wb7 ⟨rfl, hb7⟩; have hR := hR.call hb7)
    | (refine wpList_alloc_rws rfl _ (by rfl) (by exact hR) (dvC .zero none 0) zero_der ?_; intro g7 wx7 hR)
    | (refine wpList_store_rws rfl _ _ _ (by rfl) (by exact hR) g7 rfl (pv 0 ⟨#[]⟩) (by rfl) _ _ _ (by repeat (first | exact Pick.here | apply Pick.there)) (by kernel_rfl) (by rfl) (by simp [Value.oneCell', pv]) ?_; intro wy7 hR))
  clear hb7
  go_upto_region 9 with (go_at_call 20; refine (H8.out _ (HLO.out _ hR.below)).mono ?_; rintro e wb8 ⟨rfl, hb8⟩; have hR := hR.call hb8)
  clear hb8
  go_upto_region 10 with (go_at_call 20; refine (H9.out _ (HLO.out _ hR.below)).mono ?_; rintro e wb9 ⟨rfl, hb9⟩; have hR := hR.call hb9)
  clear hb9
  go_upto_region 11 with (first
    | (go_at_call 22; refine (H10.out _).mono ?_; rintro e wb10 ⟨rfl, hb10⟩; have hR := hR.call hb10)
    | (refine wpList_alloc_rws rfl _ (by rfl) (by exact hR) (dvC .zero none 0) zero_der ?_; intro g10 wx10 hR)
    | (refine wpList_store_rws rfl _ _ _ (by rfl) (by exact hR) g10 rfl (pv 23 BT) (by rfl) _ _ _ (by repeat (first | exact Pick.here | apply Pick.there)) (by kernel_rfl) (by rfl) (by simp [Value.oneCell', pv]) ?_; intro wy10 hR))
  clear hb10 H1 H2 H3 H4 H5 H6 H7 H8 H9 H10
  have k1 := HC5.out _ hR.below
  have k2 := hR.cellAt (g := g1) (by repeat (first | exact List.Mem.head _ | refine List.Mem.tail _ ?_)) 4 rfl
  have k3 := hR.cellAt (g := g6) (by repeat (first | exact List.Mem.head _ | refine List.Mem.tail _ ?_)) 3 rfl
  have k4 := hR.cellAt (g := g10) (by repeat (first | exact List.Mem.head _ | refine List.Mem.tail _ ?_)) 1 rfl
  have k5 := hR.cellAt (g := g10) (by repeat (first | exact List.Mem.head _ | refine List.Mem.tail _ ?_)) 3 rfl
  have HB := Lib.hid (HLO.out _ hR.below)
  clear hR
  go_wp2_with fail
  go_ret
  exact ⟨rfl, HB.out⟩
end Go.Proofs.YtebhiplcoioenaaGreatDoor
