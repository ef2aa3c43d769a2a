/- ZRTwo ZROfTime ZROfTime2, in one text. -/
import Derived.Test.YtebhiplcoioenaaGreatDoorZDI
import Derived.Test.YtebhiplcoioenaaGreatDoorZZWhole
import Derived.Test.YtebhiplcoioenaaGreatDoorZZRDays
import Derived.Test.YtebhiplcoioenaaGreatDoorZZOfTime
import Derived.Deep.LoopGhost
/- ostiaryref06.two: the walk. -/
namespace Go.Proofs.YtebhiplcoioenaaGreatDoor
open Go.RowKit

set_option maxRecDepth 100000 in
set_option maxHeartbeats 4000000 in
theorem two_any (n : Nat) (w : World) (hn : n < 100) : Calls Tryz.prog 58 #[.int .i64 (n : Nat)] w fun e w' => e = .returned (.string (bs (twoT n))) ∧ Below w.heap.size w w' := by
  have hcv : ∀ u : World, (convert 68 9 (.slice (some ⟨u.heap.size, 0, none⟩) 2 2)).run Tryz.prog (u.alloc (.cells #[.int .u8 (48 + (n : Int) / 10), .int .u8 (48 + (n : Int) % 10)] 5)) = .ok (.string (bs (twoT n))) (u.alloc (.cells #[.int .u8 (48 + (n : Int) / 10), .int .u8 (48 + (n : Int) % 10)] 5)) := fun u => conv_l (twoT n) _ (by
    unfold ByC twoT
    simp only [List.map_cons, List.map_nil]
    rw [u8_lt (48 + n / 10) (by omega), u8_lt (48 + n % 10) (by omega)]
    rfl) u (by unfold twoT; simp)
  have HB := Lib.hid (b_alloc w (.cells #[.int .u8 (48 + (n : Int) / 10), .int .u8 (48 + (n : Int) % 10)] 5))
  go_enter Tryz.func58, Tryz.ntmps58
  go_wp2_with fail
  go_ret
  exact ⟨rfl, HB.out⟩
end Go.Proofs.YtebhiplcoioenaaGreatDoor
/- ostiaryref06.OfTime: the walk. -/
namespace Go.Proofs.YtebhiplcoioenaaGreatDoor
open Go.RowKit

set_option maxRecDepth 100000 in
set_option maxHeartbeats 8000000 in
theorem ROfTime_bad (t : Int) (w : World) (ht : -9223372036854775808 ≤ t) (ht2 : t ≤ 9223372036854775807) (h : t < -62167219200 ∨ 253402300800 ≤ t) : Calls Tryz.prog 23 #[.int .i64 t] w (RetDv w (.zero, 61)) := by
  have hR := Rws.start w
  have HY7 : Hid (∀ u, Calls Tryz.prog 55 #[.int .i64 1970] u fun e w' => e = .returned (.int .i64 719528) ∧ u = w') := Lib.hid fun u => by
    have h70 : yearsS 1970 = 719528 := day_1970
    have := Years_any 1970 u (by decide)
    rw [h70] at this
    exact this.mono fun _ _ hh => ⟨hh.1, hh.2.symm⟩
  have HYX : Hid (∀ u, Calls Tryz.prog 55 #[.int .i64 10000] u fun e w' => e = .returned (.int .i64 3652425) ∧ u = w') := Lib.hid fun u => by
    have := Years_any 10000 u (by decide)
    rw [years_10000] at this
    exact this.mono fun _ _ hh => ⟨hh.1, hh.2.symm⟩
  by_cases h1 : t < -62167219200
  · clear h
    go_enter Tryz.func23, Tryz.ntmps23
    go_upto_region 1 with (refine wpList_alloc_rws rfl _ (by rfl) (by exact hR) (dvC .zero none 0) zero_der ?_; intro g2 w1 hR)
    go_wp2_with (first
      | (go_at_call_of 55 (Value.int IntKind.i64 1970); refine (HY7.out _).mono ?_; rintro e wn ⟨rfl, rfl⟩)
      | (refine wpList_store_rws rfl _ _ _ (by rfl) (by exact hR) g2 rfl (dvC .zero none 0) (by rfl) _ _ _ (by repeat (first | exact Pick.here | apply Pick.there)) (by kernel_rfl) (by kernel_rfl) (by kernel_rfl) ?_; intro w6 hR))
    have HR := Lib.hid hR
    refine bodyPost_rws2 rfl HR.out g2 rfl _ _ (List.Mem.head _) _ Tryz.underlying24 rfl (by kernel_rfl) _ rfl rfl (fun hbz => ?_)
    exact ⟨rfl, rfl, hbz⟩
  · have h2 : 253402300800 ≤ t := by omega
    clear h
    go_enter Tryz.func23, Tryz.ntmps23
    go_upto_region 1 with (refine wpList_alloc_rws rfl _ (by rfl) (by exact hR) (dvC .zero none 0) zero_der ?_; intro g2 w1 hR)
    go_wp2_with (first
      | (go_at_call_of 55 (Value.int IntKind.i64 1970); refine (HY7.out _).mono ?_; rintro e wn ⟨rfl, rfl⟩)
      | (go_at_call_of 55 (Value.int IntKind.i64 10000); refine (HYX.out _).mono ?_; rintro e wn ⟨rfl, rfl⟩)
      | (refine wpList_store_rws rfl _ _ _ (by rfl) (by exact hR) g2 rfl (dvC .zero none 0) (by rfl) _ _ _ (by repeat (first | exact Pick.here | apply Pick.there)) (by kernel_rfl) (by kernel_rfl) (by kernel_rfl) ?_; intro w6 hR))
    have HR := Lib.hid hR
    refine bodyPost_rws2 rfl HR.out g2 rfl _ _ (List.Mem.head _) _ Tryz.underlying24 rfl (by kernel_rfl) _ rfl rfl (fun hbz => ?_)
    exact ⟨rfl, rfl, hbz⟩
end Go.Proofs.YtebhiplcoioenaaGreatDoor
/- ostiaryref06.OfTime: the walk where there is a time. -/
namespace Go.Proofs.YtebhiplcoioenaaGreatDoor
open Go.RowKit

theorem bin_addZ (a b : Int) {r : Int} (h : IntKind.i64.wrap (a + b) = r) (W : World) : (binOp .add 3 (.int .i64 a) (.int .i64 b)).run Tryz.prog W = .ok (.int .i64 r) W := by
  rw [← h]; kernel_rfl
theorem bin_quoN (a b : Nat) (hb : 0 < b) (hb2 : b < 4611686018427387904) (ha : a < 4611686018427387904) (W : World) : (binOp .quo 3 (.int .i64 (a : Nat)) (.int .i64 (b : Nat))).run Tryz.prog W = .ok (.int .i64 ((a / b : Nat) : Int)) W := by
  have hq : Int.tdiv (a : Int) (b : Int) = ((a / b : Nat) : Int) := by rw [Int.tdiv_eq_ediv_of_nonneg (by omega)]; rfl
  have hl : a / b ≤ a := Nat.div_le_self a b
  have hw : IntKind.i64.wrap (Int.tdiv (a : Int) (b : Int)) = ((a / b : Nat) : Int) := by
    rw [hq]
    generalize a / b = q at *
    exact IntWalk.i64_in _ (by omega)
  rw [← hw, binOp_quo]
  unfold Op.intDiv
  simp only
  rw [if_neg (by simp; omega)]
  rfl
theorem bin_remN (a b : Nat) (hb : 0 < b) (hb2 : b < 4611686018427387904) (ha : a < 4611686018427387904) (W : World) : (binOp .rem 3 (.int .i64 (a : Nat)) (.int .i64 (b : Nat))).run Tryz.prog W = .ok (.int .i64 ((a % b : Nat) : Int)) W := by
  have hq : Int.tmod (a : Int) (b : Int) = ((a % b : Nat) : Int) := by rw [Int.tmod_eq_emod_of_nonneg (by omega)]; rfl
  rw [← hq, binOp_rem]
  unfold Op.intDiv
  simp only
  rw [if_neg (by simp; omega)]
  rfl
set_option maxRecDepth 100000 in
set_option maxHeartbeats 8000000 in
theorem ROfTime_ok (t : Int) (w : World) (h1 : -62167219200 ≤ t) (h2 : t < 253402300800) : Calls Tryz.prog 23 #[.int .i64 t] w (RetDv w (ofTimeS t)) := by
  have hR := Rws.start w
  have HY7 : Hid (∀ u, Calls Tryz.prog 55 #[.int .i64 1970] u fun e w' => e = .returned (.int .i64 719528) ∧ u = w') := Lib.hid fun u => by
    have h70 : yearsS 1970 = 719528 := day_1970
    have := Years_any 1970 u (by decide)
    rw [h70] at this
    exact this.mono fun _ _ hh => ⟨hh.1, hh.2.symm⟩
  have HYX : Hid (∀ u, Calls Tryz.prog 55 #[.int .i64 10000] u fun e w' => e = .returned (.int .i64 3652425) ∧ u = w') := Lib.hid fun u => by
    have := Years_any 10000 u (by decide)
    rw [years_10000] at this
    exact this.mono fun _ _ hh => ⟨hh.1, hh.2.symm⟩
  obtain ⟨U, hU⟩ : ∃ U : Nat, (U : Int) = t + 62167219200 := ⟨(t + 62167219200).toNat, by omega⟩
  have hUl : U < 315569520000 := by omega
  obtain ⟨y, m, d, hy, hm1, hm2, hd1, hd2, hn⟩ := has_date (n := U / 86400) (by rw [years_10000]; omega)
  obtain ⟨e1, e2, e3⟩ := date_is hy hm1 hm2 hd1 hd2
  have HO : Hid (ofTimeS t = (timeV y m d (U % 86400), 0)) := Lib.hid (by
    unfold ofTimeS
    rw [if_neg (by omega)]
    have : (t + 62167219200).toNat = U := by omega
    simp only [this]
    rw [hn, e1, e2, e3])
  obtain ⟨S, hS⟩ : ∃ S, S = U % 86400 := ⟨_, rfl⟩
  obtain ⟨N, hN⟩ : ∃ N, N = U / 86400 := ⟨_, rfl⟩
  rw [← hS] at HO
  rw [← hN] at hn
  obtain rfl : t = (U : Int) - 62167219200 := by omega
  have HS := Lib.hid hS; have HN := Lib.hid hN; have HND := Lib.hid hn
  clear hS hN hn e1 e2 e3 hU h1 h2
  go_enter Tryz.func23, Tryz.ntmps23
  go_upto_region 1 with (refine wpList_alloc_rws rfl _ (by rfl) (by exact hR) (dvC .zero none 0) zero_der ?_; intro g2 w1 hR)
  go_upto_region 6 with (first
    | (go_at_call_of 55 (Value.int IntKind.i64 1970); refine (HY7.out _).mono ?_; rintro e wn ⟨rfl, rfl⟩)
    | (go_at_call_of 55 (Value.int IntKind.i64 10000); refine (HYX.out _).mono ?_; rintro e wn ⟨rfl, rfl⟩))
  have HR1 := Lib.hid hR
  have hNy : yearsS y ≤ N ∧ N < yearsS (y + 1) := by
    have := date_in hm1 hm2 hd1 hd2
    rw [HND.out]; exact this
  have HNY := Lib.hid hNy
  have HNU : Hid (N ≤ 3652425) := Lib.hid (by rw [HN.out]; omega)
  have HLE : Hid (∀ (k : Nat) u, k ≤ y → Calls Tryz.prog 56 #[.int .i64 (k : Nat)] u fun e w' => e = .returned (.bool (leapB k)) ∧ u = w') := Lib.hid fun k u hk => (leap_any k u (by omega)).mono fun _ _ hh => ⟨hh.1, hh.2.symm⟩
  clear hR hNy HY7 HYX
  go_loopg [5, 6] y (fun gg s5 s6 wr => ∃ k : Nat, k + gg = y ∧ s6 = .int .i64 k ∧ s5 = .int .i64 ((N - yearsS k : Nat) : Int) ∧ wr = w1)
  case atStart => exact ⟨0, by omega, rfl, by rw [HN.out]; simp [yearsS], rfl⟩
  case round =>
    obtain ⟨k, hk, rfl, rfl, rfl⟩ := hrel
    have hLK := HLE.out k wr (by omega)
    have hys : yearsS (k + 1) = yearsS k + if leapB k then 366 else 365 := rfl
    cases gk with
    | succ gk =>
      have hmono := years_mono (a := k + 1) (b := y) (by omega)
      have hNk : yearsS (k + 1) ≤ N := Nat.le_trans hmono HNY.out.1
      obtain ⟨R, hR⟩ : ∃ R, R = N - yearsS k := ⟨_, rfl⟩
      cases hl : leapB k with
      | true =>
        rw [hl] at hLK hys
        simp only [if_true] at hys
        have hRl : 366 ≤ R := by omega
        have hRu : R ≤ 3652425 := by have := HNU.out; omega
        have HX : Hid (R - 366 = N - yearsS (k + 1)) := Lib.hid (by omega)
        rw [← hR]
        clear hys hmono hNk hR hl
        have HLK := Lib.hid hLK
        clear hLK
        go_wp2_with (go_at_call 56; refine (HLK.out).mono ?_; rintro e wn ⟨rfl, rfl⟩)
        go_roundg gk
        case measure => omega
        case rel => exact ⟨k + 1, by omega, by go_num, by rw [← HX.out]; go_num, rfl⟩
      | false =>
        rw [hl] at hLK hys
        simp only [Bool.false_eq_true, if_false] at hys
        have hRl : 365 ≤ R := by omega
        have hRu : R ≤ 3652425 := by have := HNU.out; omega
        have HX : Hid (R - 365 = N - yearsS (k + 1)) := Lib.hid (by omega)
        rw [← hR]
        clear hys hmono hNk hR hl
        have HLK := Lib.hid hLK
        clear hLK
        go_wp2_with (go_at_call 56; refine (HLK.out).mono ?_; rintro e wn ⟨rfl, rfl⟩)
        go_roundg gk
        case measure => omega
        case rel => exact ⟨k + 1, by omega, by go_num, by rw [← HX.out]; go_num, rfl⟩
    | zero =>
      obtain rfl : k = y := by omega
      obtain ⟨R, hR⟩ : ∃ R, R = N - yearsS k := ⟨_, rfl⟩
      have hRu : R ≤ 366 := by have := HNY.out; have := (years_step k).2; omega
      have HRD : Hid (R = monthsS k m + (d - 1)) := Lib.hid (by
        rw [hR, HND.out]; unfold dayS; omega)
      rw [← hR]
      have hcase : R < 365 ∨ (R = 365 ∧ leapB k = true) := by
        have := HNY.out.2
        rw [hys] at this
        cases hl : leapB k with
        | true =>
          rw [hl, if_pos rfl] at this
          rcases Nat.lt_or_ge R 365 with h | h
          · exact Or.inl h
          · exact Or.inr ⟨by omega, rfl⟩
        | false => rw [hl, if_neg (by decide)] at this; omega
      clear hys HNY hR
      have HLK := Lib.hid hLK
      clear hLK
      have HDA : Hid (∀ (j : Nat) u, 1 ≤ j → j ≤ m → Calls Tryz.prog 57 #[.int .i64 (k : Nat), .int .i64 (j : Nat)] u fun e w' => e = .returned (.int .i64 (lenM k j : Nat)) ∧ Below u.heap.size u w') := Lib.hid fun j u h1 h2 => days_any k j u (by omega) h1 (by omega)
      rcases hcase with hcs | ⟨hcs, hlp0⟩
      · have hcz : ¬ (365 : Int) ≤ (R : Int) := by omega
        go_upto_region 12 with (go_at_call 56; refine (HLK.out).mono ?_; rintro e wn ⟨rfl, rfl⟩)
        clear HLK
        go_loopg [5, 7] (m - 1) (fun gg s5 s7 wx => ∃ j : Nat, 1 ≤ j ∧ j + gg = m ∧ s7 = .int .i64 j ∧ s5 = .int .i64 ((R - monthsS k j : Nat) : Int) ∧ Aside (Rws w.heap.size w wx [(g2, dvC .zero none 0, 24)]))
        case atStart => exact ⟨1, Nat.le_refl _, by omega, rfl, by simp [monthsS], HR1.out⟩
        case round =>
          obtain ⟨j, hj1, hjm, rfl, rfl, HRX⟩ := hrel
          have hDK := HDA.out j
          have hst := months_step k j hj1
          have hlp := lenM_pos k j
          have hmono := months_mono k hj1 (by omega : j ≤ m)
          cases gk with
          | succ gk =>
            have hmono2 := months_mono k (a := j + 1) (b := m) (by omega) (by omega)
            have hle : lenM k j ≤ R - monthsS k j := by have := HRD.out; omega
            obtain ⟨Q, hQ⟩ : ∃ Q, Q = R - monthsS k j := ⟨_, rfl⟩
            have HX : Hid (Q - lenM k j = R - monthsS k (j + 1)) := Lib.hid (by omega)
            have hQu : Q ≤ 366 := by omega
            rw [← hQ] at hle ⊢
            clear hst hmono hmono2 hQ
            generalize lenM k j = LJ at *
            have HDK := Lib.hid hDK
            clear hDK
            go_wp2_with (go_at_call 57; refine (HDK.out _ hj1 (by omega)).mono ?_; rintro e wn ⟨rfl, hbn⟩; have HRX := Lib.hid ((HRX.out).call hbn))
            go_roundg gk
            case measure => omega
            case rel => exact ⟨j + 1, by omega, by omega, by go_num, by rw [← HX.out]; go_num, HRX.out⟩
          | zero =>
            obtain rfl : j = m := by omega
            have hQ : R - monthsS k j = d - 1 := by have := HRD.out; omega
            rw [hQ]
            have hlt : d - 1 < lenM k j := by omega
            have hd31 : d ≤ 31 := by omega
            clear hst hmono hQ
            generalize lenM k j = LJ at *
            have HDK := Lib.hid hDK
            clear hDK
            have eS : (U : Int) % 86400 = (S : Int) := by rw [HS.out]; omega
            have hSl : S < 86400 := by rw [HS.out]; exact Nat.mod_lt _ (by decide)
            go_upto_region 16 with (go_at_call 57; refine (HDK.out _ hj1 (by omega)).mono ?_; rintro e wn ⟨rfl, hbn⟩; have HRX := Lib.hid ((HRX.out).call hbn))
            have hz100 : (k : Int) / 100 = ((k / 100 : Nat) : Int) := by omega
            have hz101 : (k : Int) % 100 = ((k % 100 : Nat) : Int) := by omega
            obtain ⟨A1, hA1⟩ : ∃ A, A = twoT (j) := ⟨_, rfl⟩
            have z1 : (bs A1).size = 2 := by rw [hA1, bs_size]; rfl
            have HT1 : Hid (∀ (a : Int) u, a = ((j : Nat) : Int) → Calls Tryz.prog 58 #[.int .i64 a] u fun e w' => e = .returned (.string (bs A1)) ∧ Below u.heap.size u w') := Lib.hid fun a u h => by rw [hA1, h]; exact two_any _ u (by omega)
            have T1 : True := trivial
            obtain ⟨A2, hA2⟩ : ∃ A, A = twoT (d) := ⟨_, rfl⟩
            have z2 : (bs A2).size = 2 := by rw [hA2, bs_size]; rfl
            have HT2 : Hid (∀ (a : Int) u, a = ((d : Nat) : Int) → Calls Tryz.prog 58 #[.int .i64 a] u fun e w' => e = .returned (.string (bs A2)) ∧ Below u.heap.size u w') := Lib.hid fun a u h => by rw [hA2, h]; exact two_any _ u (by omega)
            have T2 : True := trivial
            obtain ⟨A3, hA3⟩ : ∃ A, A = twoT (S / 3600) := ⟨_, rfl⟩
            have z3 : (bs A3).size = 2 := by rw [hA3, bs_size]; rfl
            have HT3 : Hid (∀ (a : Int) u, a = ((S / 3600 : Nat) : Int) → Calls Tryz.prog 58 #[.int .i64 a] u fun e w' => e = .returned (.string (bs A3)) ∧ Below u.heap.size u w') := Lib.hid fun a u h => by rw [hA3, h]; exact two_any _ u (by omega)
            have T3 : True := trivial
            obtain ⟨A4, hA4⟩ : ∃ A, A = twoT (S / 60 % 60) := ⟨_, rfl⟩
            have z4 : (bs A4).size = 2 := by rw [hA4, bs_size]; rfl
            have HT4 : Hid (∀ (a : Int) u, a = ((S / 60 % 60 : Nat) : Int) → Calls Tryz.prog 58 #[.int .i64 a] u fun e w' => e = .returned (.string (bs A4)) ∧ Below u.heap.size u w') := Lib.hid fun a u h => by rw [hA4, h]; exact two_any _ u (by omega)
            have T4 : True := trivial
            obtain ⟨A5, hA5⟩ : ∃ A, A = twoT (S % 60) := ⟨_, rfl⟩
            have z5 : (bs A5).size = 2 := by rw [hA5, bs_size]; rfl
            have HT5 : Hid (∀ (a : Int) u, a = ((S % 60 : Nat) : Int) → Calls Tryz.prog 58 #[.int .i64 a] u fun e w' => e = .returned (.string (bs A5)) ∧ Below u.heap.size u w') := Lib.hid fun a u h => by rw [hA5, h]; exact two_any _ u (by omega)
            have T5 : True := trivial
            have hR := HRX.out
            have HA := Lib.hid (And.intro hA1 (And.intro hA2 (And.intro hA3 (And.intro hA4 hA5))))
            clear hlt hlp hd2 HLE HDA HDK hbn HRX hz100 hz101 hA1 hA2 hA3 hA4 hA5
            go_upto_region 17 with (first
              | (have := T1; go_at_call 58; refine (HT1.out _ _ (by omega)).mono ?_; rintro e wn ⟨rfl, hbn⟩; have hR := hR.call hbn; clear hbn T1)
              | (have := T2; go_at_call 58; refine (HT2.out _ _ (by omega)).mono ?_; rintro e wn ⟨rfl, hbn⟩; have hR := hR.call hbn; clear hbn T2)
              | (have := T3; go_at_call 58; refine (HT3.out _ _ (by omega)).mono ?_; rintro e wn ⟨rfl, hbn⟩; have hR := hR.call hbn; clear hbn T3)
              | (have := T4; go_at_call 58; refine (HT4.out _ _ (by omega)).mono ?_; rintro e wn ⟨rfl, hbn⟩; have hR := hR.call hbn; clear hbn T4)
              | (have := T5; go_at_call 58; refine (HT5.out _ _ (by omega)).mono ?_; rintro e wn ⟨rfl, hbn⟩; have hR := hR.call hbn; clear hbn T5))
            obtain ⟨E, hE⟩ : ∃ E, E = A1 ++ (A2 ++ (A3 ++ (A4 ++ (A5 ++ [90])))) := ⟨_, rfl⟩
            have hs : bs A1 ++ bs A2 ++ bs A3 ++ bs A4 ++ bs A5 ++ ⟨#[90]⟩ = bs E := by
              rw [hE]
              show bs A1 ++ bs A2 ++ bs A3 ++ bs A4 ++ bs A5 ++ bs [90] = _
              simp only [bs_app2, List.append_assoc]
            rw [hs]
            have HE : Hid (E = twoT j ++ (twoT d ++ (twoT (S / 3600) ++ (twoT (S / 60 % 60) ++ (twoT (S % 60) ++ [90]))))) := Lib.hid (by rw [hE, HA.out.1, HA.out.2.1, HA.out.2.2.1, HA.out.2.2.2.1, HA.out.2.2.2.2])
            have hEl : E.length = 11 := by rw [HE.out]; rfl
            have zE := bs_size E
            rw [hEl] at zE
            clear hE hs z1 z2 z3 z4 z5 HT1 HT2 HT3 HT4 HT5 HA hEl
            obtain ⟨Y1, hY1⟩ : ∃ A, A = twoT (k / 100) := ⟨_, rfl⟩
            obtain ⟨Y2, hY2⟩ : ∃ A, A = twoT (k % 100) := ⟨_, rfl⟩
            have z1 : (bs Y1).size = 2 := by rw [hY1, bs_size]; rfl
            have z2 : (bs Y2).size = 2 := by rw [hY2, bs_size]; rfl
            have HC1 : Hid (∀ (a : Int) u, a = ((k / 100 : Nat) : Int) → Calls Tryz.prog 58 #[.int .i64 a] u fun e w' => e = .returned (.string (bs Y1)) ∧ Below u.heap.size u w') := Lib.hid fun a u h => by rw [hY1, h]; exact two_any _ u (by omega)
            have HC2 : Hid (∀ (a : Int) u, a = ((k % 100 : Nat) : Int) → Calls Tryz.prog 58 #[.int .i64 a] u fun e w' => e = .returned (.string (bs Y2)) ∧ Below u.heap.size u w') := Lib.hid fun a u h => by rw [hY2, h]; exact two_any _ u (by omega)
            have HS2 : Hid (bs Y2 ++ bs E = bs ((signsT k j d S).drop 2)) := Lib.hid (by rw [hY2, HE.out, bs_app2]; rfl)
            have HS1 : Hid (bs Y1 ++ bs Y2 ++ bs E = bs (signsT k j d S)) := Lib.hid (by rw [hY1, hY2, HE.out, bs_app2, bs_app2, List.append_assoc]; rfl)
            have HU := Lib.hid hUl
            have T1 : True := trivial
            clear hY1 hY2 hUl eS hSl
            by_cases hy1 : 1950 ≤ k
            · have hz1 : (1950 : Int) ≤ (k : Int) := by omega
              by_cases hy2 : k ≤ 2049
              · have hz2 : (k : Int) ≤ 2049 := by omega
                go_wp2_with (first
                  | (go_at_call 58; refine (HC2.out _ _ (by omega)).mono ?_; rintro e wn ⟨rfl, hbn⟩; have hR := hR.call hbn; clear hbn)
                  | (refine wpList_store_rws rfl _ _ _ (by rfl) (by exact hR) g2 rfl (pv 23 (bs Y2 ++ bs E)) (by rfl) _ _ _ (by repeat (first | exact Pick.here | apply Pick.there)) (by kernel_rfl) (by rfl) (pv_one _ _) ?_; intro w8 hR))
                have HR := Lib.hid hR
                refine bodyPost_rws2 rfl HR.out g2 rfl _ _ (List.Mem.head _) _ Tryz.underlying24 rfl (by kernel_rfl) _ rfl rfl (fun hbz => ?_)
                rw [HO.out]
                unfold timeV
                rw [if_pos ⟨hy1, hy2⟩]
                exact ⟨rfl, by rw [HS2.out]; rfl, hbz⟩
              · have hz2 : ¬ (k : Int) ≤ 2049 := by omega
                go_wp2_with (first
                  | (have := T1; go_at_call 58; refine (HC1.out _ _ (by omega)).mono ?_; rintro e wn ⟨rfl, hbn⟩; have hR := hR.call hbn; clear hbn T1)
                  | (go_at_call 58; refine (HC2.out _ _ (by omega)).mono ?_; rintro e wn ⟨rfl, hbn⟩; have hR := hR.call hbn; clear hbn)
                  | (refine wpList_store_rws rfl _ _ _ (by rfl) (by exact hR) g2 rfl (pv 24 (bs Y1 ++ bs Y2 ++ bs E)) (by rfl) _ _ _ (by repeat (first | exact Pick.here | apply Pick.there)) (by kernel_rfl) (by rfl) (pv_one _ _) ?_; intro w8 hR))
                have HR := Lib.hid hR
                refine bodyPost_rws2 rfl HR.out g2 rfl _ _ (List.Mem.head _) _ Tryz.underlying24 rfl (by kernel_rfl) _ rfl rfl (fun hbz => ?_)
                rw [HO.out]
                unfold timeV
                rw [if_neg (by omega)]
                exact ⟨rfl, by rw [HS1.out]; rfl, hbz⟩
            · have hz1 : ¬ (1950 : Int) ≤ (k : Int) := by omega
              go_wp2_with (first
                | (have := T1; go_at_call 58; refine (HC1.out _ _ (by omega)).mono ?_; rintro e wn ⟨rfl, hbn⟩; have hR := hR.call hbn; clear hbn T1)
                | (go_at_call 58; refine (HC2.out _ _ (by omega)).mono ?_; rintro e wn ⟨rfl, hbn⟩; have hR := hR.call hbn; clear hbn)
                | (refine wpList_store_rws rfl _ _ _ (by rfl) (by exact hR) g2 rfl (pv 24 (bs Y1 ++ bs Y2 ++ bs E)) (by rfl) _ _ _ (by repeat (first | exact Pick.here | apply Pick.there)) (by kernel_rfl) (by rfl) (pv_one _ _) ?_; intro w8 hR))
              have HR := Lib.hid hR
              refine bodyPost_rws2 rfl HR.out g2 rfl _ _ (List.Mem.head _) _ Tryz.underlying24 rfl (by kernel_rfl) _ rfl rfl (fun hbz => ?_)
              rw [HO.out]
              unfold timeV
              rw [if_neg (by omega)]
              exact ⟨rfl, by rw [HS1.out]; rfl, hbz⟩
      · rw [hlp0] at HLK
        have hcz : (365 : Int) ≤ (R : Int) := by omega
        have hcz2 : ¬ (366 : Int) ≤ (R : Int) := by omega
        clear hcs hlp0
        go_upto_region 12 with (go_at_call 56; refine (HLK.out).mono ?_; rintro e wn ⟨rfl, rfl⟩)
        clear HLK
        go_loopg [5, 7] (m - 1) (fun gg s5 s7 wx => ∃ j : Nat, 1 ≤ j ∧ j + gg = m ∧ s7 = .int .i64 j ∧ s5 = .int .i64 ((R - monthsS k j : Nat) : Int) ∧ Aside (Rws w.heap.size w wx [(g2, dvC .zero none 0, 24)]))
        case atStart => exact ⟨1, Nat.le_refl _, by omega, rfl, by simp [monthsS], HR1.out⟩
        case round =>
          obtain ⟨j, hj1, hjm, rfl, rfl, HRX⟩ := hrel
          have hDK := HDA.out j
          have hst := months_step k j hj1
          have hlp := lenM_pos k j
          have hmono := months_mono k hj1 (by omega : j ≤ m)
          cases gk with
          | succ gk =>
            have hmono2 := months_mono k (a := j + 1) (b := m) (by omega) (by omega)
            have hle : lenM k j ≤ R - monthsS k j := by have := HRD.out; omega
            obtain ⟨Q, hQ⟩ : ∃ Q, Q = R - monthsS k j := ⟨_, rfl⟩
            have HX : Hid (Q - lenM k j = R - monthsS k (j + 1)) := Lib.hid (by omega)
            have hQu : Q ≤ 366 := by omega
            rw [← hQ] at hle ⊢
            clear hst hmono hmono2 hQ
            generalize lenM k j = LJ at *
            have HDK := Lib.hid hDK
            clear hDK
            go_wp2_with (go_at_call 57; refine (HDK.out _ hj1 (by omega)).mono ?_; rintro e wn ⟨rfl, hbn⟩; have HRX := Lib.hid ((HRX.out).call hbn))
            go_roundg gk
            case measure => omega
            case rel => exact ⟨j + 1, by omega, by omega, by go_num, by rw [← HX.out]; go_num, HRX.out⟩
          | zero =>
            obtain rfl : j = m := by omega
            have hQ : R - monthsS k j = d - 1 := by have := HRD.out; omega
            rw [hQ]
            have hlt : d - 1 < lenM k j := by omega
            have hd31 : d ≤ 31 := by omega
            clear hst hmono hQ
            generalize lenM k j = LJ at *
            have HDK := Lib.hid hDK
            clear hDK
            have eS : (U : Int) % 86400 = (S : Int) := by rw [HS.out]; omega
            have hSl : S < 86400 := by rw [HS.out]; exact Nat.mod_lt _ (by decide)
            go_upto_region 16 with (go_at_call 57; refine (HDK.out _ hj1 (by omega)).mono ?_; rintro e wn ⟨rfl, hbn⟩; have HRX := Lib.hid ((HRX.out).call hbn))
            have hz100 : (k : Int) / 100 = ((k / 100 : Nat) : Int) := by omega
            have hz101 : (k : Int) % 100 = ((k % 100 : Nat) : Int) := by omega
            obtain ⟨A1, hA1⟩ : ∃ A, A = twoT (j) := ⟨_, rfl⟩
            have z1 : (bs A1).size = 2 := by rw [hA1, bs_size]; rfl
            have HT1 : Hid (∀ (a : Int) u, a = ((j : Nat) : Int) → Calls Tryz.prog 58 #[.int .i64 a] u fun e w' => e = .returned (.string (bs A1)) ∧ Below u.heap.size u w') := Lib.hid fun a u h => by rw [hA1, h]; exact two_any _ u (by omega)
            have T1 : True := trivial
            obtain ⟨A2, hA2⟩ : ∃ A, A = twoT (d) := ⟨_, rfl⟩
            have z2 : (bs A2).size = 2 := by rw [hA2, bs_size]; rfl
            have HT2 : Hid (∀ (a : Int) u, a = ((d : Nat) : Int) → Calls Tryz.prog 58 #[.int .i64 a] u fun e w' => e = .returned (.string (bs A2)) ∧ Below u.heap.size u w') := Lib.hid fun a u h => by rw [hA2, h]; exact two_any _ u (by omega)
            have T2 : True := trivial
            obtain ⟨A3, hA3⟩ : ∃ A, A = twoT (S / 3600) := ⟨_, rfl⟩
            have z3 : (bs A3).size = 2 := by rw [hA3, bs_size]; rfl
            have HT3 : Hid (∀ (a : Int) u, a = ((S / 3600 : Nat) : Int) → Calls Tryz.prog 58 #[.int .i64 a] u fun e w' => e = .returned (.string (bs A3)) ∧ Below u.heap.size u w') := Lib.hid fun a u h => by rw [hA3, h]; exact two_any _ u (by omega)
            have T3 : True := trivial
            obtain ⟨A4, hA4⟩ : ∃ A, A = twoT (S / 60 % 60) := ⟨_, rfl⟩
            have z4 : (bs A4).size = 2 := by rw [hA4, bs_size]; rfl
            have HT4 : Hid (∀ (a : Int) u, a = ((S / 60 % 60 : Nat) : Int) → Calls Tryz.prog 58 #[.int .i64 a] u fun e w' => e = .returned (.string (bs A4)) ∧ Below u.heap.size u w') := Lib.hid fun a u h => by rw [hA4, h]; exact two_any _ u (by omega)
            have T4 : True := trivial
            obtain ⟨A5, hA5⟩ : ∃ A, A = twoT (S % 60) := ⟨_, rfl⟩
            have z5 : (bs A5).size = 2 := by rw [hA5, bs_size]; rfl
            have HT5 : Hid (∀ (a : Int) u, a = ((S % 60 : Nat) : Int) → Calls Tryz.prog 58 #[.int .i64 a] u fun e w' => e = .returned (.string (bs A5)) ∧ Below u.heap.size u w') := Lib.hid fun a u h => by rw [hA5, h]; exact two_any _ u (by omega)
            have T5 : True := trivial
            have hR := HRX.out
            have HA := Lib.hid (And.intro hA1 (And.intro hA2 (And.intro hA3 (And.intro hA4 hA5))))
            clear hlt hlp hd2 HLE HDA HDK hbn HRX hz100 hz101 hA1 hA2 hA3 hA4 hA5
            go_upto_region 17 with (first
              | (have := T1; go_at_call 58; refine (HT1.out _ _ (by omega)).mono ?_; rintro e wn ⟨rfl, hbn⟩; have hR := hR.call hbn; clear hbn T1)
              | (have := T2; go_at_call 58; refine (HT2.out _ _ (by omega)).mono ?_; rintro e wn ⟨rfl, hbn⟩; have hR := hR.call hbn; clear hbn T2)
              | (have := T3; go_at_call 58; refine (HT3.out _ _ (by omega)).mono ?_; rintro e wn ⟨rfl, hbn⟩; have hR := hR.call hbn; clear hbn T3)
              | (have := T4; go_at_call 58; refine (HT4.out _ _ (by omega)).mono ?_; rintro e wn ⟨rfl, hbn⟩; have hR := hR.call hbn; clear hbn T4)
              | (have := T5; go_at_call 58; refine (HT5.out _ _ (by omega)).mono ?_; rintro e wn ⟨rfl, hbn⟩; have hR := hR.call hbn; clear hbn T5))
            obtain ⟨E, hE⟩ : ∃ E, E = A1 ++ (A2 ++ (A3 ++ (A4 ++ (A5 ++ [90])))) := ⟨_, rfl⟩
            have hs : bs A1 ++ bs A2 ++ bs A3 ++ bs A4 ++ bs A5 ++ ⟨#[90]⟩ = bs E := by
              rw [hE]
              show bs A1 ++ bs A2 ++ bs A3 ++ bs A4 ++ bs A5 ++ bs [90] = _
              simp only [bs_app2, List.append_assoc]
            rw [hs]
            have HE : Hid (E = twoT j ++ (twoT d ++ (twoT (S / 3600) ++ (twoT (S / 60 % 60) ++ (twoT (S % 60) ++ [90]))))) := Lib.hid (by rw [hE, HA.out.1, HA.out.2.1, HA.out.2.2.1, HA.out.2.2.2.1, HA.out.2.2.2.2])
            have hEl : E.length = 11 := by rw [HE.out]; rfl
            have zE := bs_size E
            rw [hEl] at zE
            clear hE hs z1 z2 z3 z4 z5 HT1 HT2 HT3 HT4 HT5 HA hEl
            obtain ⟨Y1, hY1⟩ : ∃ A, A = twoT (k / 100) := ⟨_, rfl⟩
            obtain ⟨Y2, hY2⟩ : ∃ A, A = twoT (k % 100) := ⟨_, rfl⟩
            have z1 : (bs Y1).size = 2 := by rw [hY1, bs_size]; rfl
            have z2 : (bs Y2).size = 2 := by rw [hY2, bs_size]; rfl
            have HC1 : Hid (∀ (a : Int) u, a = ((k / 100 : Nat) : Int) → Calls Tryz.prog 58 #[.int .i64 a] u fun e w' => e = .returned (.string (bs Y1)) ∧ Below u.heap.size u w') := Lib.hid fun a u h => by rw [hY1, h]; exact two_any _ u (by omega)
            have HC2 : Hid (∀ (a : Int) u, a = ((k % 100 : Nat) : Int) → Calls Tryz.prog 58 #[.int .i64 a] u fun e w' => e = .returned (.string (bs Y2)) ∧ Below u.heap.size u w') := Lib.hid fun a u h => by rw [hY2, h]; exact two_any _ u (by omega)
            have HS2 : Hid (bs Y2 ++ bs E = bs ((signsT k j d S).drop 2)) := Lib.hid (by rw [hY2, HE.out, bs_app2]; rfl)
            have HS1 : Hid (bs Y1 ++ bs Y2 ++ bs E = bs (signsT k j d S)) := Lib.hid (by rw [hY1, hY2, HE.out, bs_app2, bs_app2, List.append_assoc]; rfl)
            have HU := Lib.hid hUl
            have T1 : True := trivial
            clear hY1 hY2 hUl eS hSl
            by_cases hy1 : 1950 ≤ k
            · have hz1 : (1950 : Int) ≤ (k : Int) := by omega
              by_cases hy2 : k ≤ 2049
              · have hz2 : (k : Int) ≤ 2049 := by omega
                go_wp2_with (first
                  | (go_at_call 58; refine (HC2.out _ _ (by omega)).mono ?_; rintro e wn ⟨rfl, hbn⟩; have hR := hR.call hbn; clear hbn)
                  | (refine wpList_store_rws rfl _ _ _ (by rfl) (by exact hR) g2 rfl (pv 23 (bs Y2 ++ bs E)) (by rfl) _ _ _ (by repeat (first | exact Pick.here | apply Pick.there)) (by kernel_rfl) (by rfl) (pv_one _ _) ?_; intro w8 hR))
                have HR := Lib.hid hR
                refine bodyPost_rws2 rfl HR.out g2 rfl _ _ (List.Mem.head _) _ Tryz.underlying24 rfl (by kernel_rfl) _ rfl rfl (fun hbz => ?_)
                rw [HO.out]
                unfold timeV
                rw [if_pos ⟨hy1, hy2⟩]
                exact ⟨rfl, by rw [HS2.out]; rfl, hbz⟩
              · have hz2 : ¬ (k : Int) ≤ 2049 := by omega
                go_wp2_with (first
                  | (have := T1; go_at_call 58; refine (HC1.out _ _ (by omega)).mono ?_; rintro e wn ⟨rfl, hbn⟩; have hR := hR.call hbn; clear hbn T1)
                  | (go_at_call 58; refine (HC2.out _ _ (by omega)).mono ?_; rintro e wn ⟨rfl, hbn⟩; have hR := hR.call hbn; clear hbn)
                  | (refine wpList_store_rws rfl _ _ _ (by rfl) (by exact hR) g2 rfl (pv 24 (bs Y1 ++ bs Y2 ++ bs E)) (by rfl) _ _ _ (by repeat (first | exact Pick.here | apply Pick.there)) (by kernel_rfl) (by rfl) (pv_one _ _) ?_; intro w8 hR))
                have HR := Lib.hid hR
                refine bodyPost_rws2 rfl HR.out g2 rfl _ _ (List.Mem.head _) _ Tryz.underlying24 rfl (by kernel_rfl) _ rfl rfl (fun hbz => ?_)
                rw [HO.out]
                unfold timeV
                rw [if_neg (by omega)]
                exact ⟨rfl, by rw [HS1.out]; rfl, hbz⟩
            · have hz1 : ¬ (1950 : Int) ≤ (k : Int) := by omega
              go_wp2_with (first
                | (have := T1; go_at_call 58; refine (HC1.out _ _ (by omega)).mono ?_; rintro e wn ⟨rfl, hbn⟩; have hR := hR.call hbn; clear hbn T1)
                | (go_at_call 58; refine (HC2.out _ _ (by omega)).mono ?_; rintro e wn ⟨rfl, hbn⟩; have hR := hR.call hbn; clear hbn)
                | (refine wpList_store_rws rfl _ _ _ (by rfl) (by exact hR) g2 rfl (pv 24 (bs Y1 ++ bs Y2 ++ bs E)) (by rfl) _ _ _ (by repeat (first | exact Pick.here | apply Pick.there)) (by kernel_rfl) (by rfl) (pv_one _ _) ?_; intro w8 hR))
              have HR := Lib.hid hR
              refine bodyPost_rws2 rfl HR.out g2 rfl _ _ (List.Mem.head _) _ Tryz.underlying24 rfl (by kernel_rfl) _ rfl rfl (fun hbz => ?_)
              rw [HO.out]
              unfold timeV
              rw [if_neg (by omega)]
              exact ⟨rfl, by rw [HS1.out]; rfl, hbz⟩
end Go.Proofs.YtebhiplcoioenaaGreatDoor
