/- Digits, months, years: the walks. -/
import Derived.Test.YtebhiplcoioenaaGreatDoorZZKind
import Derived.Test.YtebhiplcoioenaaGreatDoorZDI
namespace Go.Proofs.YtebhiplcoioenaaGreatDoor
open Go.RowKit

set_option maxRecDepth 100000 in
set_option maxHeartbeats 4000000 in
theorem leap_any (y : Nat) (w : World) (hy : y ≤ 100000) : Calls Tryz.prog 56 #[.int .i64 (y : Nat)] w fun e w' => e = .returned (.bool (leapB y)) ∧ w' = w := by
  go_enter Tryz.func56, Tryz.ntmps56
  go_wp2
  all_goals
    go_ret
    refine ⟨congrArg (fun b => Ending.returned (Value.bool b)) ?_, rfl⟩
    rw [Bool.eq_iff_iff, leap_iff]
    simp
    omega
theorem lenM_cases (m : Nat) : m = 4 ∨ m = 6 ∨ m = 9 ∨ m = 11 ∨ m = 2 ∨ (m ≠ 4 ∧ m ≠ 6 ∧ m ≠ 9 ∧ m ≠ 11 ∧ m ≠ 2) := by omega
theorem lenM_30 {y m : Nat} (h : m = 4 ∨ m = 6 ∨ m = 9 ∨ m = 11) : lenM y m = 30 := by unfold lenM; rw [if_pos h]
theorem lenM_2 (y : Nat) : lenM y 2 = if leapB y then 29 else 28 := by unfold lenM; rw [if_neg (by decide), if_pos rfl]
theorem lenM_31 {y m : Nat} (h : m ≠ 4 ∧ m ≠ 6 ∧ m ≠ 9 ∧ m ≠ 11 ∧ m ≠ 2) : lenM y m = 31 := by unfold lenM; rw [if_neg (by omega), if_neg (by omega)]
set_option maxRecDepth 100000 in
set_option maxHeartbeats 4000000 in
theorem length_any (y m : Nat) (w : World) (hy : y ≤ 100000) : Calls Tryz.prog 80 #[.int .i64 (y : Nat), .int .i64 (m : Nat)] w fun e w' => e = .returned (.int .i64 (lenM y m : Nat)) ∧ w' = w := by
  rcases lenM_cases m with h | h | h | h | h | h
  · rw [lenM_30 (Or.inl h), h]
    go_enter Tryz.func80, Tryz.ntmps80
    go_wp2
    go_ret
    exact ⟨rfl, rfl⟩
  · rw [lenM_30 (Or.inr (Or.inl h)), h]
    go_enter Tryz.func80, Tryz.ntmps80
    go_wp2
    go_ret
    exact ⟨rfl, rfl⟩
  · rw [lenM_30 (Or.inr (Or.inr (Or.inl h))), h]
    go_enter Tryz.func80, Tryz.ntmps80
    go_wp2
    go_ret
    exact ⟨rfl, rfl⟩
  · rw [lenM_30 (Or.inr (Or.inr (Or.inr h))), h]
    go_enter Tryz.func80, Tryz.ntmps80
    go_wp2
    go_ret
    exact ⟨rfl, rfl⟩
  · rw [h, lenM_2]
    have HL : Hid (leapB y = true ↔ (y % 4 = 0 ∧ y % 100 ≠ 0) ∨ y % 400 = 0) := Lib.hid (leap_iff y)
    generalize leapB y = L at *
    clear h
    go_enter Tryz.func80, Tryz.ntmps80
    go_wp2
    all_goals
      go_ret
      refine ⟨?_, rfl⟩
      have HL := HL.out
      cases L with
      | true => first | rfl | (exfalso; simp at HL; simp_all <;> omega)
      | false => first | rfl | (exfalso; simp at HL; simp_all <;> omega)
  · rw [lenM_31 h]
    obtain ⟨h1, h2, h3, h4, h5⟩ := h
    have q1 : ((m : Int) == 4) = false := by simp; omega
    have q2 : ((m : Int) == 6) = false := by simp; omega
    have q3 : ((m : Int) == 9) = false := by simp; omega
    have q4 : ((m : Int) == 11) = false := by simp; omega
    have q5 : ((m : Int) == 2) = false := by simp; omega
    clear h1 h2 h3 h4 h5
    go_enter Tryz.func80, Tryz.ntmps80
    go_wp2
    go_ret
    exact ⟨rfl, rfl⟩
/-! Digits. -/
theorem dig_bound : ∀ {i n : Nat}, i ≤ 18 → n < 10 ^ i → (n : Int) ≤ 1000000000000000000 := by
  intro i n hi h
  have := Nat.pow_le_pow_right (n := 10) (by decide) hi
  omega
set_option maxRecDepth 100000 in
set_option maxHeartbeats 4000000 in
theorem digits_any (s : Bs) (w : World) (hs : s.length ≤ 18) : Calls Tryz.prog 46 #[.string (bs s)] w fun e w' => e = .returned (.int .i64 (digS s)) ∧ w' = w := by
  have zs := bs_size s
  obtain ⟨D, hD⟩ : ∃ D, D = digS s := ⟨_, rfl⟩
  have HD : Hid (D = digF s 0) := Lib.hid (by rw [hD]; rfl)
  rw [← hD]
  clear hD
  go_enter Tryz.func46, Tryz.ntmps46
  go_wp2
  go_loopg [3, 4, 7] s.length (fun gg s3 _ s7 wr => ∃ i n : Nat, i ≤ s.length ∧ gg = s.length - i ∧ s3 = .int .i64 n ∧ s7 = .int .i64 i ∧ Aside (D = digF (s.drop i) n ∧ n < 10 ^ i) ∧ wr = w)
  case atStart => exact ⟨0, 0, by omega, rfl, rfl, rfl, ⟨by rw [HD.out]; rfl, by decide⟩, rfl⟩
  case round =>
    obtain ⟨i, n, hi, rfl, rfl, rfl, HA, rfl⟩ := hrel
    by_cases hlt : i < s.length
    · have hltz : (i : Int) < (s.length : Int) := by omega
      obtain ⟨x, hx⟩ : ∃ x, s[i]? = some x := ⟨s[i], List.getElem?_eq_getElem hlt⟩
      have hg := bs_get s i x hx
      have hdr : s.drop i = x :: s.drop (i + 1) := by
        obtain ⟨hi2, e⟩ := List.getElem?_eq_some_iff.1 hx
        rw [← e]; exact List.drop_eq_getElem_cons hi2
      have hxl := x.toNat_lt
      have hnb := Nat.pow_le_pow_right (n := 10) (by decide) (show i ≤ 17 by omega)
      have hn17 : (n : Int) ≤ 100000000000000000 := by have := HA.out.2; omega
      by_cases hlo : x.toNat < 48
      · have q1 : (x.toNat : Int) < 48 := by omega
        have HR : Hid (D = -1) := Lib.hid (by rw [HA.out.1, hdr, digF, if_pos (Or.inl hlo)])
        clear hx hdr hnb hlo
        go_wp2
        go_ret
        rw [HR.out]; exact ⟨rfl, rfl⟩
      · have q1 : ¬ (x.toNat : Int) < 48 := by omega
        by_cases hhi : 57 < x.toNat
        · have q2 : (57 : Int) < (x.toNat : Int) := by omega
          have HR : Hid (D = -1) := Lib.hid (by rw [HA.out.1, hdr, digF, if_pos (Or.inr hhi)])
          clear hx hdr hnb hlo hhi
          go_wp2
          go_ret
          rw [HR.out]; exact ⟨rfl, rfl⟩
        · have q2 : ¬ (57 : Int) < (x.toNat : Int) := by omega
          obtain ⟨n2, hn2⟩ : ∃ n2 : Nat, n2 = 10 * n + (x.toNat - 48) := ⟨_, rfl⟩
          have HR : Hid (D = digF (s.drop (i + 1)) n2 ∧ n2 < 10 ^ (i + 1)) := Lib.hid ⟨by
            rw [HA.out.1, hdr, digF, if_neg (by omega), hn2]
            congr 1
            , by have := HA.out.2; rw [Nat.pow_succ]; omega⟩
          have HN : Hid ((10 : Int) * n + ((x.toNat : Int) - 48) = n2) := Lib.hid (by omega)
          clear hx hdr hnb hlo hhi hn2
          go_wp2
          go_roundg (s.length - (i + 1))
          case measure => omega
          case rel => exact ⟨i + 1, n2, by omega, rfl, by rw [← HN.out], by go_num, HR.out, rfl⟩
    · have hltz : ¬ (i : Int) < (s.length : Int) := by omega
      have HR : Hid (D = n) := Lib.hid (by rw [HA.out.1, List.drop_of_length_le (by omega)]; rfl)
      go_wp2
      go_ret
      rw [HR.out]; exact ⟨rfl, rfl⟩
set_option maxRecDepth 100000 in
set_option maxHeartbeats 4000000 in
theorem number_low (s : Bs) (w : World) (hs : s.length ≤ 18) : Calls Tryz.prog 48 #[.string (bs s)] w fun e w' => e = .returned (.int .i64 (digS s)) ∧ w' = w := by
  have zs := bs_size s
  obtain ⟨D, hD⟩ : ∃ D, D = digS s := ⟨_, rfl⟩
  have HD : Hid (D = digF s 0) := Lib.hid (by rw [hD]; rfl)
  rw [← hD]
  clear hD
  go_enter Tryz.func48, Tryz.ntmps48
  go_wp2
  go_loopg [3, 4] s.length (fun gg s3 s7 wr => ∃ i n : Nat, i ≤ s.length ∧ gg = s.length - i ∧ s3 = .int .i64 n ∧ s7 = .int .i64 i ∧ Aside (D = digF (s.drop i) n ∧ n < 10 ^ i) ∧ wr = w)
  case atStart => exact ⟨0, 0, by omega, rfl, rfl, rfl, ⟨by rw [HD.out]; rfl, by decide⟩, rfl⟩
  case round =>
    obtain ⟨i, n, hi, rfl, rfl, rfl, HA, rfl⟩ := hrel
    by_cases hlt : i < s.length
    · have hltz : (i : Int) < (s.length : Int) := by omega
      obtain ⟨x, hx⟩ : ∃ x, s[i]? = some x := ⟨s[i], List.getElem?_eq_getElem hlt⟩
      have hg := bs_get s i x hx
      have hdr : s.drop i = x :: s.drop (i + 1) := by
        obtain ⟨hi2, e⟩ := List.getElem?_eq_some_iff.1 hx
        rw [← e]; exact List.drop_eq_getElem_cons hi2
      have hxl := x.toNat_lt
      have hnb := Nat.pow_le_pow_right (n := 10) (by decide) (show i ≤ 17 by omega)
      have hn17 : (n : Int) ≤ 100000000000000000 := by have := HA.out.2; omega
      by_cases hlo : x.toNat < 48
      · have q1 : (x.toNat : Int) < 48 := by omega
        have HR : Hid (D = -1) := Lib.hid (by rw [HA.out.1, hdr, digF, if_pos (Or.inl hlo)])
        clear hx hdr hnb hlo
        go_wp2
        go_ret
        rw [HR.out]; exact ⟨rfl, rfl⟩
      · have q1 : ¬ (x.toNat : Int) < 48 := by omega
        by_cases hhi : 57 < x.toNat
        · have q2 : (57 : Int) < (x.toNat : Int) := by omega
          have HR : Hid (D = -1) := Lib.hid (by rw [HA.out.1, hdr, digF, if_pos (Or.inr hhi)])
          clear hx hdr hnb hlo hhi
          go_wp2
          go_ret
          rw [HR.out]; exact ⟨rfl, rfl⟩
        · have q2 : ¬ (57 : Int) < (x.toNat : Int) := by omega
          obtain ⟨n2, hn2⟩ : ∃ n2 : Nat, n2 = 10 * n + (x.toNat - 48) := ⟨_, rfl⟩
          have HR : Hid (D = digF (s.drop (i + 1)) n2 ∧ n2 < 10 ^ (i + 1)) := Lib.hid ⟨by
            rw [HA.out.1, hdr, digF, if_neg (by omega), hn2]
            congr 1
            , by have := HA.out.2; rw [Nat.pow_succ]; omega⟩
          have HN : Hid ((10 : Int) * n + ((x.toNat : Int) - 48) = n2) := Lib.hid (by omega)
          clear hx hdr hnb hlo hhi hn2
          go_wp2
          go_roundg (s.length - (i + 1))
          case measure => omega
          case rel => exact ⟨i + 1, n2, by omega, rfl, by rw [← HN.out], by go_num, HR.out, rfl⟩
    · have hltz : ¬ (i : Int) < (s.length : Int) := by omega
      have HR : Hid (D = n) := Lib.hid (by rw [HA.out.1, List.drop_of_length_le (by omega)]; rfl)
      go_wp2
      go_ret
      rw [HR.out]; exact ⟨rfl, rfl⟩
set_option maxRecDepth 100000 in
set_option maxHeartbeats 4000000 in
/-- Of more signs whatever comes out. -/
theorem number_more (s : Bs) (w : World) (hs : s.length ≤ SB) : Calls Tryz.prog 48 #[.string (bs s)] w fun e w' => (∃ z, e = .returned (.int .i64 z)) ∧ w' = w := by
  have hSB := SB_eq
  have zs := bs_size s
  go_enter Tryz.func48, Tryz.ntmps48
  go_wp2
  go_loopg [3, 4] s.length (fun gg s3 s7 wr => ∃ (i : Nat) (n : Int), i ≤ s.length ∧ gg = s.length - i ∧ s3 = .int .i64 n ∧ s7 = .int .i64 i ∧ wr = w)
  case atStart => exact ⟨0, 0, by omega, rfl, rfl, rfl, rfl⟩
  case round =>
    obtain ⟨i, n, hi, rfl, rfl, rfl, rfl⟩ := hrel
    by_cases hlt : i < s.length
    · have hltz : (i : Int) < (s.length : Int) := by omega
      obtain ⟨x, hx⟩ : ∃ x, s[i]? = some x := ⟨s[i], List.getElem?_eq_getElem hlt⟩
      have hg := bs_get s i x hx
      have hxl := x.toNat_lt
      by_cases hlo : x.toNat < 48
      · have q1 : (x.toNat : Int) < 48 := by omega
        clear hx hlo
        go_wp2
        go_ret
        exact ⟨⟨_, rfl⟩, rfl⟩
      · have q1 : ¬ (x.toNat : Int) < 48 := by omega
        by_cases hhi : 57 < x.toNat
        · have q2 : (57 : Int) < (x.toNat : Int) := by omega
          clear hx hlo hhi
          go_wp2
          go_ret
          exact ⟨⟨_, rfl⟩, rfl⟩
        · have q2 : ¬ (57 : Int) < (x.toNat : Int) := by omega
          clear hx hlo hhi
          go_wp2
          go_roundg (s.length - (i + 1))
          case measure => omega
          case rel => exact ⟨i + 1, _, by omega, rfl, rfl, by go_num, rfl⟩
    · have hltz : ¬ (i : Int) < (s.length : Int) := by omega
      go_wp2
      go_ret
      exact ⟨⟨_, rfl⟩, rfl⟩
theorem number_any (s : Bs) (w : World) (hs : s.length ≤ SB) : Calls Tryz.prog 48 #[.string (bs s)] w fun e w' => (∃ z, e = .returned (.int .i64 z) ∧ (s.length ≤ 18 → z = digS s)) ∧ w' = w := by
  by_cases h : s.length ≤ 18
  · exact (number_low s w h).mono fun e w' hh => ⟨⟨_, hh.1, fun _ => rfl⟩, hh.2⟩
  · exact (number_more s w hs).mono fun e w' ⟨⟨z, hz⟩, hw⟩ => ⟨⟨z, hz, fun h2 => absurd h2 h⟩, hw⟩
/-! Days. -/
theorem years_le {y : Nat} : yearsS y ≤ 366 * y := by
  induction y with
  | zero => exact Nat.le_refl _
  | succ y ih => have := (years_step y).2; omega
set_option maxRecDepth 100000 in
set_option maxHeartbeats 4000000 in
theorem before_any (y : Nat) (w : World) (hy : y ≤ 100000) : Calls Tryz.prog 81 #[.int .i64 (y : Nat)] w fun e w' => e = .returned (.int .i64 (yearsS y : Nat)) ∧ w' = w := by
  have HC : Hid ((365 : Int) * y + (y + 3) / 4 - (y + 99) / 100 + (y + 399) / 400 = (yearsS y : Nat)) := Lib.hid (by have := years_closed y; omega)
  go_enter Tryz.func81, Tryz.ntmps81
  go_wp2
  go_ret
  refine ⟨?_, rfl⟩
  rw [← HC.out]; rfl
theorem months_le (y m : Nat) (h : 1 ≤ m) : monthsS y m ≤ 31 * m := by
  induction m with
  | zero => omega
  | succ m ih =>
    rcases Nat.eq_zero_or_pos m with h0 | h0
    · subst h0; exact Nat.zero_le _
    · rw [months_step y m h0]; have := (lenM_pos y m).2; have := ih h0; omega
set_option maxRecDepth 100000 in
set_option maxHeartbeats 4000000 in
theorem day_any (y m : Nat) (w : World) (hy : y ≤ 20000) (h1 : 1 ≤ m) (h2 : m ≤ 13) : Calls Tryz.prog 53 #[.int .i64 (y : Nat), .int .i64 (m : Nat)] w fun e w' => e = .returned (.int .i64 (dayS y m : Nat)) ∧ w' = w := by
  have HB : Hid (∀ u, Calls Tryz.prog 81 #[.int .i64 (y : Nat)] u fun e w' => e = .returned (.int .i64 (yearsS y : Nat)) ∧ w' = u) := Lib.hid fun u => before_any y u (by omega)
  have HL : Hid (∀ (k : Nat) u, k ≤ 13 → Calls Tryz.prog 80 #[.int .i64 (y : Nat), .int .i64 (k : Nat)] u fun e w' => e = .returned (.int .i64 (lenM y k : Nat)) ∧ w' = u) := Lib.hid fun k u hk => length_any y k u (by omega)
  have hyl := years_le (y := y)
  obtain ⟨Y, hY⟩ : ∃ Y, Y = yearsS y := ⟨_, rfl⟩
  have HD : Hid (dayS y m = Y + monthsS y m) := Lib.hid (by rw [hY]; rfl)
  rw [← hY] at HB hyl
  have hYb : Y ≤ 10000000 := by omega
  clear hY hyl
  go_enter Tryz.func53, Tryz.ntmps53
  go_wp2_with (go_at_call 81; refine (HB.out _).mono ?_; rintro e w1 ⟨rfl, rfl⟩)
  go_loopg [6, 7] 12 (fun gg s6 s7 wr => ∃ i n : Nat, 1 ≤ i ∧ i ≤ m ∧ gg = 13 - i ∧ s6 = .int .i64 n ∧ s7 = .int .i64 i ∧ Aside (n = Y + monthsS y i) ∧ wr = w1)
  case atStart => exact ⟨1, Y, by omega, h1, rfl, rfl, rfl, rfl, rfl⟩
  case round =>
    obtain ⟨i, n, hi1, hi, rfl, rfl, rfl, HA, rfl⟩ := hrel
    have hml := months_le y i hi1
    have hnb : n ≤ 20000000 := by have := HA.out; omega
    by_cases hlt : i < m
    · have hltz : (i : Int) < (m : Int) := by omega
      obtain ⟨k, hk⟩ : ∃ k, k = lenM y i := ⟨_, rfl⟩
      have hkb : k ≤ 31 := by rw [hk]; exact (lenM_pos y i).2
      have HK : Hid (∀ u, Calls Tryz.prog 80 #[.int .i64 (y : Nat), .int .i64 (i : Nat)] u fun e w' => e = .returned (.int .i64 (k : Nat)) ∧ w' = u) := Lib.hid fun u => by rw [hk]; exact HL.out i u (by omega)
      have HR : Hid (n + k = Y + monthsS y (i + 1)) := Lib.hid (by rw [months_step y i hi1, HA.out, hk]; omega)
      clear hml hk
      go_wp2_with (go_at_call 80; refine (HK.out _).mono ?_; rintro e w2 ⟨rfl, rfl⟩)
      go_roundg (13 - (i + 1))
      case measure => omega
      case rel => exact ⟨i + 1, n + k, by omega, by omega, rfl, by go_num, by go_num, HR.out, rfl⟩
    · have hltz : ¬ (i : Int) < (m : Int) := by omega
      have HR : Hid (dayS y m = n) := Lib.hid (by rw [HD.out, HA.out]; have : i = m := by omega
                                                  rw [this])
      clear hml
      go_wp2
      go_ret
      rw [HR.out]; exact ⟨rfl, rfl⟩
set_option maxRecDepth 100000 in
set_option maxHeartbeats 4000000 in
theorem Years_any (y : Nat) (w : World) (hy : y ≤ 20000) : Calls Tryz.prog 55 #[.int .i64 (y : Nat)] w fun e w' => e = .returned (.int .i64 (yearsS y : Nat)) ∧ w' = w := by
  have HL : Hid (∀ (k : Nat) u, k ≤ 20000 → Calls Tryz.prog 56 #[.int .i64 (k : Nat)] u fun e w' => e = .returned (.bool (leapB k)) ∧ w' = u) := Lib.hid fun k u hk => leap_any k u (by omega)
  go_enter Tryz.func55, Tryz.ntmps55
  go_wp2
  go_loopg [3, 4] y (fun gg s3 s4 wr => ∃ i n : Nat, i ≤ y ∧ gg = y - i ∧ s3 = .int .i64 n ∧ s4 = .int .i64 i ∧ Aside (n = yearsS i) ∧ wr = w)
  case atStart => exact ⟨0, 0, Nat.zero_le _, rfl, rfl, rfl, rfl, rfl⟩
  case round =>
    obtain ⟨i, n, hi, rfl, rfl, rfl, HA, rfl⟩ := hrel
    have hnb : n ≤ 10000000 := by have := HA.out; have := years_le (y := i); omega
    by_cases hlt : i < y
    · have hltz : (i : Int) < (y : Int) := by omega
      cases hl : leapB i with
      | true =>
        have HK : Hid (∀ u, Calls Tryz.prog 56 #[.int .i64 (i : Nat)] u fun e w' => e = .returned (.bool true) ∧ w' = u) := Lib.hid fun u => by rw [← hl]; exact HL.out i u (by omega)
        have HR : Hid (n + 365 + 1 = yearsS (i + 1)) := Lib.hid (by rw [yearsS, if_pos hl, HA.out])
        clear hl
        go_wp2_with (go_at_call 56; refine (HK.out _).mono ?_; rintro e w2 ⟨rfl, rfl⟩)
        go_roundg (y - (i + 1))
        case measure => omega
        case rel => exact ⟨i + 1, n + 365 + 1, by omega, rfl, by go_num, by go_num, HR.out, rfl⟩
      | false =>
        have HK : Hid (∀ u, Calls Tryz.prog 56 #[.int .i64 (i : Nat)] u fun e w' => e = .returned (.bool false) ∧ w' = u) := Lib.hid fun u => by rw [← hl]; exact HL.out i u (by omega)
        have HR : Hid (n + 365 = yearsS (i + 1)) := Lib.hid (by rw [yearsS, hl, if_neg (by decide), HA.out])
        clear hl
        go_wp2_with (go_at_call 56; refine (HK.out _).mono ?_; rintro e w2 ⟨rfl, rfl⟩)
        go_roundg (y - (i + 1))
        case measure => omega
        case rel => exact ⟨i + 1, n + 365, by omega, rfl, by go_num, by go_num, HR.out, rfl⟩
    · have hltz : ¬ (i : Int) < (y : Int) := by omega
      have HR : Hid (yearsS y = n) := Lib.hid (by rw [HA.out]; have : i = y := by omega
                                                  rw [this])
      go_wp2
      go_ret
      rw [HR.out]; exact ⟨rfl, rfl⟩
end Go.Proofs.YtebhiplcoioenaaGreatDoor
