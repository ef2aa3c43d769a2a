/- der.moment: the walk. -/
import Derived.Test.YtebhiplcoioenaaGreatDoorZZNum
import Derived.Test.YtebhiplcoioenaaGreatDoorZDF
import Derived.Deep.QuietTactic
import Derived.BigQuiet
namespace Go.Proofs.YtebhiplcoioenaaGreatDoor
open Go.RowKit

theorem below_drewN (w : World) (n : Nat) : Below w.heap.size w (w.drewN n) := ⟨rfl, rfl, rfl, Nat.le_refl _, fun _ _ => rfl⟩
theorem digits_ba (t : ByteArray) (w : World) (h : t.size ≤ 18) : Calls Tryz.prog 46 #[.string t] w fun e w' => e = .returned (.int .i64 (digS t.data.toList)) ∧ w' = w := by
  have := digits_any t.data.toList w (by rw [← Lib.size_eq]; exact h)
  rw [bs_of] at this
  exact this
theorem digS_lt (s : Bs) (h : ∀ c ∈ s, 48 ≤ c.toNat ∧ c.toNat ≤ 57) {n : Nat} (hn : s.length ≤ n) : digS s < ((10 ^ n : Nat) : Int) := by
  have key : ∀ (s : Bs) (a k : Nat), (∀ c ∈ s, 48 ≤ c.toNat ∧ c.toNat ≤ 57) → a < 10 ^ k → digF s a < ((10 ^ (k + s.length) : Nat) : Int) := by
    intro s
    induction s with
    | nil => intro a k _ ha; show (a : Int) < _; exact_mod_cast ha
    | cons x r ih =>
      intro a k hd ha
      have hx := hd x (List.mem_cons_self ..)
      rw [digF, if_neg (by omega)]
      have := ih (10 * a + (x.toNat - 48)) (k + 1) (fun c hc => hd c (List.mem_cons_of_mem _ hc)) (by rw [Nat.pow_succ]; omega)
      rw [List.length_cons, show k + (r.length + 1) = k + 1 + r.length by omega]
      have e : ((10 * a + (x.toNat - 48) : Nat) : Int) = 10 * (a : Int) + ((x.toNat - 48 : Nat) : Int) := by omega
      rw [e] at this
      exact this
  have h1 := key s 0 0 h (by decide)
  rw [Nat.zero_add] at h1
  have h2 := Nat.pow_le_pow_right (n := 10) (by decide) hn
  have h3 : digS s = digF s ((0 : Nat) : Int) := rfl
  rw [h3]
  omega
def momV (o : Option Int) : Value := .tuple #[.int .i64 (o.getD 0), .bool o.isSome]
set_option maxRecDepth 100000 in
set_option maxHeartbeats 8000000 in
theorem moment_24 (s : Bs) (w : World) (_hsl : s.length ≤ SB) : Calls Tryz.prog 51 #[.int .i64 24, .string (bs s)] w fun e w' => e = .returned (momV (longS s)) ∧ Below w.heap.size w w' := by
  have hSB := SB_eq
  have zs := bs_size s
  by_cases hl : s.length = 15
  case neg =>
    have q1 : ((s.length : Int) != 15) = true := by simp; omega
    have HR : Hid (longS s = none) := Lib.hid (by unfold longS; rw [if_pos (Or.inl hl)])
    clear hl
    go_enter Tryz.func51, Tryz.ntmps51
    go_wp2
    go_ret2
    rw [HR.out]
    exact ⟨rfl, Below.refl _ _⟩
  obtain ⟨x, hx⟩ : ∃ x, s[14]? = some x := ⟨s[14], List.getElem?_eq_getElem (by omega)⟩
  have hg := bs_get s 14 x hx
  have HS : Hid (∀ a b, ((bs s).extract a b).size ≤ 18) := Lib.hid fun a b => by rw [ByteArray.size_extract, bs_size]; omega
  have HDC : Hid (∀ a b u, Calls Tryz.prog 46 #[.string ((bs s).extract a b)] u fun e w' => e = .returned (.int .i64 (digS ((s.take b).drop a))) ∧ w' = u) := Lib.hid fun a b u => by
    have := digits_ba ((bs s).extract a b) u (HS.out a b)
    rw [bs_cut, bs_data] at this
    rw [bs_cut]; exact this
  rw [hl] at zs
  by_cases hxz : x = 90
  case neg =>
    have q1 : ((x.toNat : Int) != 90) = true := by
      have : x.toNat ≠ 90 := fun e => hxz (by rw [← u8_back x, e]; rfl)
      simp; omega
    have HR : Hid (longS s = none) := Lib.hid (by unfold longS; rw [if_pos (Or.inr (Or.inl (by rw [hx]; simpa using hxz)))])
    clear hx hxz
    go_enter Tryz.func51, Tryz.ntmps51
    go_wp2
    go_ret2
    rw [HR.out]
    exact ⟨rfl, Below.refl _ _⟩
  subst hxz
  by_cases hdn : digS (s.take 14) < 0
  · have HR : Hid (longS s = none) := Lib.hid (by unfold longS; rw [if_pos (Or.inr (Or.inr hdn))])
    have HDN : Hid (∀ u, Calls Tryz.prog 46 #[.string ((bs s).extract 0 14)] u fun e w' => e = .returned (.int .i64 (digS (s.take 14))) ∧ w' = u) := Lib.hid fun u => HDC.out 0 14 u
    generalize digS (s.take 14) = D at *
    clear hx
    go_enter Tryz.func51, Tryz.ntmps51
    go_wp2_with (go_at_call 46; refine (HDN.out _).mono ?_; rintro e w1 ⟨rfl, rfl⟩)
    go_ret2
    rw [HR.out]
    exact ⟨rfl, Below.refl _ _⟩
  have hdig := (digS_iff (s.take 14)).1 (by omega)
  obtain ⟨V, hV⟩ : ∃ V : Nat → Nat → Nat, V = fun a b => (digS ((s.take b).drop a)).toNat := ⟨_, rfl⟩
  have hVd : ∀ a b, b ≤ 14 → digS ((s.take b).drop a) = (V a b : Nat) := fun a b hb => by
    have : 0 ≤ digS ((s.take b).drop a) := (digS_iff _).2 fun c hc => hdig c (by
      have h1 := List.mem_of_mem_drop hc
      rw [show s.take b = (s.take 14).take b by rw [List.take_take, Nat.min_eq_left hb]] at h1
      exact List.mem_of_mem_take h1)
    rw [hV]; simp only; omega
  have hVb : ∀ a k n, ((s.take (a + k)).drop a).length ≤ n → a + k ≤ 14 → V a (a + k) < 10 ^ n := fun a k n hn hb => by
    have h1 := hVd a (a + k) hb
    have h2 := digS_lt ((s.take (a + k)).drop a) ((digS_iff _).1 (by omega)) hn
    omega
  have b0 : V 0 4 < 10000 := hVb 0 4 4 (by simp; omega) (by decide)
  have b1 : V 4 6 < 100 := hVb 4 2 2 (by simp; omega) (by decide)
  have b2 : V 6 8 < 100 := hVb 6 2 2 (by simp; omega) (by decide)
  have b3 : V 8 10 < 100 := hVb 8 2 2 (by simp; omega) (by decide)
  have b4 : V 10 12 < 100 := hVb 10 2 2 (by simp; omega) (by decide)
  have b5 : V 12 14 < 100 := hVb 12 2 2 (by simp; omega) (by decide)
  have HR : Hid (longS s = timeS (V 0 4) (V 4 6) (V 6 8) (V 8 10) (V 10 12) (V 12 14)) := Lib.hid (by
    unfold longS
    rw [if_neg (by rw [hx]; simp; omega), hV]
    simp only [List.drop_zero, List.take_drop])
  have HDN : Hid (∀ u, Calls Tryz.prog 46 #[.string ((bs s).extract 0 14)] u fun e w' => e = .returned (.int .i64 (V 0 14 : Nat)) ∧ w' = u) := Lib.hid fun u => by
    have := HDC.out 0 14 u
    rw [hVd 0 14 (by decide)] at this
    exact this
  have HDQ : Hid (∀ a b u, b ≤ 14 → Calls Tryz.prog 46 #[.string ((bs s).extract a b)] u fun e w' => e = .returned (.int .i64 (V a b : Nat)) ∧ w' = u) := Lib.hid fun a b u hb => by
    have := HDC.out a b u
    rw [hVd a b hb] at this
    exact this
  have HL : Hid (∀ u, Calls Tryz.prog 80 #[.int .i64 (V 0 4 : Nat), .int .i64 (V 4 6 : Nat)] u fun e w' => e = .returned (.int .i64 (lenM (V 0 4) (V 4 6) : Nat)) ∧ w' = u) := Lib.hid fun u => length_any _ _ u (by omega)
  have h70 : Hid (∀ u, Calls Tryz.prog 53 #[.int .i64 1970, .int .i64 1] u fun e w' => e = .returned (.int .i64 719528) ∧ w' = u) := Lib.hid fun u => by
    have := day_any 1970 1 u (by decide) (by decide) (by decide)
    rw [day_1970] at this
    exact this
  obtain ⟨LM, hLM⟩ : ∃ LM, LM = lenM (V 0 4) (V 4 6) := ⟨_, rfl⟩
  have HLM := Lib.hid hLM
  rw [← hLM] at HL
  clear hx hdn hdig hV hVd hVb HDC HS hLM
  go_enter Tryz.func51, Tryz.ntmps51
  go_upto_region 12 with (go_at_call 46; refine (HDN.out _).mono ?_; rintro e w1 ⟨rfl, rfl⟩)
  go_quiet ((go_at_call 46; exact (HDQ.out _ _ _ (by decide)).mono fun _ _ hh => ⟨hh.1, _, hh.2⟩))
  go_upto_region 13 with fail
  go_quiet ((go_at_call 46; exact (HDQ.out _ _ _ (by decide)).mono fun _ _ hh => ⟨hh.1, _, hh.2⟩))
  go_upto_region 14 with fail
  clear HDQ HDN
  generalize V 0 4 = y at *
  generalize V 4 6 = m at *
  generalize V 6 8 = d at *
  generalize V 8 10 = h at *
  generalize V 10 12 = i at *
  generalize V 12 14 = z at *
  by_cases hbad : m < 1 ∨ 12 < m ∨ d < 1 ∨ LM < d ∨ 23 < h ∨ 59 < i ∨ 59 < z
  · have HR2 : Hid (longS s = none) := Lib.hid (by rw [HR.out]; unfold timeS; rw [if_pos (by rw [← HLM.out]; exact hbad)])
    have hcase : (m < 1) ∨ (¬ m < 1 ∧ 12 < m) ∨ (¬ m < 1 ∧ ¬ 12 < m ∧ d < 1) ∨ (¬ m < 1 ∧ ¬ 12 < m ∧ ¬ d < 1 ∧ LM < d) ∨ (¬ m < 1 ∧ ¬ 12 < m ∧ ¬ d < 1 ∧ ¬ LM < d ∧ 23 < h) ∨ (¬ m < 1 ∧ ¬ 12 < m ∧ ¬ d < 1 ∧ ¬ LM < d ∧ ¬ 23 < h ∧ 59 < i) ∨ (¬ m < 1 ∧ ¬ 12 < m ∧ ¬ d < 1 ∧ ¬ LM < d ∧ ¬ 23 < h ∧ ¬ 59 < i ∧ 59 < z) := by omega
    clear hbad
    rcases hcase with q0 | ⟨q0, q1⟩ | ⟨q0, q1, q2⟩ | ⟨q0, q1, q2, q3⟩ | ⟨q0, q1, q2, q3, q4⟩ | ⟨q0, q1, q2, q3, q4, q5⟩ | ⟨q0, q1, q2, q3, q4, q5, q6⟩
    all_goals
      go_wp2_with (go_at_call 80; refine (HL.out _).mono ?_; rintro e w2 ⟨rfl, rfl⟩)
      go_ret2
      rw [HR2.out]
      exact ⟨rfl, below_drewN _ _⟩
  · have HD : Hid (∀ u, Calls Tryz.prog 53 #[.int .i64 (y : Nat), .int .i64 (m : Nat)] u fun e w' => e = .returned (.int .i64 (dayS y m : Nat)) ∧ w' = u) := Lib.hid fun u => day_any y m u (by omega) (by omega) (by omega)
    obtain ⟨DY, hDY⟩ : ∃ DY, DY = dayS y m := ⟨_, rfl⟩
    have hDb : DY ≤ 5000000 := by
      have h1 := years_le (y := y)
      have h2 := months_le y m (by omega)
      rw [hDY]; unfold dayS; omega
    have HR2 : Hid (longS s = some (86400 * ((DY : Int) + d - 1 - 719528) + 3600 * h + 60 * i + z)) := Lib.hid (by
      rw [HR.out]; unfold timeS; rw [if_neg (by rw [← HLM.out]; exact hbad), day_1970, hDY]; rfl)
    rw [← hDY] at HD
    clear hDY
    go_wp2_with (first
      | (go_at_call 80; refine (HL.out _).mono ?_; rintro e w2 ⟨rfl, rfl⟩)
      | (go_at_call_of 53 (Value.int IntKind.i64 1970); refine (h70.out _).mono ?_; rintro e w4 ⟨rfl, rfl⟩)
      | (go_at_call 53; refine (HD.out _).mono ?_; rintro e w3 ⟨rfl, rfl⟩))
    go_ret2
    rw [HR2.out]
    exact ⟨rfl, below_drewN _ _⟩

set_option maxRecDepth 100000 in
set_option maxHeartbeats 8000000 in
theorem moment_23a (s0 s : Bs) (w : World) (h13 : s0.length = 13) (x0 : UInt8) (hx0 : s0[0]? = some x0) (q0 : (53 : Int) ≤ (x0.toNat : Int)) (hcat : (⟨#[49, 57]⟩ : ByteArray) ++ bs s0 = bs s) (hl : s.length = 15) : Calls Tryz.prog 51 #[.int .i64 23, .string (bs s0)] w fun e w' => e = .returned (momV (longS s)) ∧ Below w.heap.size w w' := by
  have zs := bs_size s
  have zs0 := bs_size s0
  have hg0 := bs_get s0 0 x0 hx0
  rw [h13] at zs0
  clear hx0 h13
  obtain ⟨x, hx⟩ : ∃ x, s[14]? = some x := ⟨s[14], List.getElem?_eq_getElem (by omega)⟩
  have hg := bs_get s 14 x hx
  have HS : Hid (∀ a b, ((bs s).extract a b).size ≤ 18) := Lib.hid fun a b => by rw [ByteArray.size_extract, bs_size]; omega
  have HDC : Hid (∀ a b u, Calls Tryz.prog 46 #[.string ((bs s).extract a b)] u fun e w' => e = .returned (.int .i64 (digS ((s.take b).drop a))) ∧ w' = u) := Lib.hid fun a b u => by
    have := digits_ba ((bs s).extract a b) u (HS.out a b)
    rw [bs_cut, bs_data] at this
    rw [bs_cut]; exact this
  rw [hl] at zs
  by_cases hxz : x = 90
  case neg =>
    have q1 : ((x.toNat : Int) != 90) = true := by
      have : x.toNat ≠ 90 := fun e => hxz (by rw [← u8_back x, e]; rfl)
      simp; omega
    have HR : Hid (longS s = none) := Lib.hid (by unfold longS; rw [if_pos (Or.inr (Or.inl (by rw [hx]; simpa using hxz)))])
    clear hx hxz
    go_enter Tryz.func51, Tryz.ntmps51
    go_wp2
    go_ret2
    rw [HR.out]
    exact ⟨rfl, Below.refl _ _⟩
  subst hxz
  by_cases hdn : digS (s.take 14) < 0
  · have HR : Hid (longS s = none) := Lib.hid (by unfold longS; rw [if_pos (Or.inr (Or.inr hdn))])
    have HDN : Hid (∀ u, Calls Tryz.prog 46 #[.string ((bs s).extract 0 14)] u fun e w' => e = .returned (.int .i64 (digS (s.take 14))) ∧ w' = u) := Lib.hid fun u => HDC.out 0 14 u
    generalize digS (s.take 14) = D at *
    clear hx
    go_enter Tryz.func51, Tryz.ntmps51
    go_wp2_with (go_at_call 46; refine (HDN.out _).mono ?_; rintro e w1 ⟨rfl, rfl⟩)
    go_ret2
    rw [HR.out]
    exact ⟨rfl, Below.refl _ _⟩
  have hdig := (digS_iff (s.take 14)).1 (by omega)
  obtain ⟨V, hV⟩ : ∃ V : Nat → Nat → Nat, V = fun a b => (digS ((s.take b).drop a)).toNat := ⟨_, rfl⟩
  have hVd : ∀ a b, b ≤ 14 → digS ((s.take b).drop a) = (V a b : Nat) := fun a b hb => by
    have : 0 ≤ digS ((s.take b).drop a) := (digS_iff _).2 fun c hc => hdig c (by
      have h1 := List.mem_of_mem_drop hc
      rw [show s.take b = (s.take 14).take b by rw [List.take_take, Nat.min_eq_left hb]] at h1
      exact List.mem_of_mem_take h1)
    rw [hV]; simp only; omega
  have hVb : ∀ a k n, ((s.take (a + k)).drop a).length ≤ n → a + k ≤ 14 → V a (a + k) < 10 ^ n := fun a k n hn hb => by
    have h1 := hVd a (a + k) hb
    have h2 := digS_lt ((s.take (a + k)).drop a) ((digS_iff _).1 (by omega)) hn
    omega
  have b0 : V 0 4 < 10000 := hVb 0 4 4 (by simp; omega) (by decide)
  have b1 : V 4 6 < 100 := hVb 4 2 2 (by simp; omega) (by decide)
  have b2 : V 6 8 < 100 := hVb 6 2 2 (by simp; omega) (by decide)
  have b3 : V 8 10 < 100 := hVb 8 2 2 (by simp; omega) (by decide)
  have b4 : V 10 12 < 100 := hVb 10 2 2 (by simp; omega) (by decide)
  have b5 : V 12 14 < 100 := hVb 12 2 2 (by simp; omega) (by decide)
  have HR : Hid (longS s = timeS (V 0 4) (V 4 6) (V 6 8) (V 8 10) (V 10 12) (V 12 14)) := Lib.hid (by
    unfold longS
    rw [if_neg (by rw [hx]; simp; omega), hV]
    simp only [List.drop_zero, List.take_drop])
  have HDN : Hid (∀ u, Calls Tryz.prog 46 #[.string ((bs s).extract 0 14)] u fun e w' => e = .returned (.int .i64 (V 0 14 : Nat)) ∧ w' = u) := Lib.hid fun u => by
    have := HDC.out 0 14 u
    rw [hVd 0 14 (by decide)] at this
    exact this
  have HDQ : Hid (∀ a b u, b ≤ 14 → Calls Tryz.prog 46 #[.string ((bs s).extract a b)] u fun e w' => e = .returned (.int .i64 (V a b : Nat)) ∧ w' = u) := Lib.hid fun a b u hb => by
    have := HDC.out a b u
    rw [hVd a b hb] at this
    exact this
  have HL : Hid (∀ u, Calls Tryz.prog 80 #[.int .i64 (V 0 4 : Nat), .int .i64 (V 4 6 : Nat)] u fun e w' => e = .returned (.int .i64 (lenM (V 0 4) (V 4 6) : Nat)) ∧ w' = u) := Lib.hid fun u => length_any _ _ u (by omega)
  have h70 : Hid (∀ u, Calls Tryz.prog 53 #[.int .i64 1970, .int .i64 1] u fun e w' => e = .returned (.int .i64 719528) ∧ w' = u) := Lib.hid fun u => by
    have := day_any 1970 1 u (by decide) (by decide) (by decide)
    rw [day_1970] at this
    exact this
  obtain ⟨LM, hLM⟩ : ∃ LM, LM = lenM (V 0 4) (V 4 6) := ⟨_, rfl⟩
  have HLM := Lib.hid hLM
  rw [← hLM] at HL
  clear hx hdn hdig hV hVd hVb HDC HS hLM
  go_enter Tryz.func51, Tryz.ntmps51
  go_upto_region 12 with (go_at_call 46; refine (HDN.out _).mono ?_; rintro e w1 ⟨rfl, rfl⟩)
  go_quiet ((go_at_call 46; exact (HDQ.out _ _ _ (by decide)).mono fun _ _ hh => ⟨hh.1, _, hh.2⟩))
  go_upto_region 13 with fail
  go_quiet ((go_at_call 46; exact (HDQ.out _ _ _ (by decide)).mono fun _ _ hh => ⟨hh.1, _, hh.2⟩))
  go_upto_region 14 with fail
  clear HDQ HDN
  generalize V 0 4 = y at *
  generalize V 4 6 = m at *
  generalize V 6 8 = d at *
  generalize V 8 10 = h at *
  generalize V 10 12 = i at *
  generalize V 12 14 = z at *
  by_cases hbad : m < 1 ∨ 12 < m ∨ d < 1 ∨ LM < d ∨ 23 < h ∨ 59 < i ∨ 59 < z
  · have HR2 : Hid (longS s = none) := Lib.hid (by rw [HR.out]; unfold timeS; rw [if_pos (by rw [← HLM.out]; exact hbad)])
    have hcase : (m < 1) ∨ (¬ m < 1 ∧ 12 < m) ∨ (¬ m < 1 ∧ ¬ 12 < m ∧ d < 1) ∨ (¬ m < 1 ∧ ¬ 12 < m ∧ ¬ d < 1 ∧ LM < d) ∨ (¬ m < 1 ∧ ¬ 12 < m ∧ ¬ d < 1 ∧ ¬ LM < d ∧ 23 < h) ∨ (¬ m < 1 ∧ ¬ 12 < m ∧ ¬ d < 1 ∧ ¬ LM < d ∧ ¬ 23 < h ∧ 59 < i) ∨ (¬ m < 1 ∧ ¬ 12 < m ∧ ¬ d < 1 ∧ ¬ LM < d ∧ ¬ 23 < h ∧ ¬ 59 < i ∧ 59 < z) := by omega
    clear hbad
    rcases hcase with q0 | ⟨q0, q1⟩ | ⟨q0, q1, q2⟩ | ⟨q0, q1, q2, q3⟩ | ⟨q0, q1, q2, q3, q4⟩ | ⟨q0, q1, q2, q3, q4, q5⟩ | ⟨q0, q1, q2, q3, q4, q5, q6⟩
    all_goals
      go_wp2_with (go_at_call 80; refine (HL.out _).mono ?_; rintro e w2 ⟨rfl, rfl⟩)
      go_ret2
      rw [HR2.out]
      exact ⟨rfl, below_drewN _ _⟩
  · have HD : Hid (∀ u, Calls Tryz.prog 53 #[.int .i64 (y : Nat), .int .i64 (m : Nat)] u fun e w' => e = .returned (.int .i64 (dayS y m : Nat)) ∧ w' = u) := Lib.hid fun u => day_any y m u (by omega) (by omega) (by omega)
    obtain ⟨DY, hDY⟩ : ∃ DY, DY = dayS y m := ⟨_, rfl⟩
    have hDb : DY ≤ 5000000 := by
      have h1 := years_le (y := y)
      have h2 := months_le y m (by omega)
      rw [hDY]; unfold dayS; omega
    have HR2 : Hid (longS s = some (86400 * ((DY : Int) + d - 1 - 719528) + 3600 * h + 60 * i + z)) := Lib.hid (by
      rw [HR.out]; unfold timeS; rw [if_neg (by rw [← HLM.out]; exact hbad), day_1970, hDY]; rfl)
    rw [← hDY] at HD
    clear hDY
    go_wp2_with (first
      | (go_at_call 80; refine (HL.out _).mono ?_; rintro e w2 ⟨rfl, rfl⟩)
      | (go_at_call_of 53 (Value.int IntKind.i64 1970); refine (h70.out _).mono ?_; rintro e w4 ⟨rfl, rfl⟩)
      | (go_at_call 53; refine (HD.out _).mono ?_; rintro e w3 ⟨rfl, rfl⟩))
    go_ret2
    rw [HR2.out]
    exact ⟨rfl, below_drewN _ _⟩

set_option maxRecDepth 100000 in
set_option maxHeartbeats 8000000 in
theorem moment_23b (s0 s : Bs) (w : World) (h13 : s0.length = 13) (x0 : UInt8) (hx0 : s0[0]? = some x0) (q0 : ¬ (53 : Int) ≤ (x0.toNat : Int)) (hcat : (⟨#[50, 48]⟩ : ByteArray) ++ bs s0 = bs s) (hl : s.length = 15) : Calls Tryz.prog 51 #[.int .i64 23, .string (bs s0)] w fun e w' => e = .returned (momV (longS s)) ∧ Below w.heap.size w w' := by
  have zs := bs_size s
  have zs0 := bs_size s0
  have hg0 := bs_get s0 0 x0 hx0
  rw [h13] at zs0
  clear hx0 h13
  obtain ⟨x, hx⟩ : ∃ x, s[14]? = some x := ⟨s[14], List.getElem?_eq_getElem (by omega)⟩
  have hg := bs_get s 14 x hx
  have HS : Hid (∀ a b, ((bs s).extract a b).size ≤ 18) := Lib.hid fun a b => by rw [ByteArray.size_extract, bs_size]; omega
  have HDC : Hid (∀ a b u, Calls Tryz.prog 46 #[.string ((bs s).extract a b)] u fun e w' => e = .returned (.int .i64 (digS ((s.take b).drop a))) ∧ w' = u) := Lib.hid fun a b u => by
    have := digits_ba ((bs s).extract a b) u (HS.out a b)
    rw [bs_cut, bs_data] at this
    rw [bs_cut]; exact this
  rw [hl] at zs
  by_cases hxz : x = 90
  case neg =>
    have q1 : ((x.toNat : Int) != 90) = true := by
      have : x.toNat ≠ 90 := fun e => hxz (by rw [← u8_back x, e]; rfl)
      simp; omega
    have HR : Hid (longS s = none) := Lib.hid (by unfold longS; rw [if_pos (Or.inr (Or.inl (by rw [hx]; simpa using hxz)))])
    clear hx hxz
    go_enter Tryz.func51, Tryz.ntmps51
    go_wp2
    go_ret2
    rw [HR.out]
    exact ⟨rfl, Below.refl _ _⟩
  subst hxz
  by_cases hdn : digS (s.take 14) < 0
  · have HR : Hid (longS s = none) := Lib.hid (by unfold longS; rw [if_pos (Or.inr (Or.inr hdn))])
    have HDN : Hid (∀ u, Calls Tryz.prog 46 #[.string ((bs s).extract 0 14)] u fun e w' => e = .returned (.int .i64 (digS (s.take 14))) ∧ w' = u) := Lib.hid fun u => HDC.out 0 14 u
    generalize digS (s.take 14) = D at *
    clear hx
    go_enter Tryz.func51, Tryz.ntmps51
    go_wp2_with (go_at_call 46; refine (HDN.out _).mono ?_; rintro e w1 ⟨rfl, rfl⟩)
    go_ret2
    rw [HR.out]
    exact ⟨rfl, Below.refl _ _⟩
  have hdig := (digS_iff (s.take 14)).1 (by omega)
  obtain ⟨V, hV⟩ : ∃ V : Nat → Nat → Nat, V = fun a b => (digS ((s.take b).drop a)).toNat := ⟨_, rfl⟩
  have hVd : ∀ a b, b ≤ 14 → digS ((s.take b).drop a) = (V a b : Nat) := fun a b hb => by
    have : 0 ≤ digS ((s.take b).drop a) := (digS_iff _).2 fun c hc => hdig c (by
      have h1 := List.mem_of_mem_drop hc
      rw [show s.take b = (s.take 14).take b by rw [List.take_take, Nat.min_eq_left hb]] at h1
      exact List.mem_of_mem_take h1)
    rw [hV]; simp only; omega
  have hVb : ∀ a k n, ((s.take (a + k)).drop a).length ≤ n → a + k ≤ 14 → V a (a + k) < 10 ^ n := fun a k n hn hb => by
    have h1 := hVd a (a + k) hb
    have h2 := digS_lt ((s.take (a + k)).drop a) ((digS_iff _).1 (by omega)) hn
    omega
  have b0 : V 0 4 < 10000 := hVb 0 4 4 (by simp; omega) (by decide)
  have b1 : V 4 6 < 100 := hVb 4 2 2 (by simp; omega) (by decide)
  have b2 : V 6 8 < 100 := hVb 6 2 2 (by simp; omega) (by decide)
  have b3 : V 8 10 < 100 := hVb 8 2 2 (by simp; omega) (by decide)
  have b4 : V 10 12 < 100 := hVb 10 2 2 (by simp; omega) (by decide)
  have b5 : V 12 14 < 100 := hVb 12 2 2 (by simp; omega) (by decide)
  have HR : Hid (longS s = timeS (V 0 4) (V 4 6) (V 6 8) (V 8 10) (V 10 12) (V 12 14)) := Lib.hid (by
    unfold longS
    rw [if_neg (by rw [hx]; simp; omega), hV]
    simp only [List.drop_zero, List.take_drop])
  have HDN : Hid (∀ u, Calls Tryz.prog 46 #[.string ((bs s).extract 0 14)] u fun e w' => e = .returned (.int .i64 (V 0 14 : Nat)) ∧ w' = u) := Lib.hid fun u => by
    have := HDC.out 0 14 u
    rw [hVd 0 14 (by decide)] at this
    exact this
  have HDQ : Hid (∀ a b u, b ≤ 14 → Calls Tryz.prog 46 #[.string ((bs s).extract a b)] u fun e w' => e = .returned (.int .i64 (V a b : Nat)) ∧ w' = u) := Lib.hid fun a b u hb => by
    have := HDC.out a b u
    rw [hVd a b hb] at this
    exact this
  have HL : Hid (∀ u, Calls Tryz.prog 80 #[.int .i64 (V 0 4 : Nat), .int .i64 (V 4 6 : Nat)] u fun e w' => e = .returned (.int .i64 (lenM (V 0 4) (V 4 6) : Nat)) ∧ w' = u) := Lib.hid fun u => length_any _ _ u (by omega)
  have h70 : Hid (∀ u, Calls Tryz.prog 53 #[.int .i64 1970, .int .i64 1] u fun e w' => e = .returned (.int .i64 719528) ∧ w' = u) := Lib.hid fun u => by
    have := day_any 1970 1 u (by decide) (by decide) (by decide)
    rw [day_1970] at this
    exact this
  obtain ⟨LM, hLM⟩ : ∃ LM, LM = lenM (V 0 4) (V 4 6) := ⟨_, rfl⟩
  have HLM := Lib.hid hLM
  rw [← hLM] at HL
  clear hx hdn hdig hV hVd hVb HDC HS hLM
  go_enter Tryz.func51, Tryz.ntmps51
  go_upto_region 12 with (go_at_call 46; refine (HDN.out _).mono ?_; rintro e w1 ⟨rfl, rfl⟩)
  go_quiet ((go_at_call 46; exact (HDQ.out _ _ _ (by decide)).mono fun _ _ hh => ⟨hh.1, _, hh.2⟩))
  go_upto_region 13 with fail
  go_quiet ((go_at_call 46; exact (HDQ.out _ _ _ (by decide)).mono fun _ _ hh => ⟨hh.1, _, hh.2⟩))
  go_upto_region 14 with fail
  clear HDQ HDN
  generalize V 0 4 = y at *
  generalize V 4 6 = m at *
  generalize V 6 8 = d at *
  generalize V 8 10 = h at *
  generalize V 10 12 = i at *
  generalize V 12 14 = z at *
  by_cases hbad : m < 1 ∨ 12 < m ∨ d < 1 ∨ LM < d ∨ 23 < h ∨ 59 < i ∨ 59 < z
  · have HR2 : Hid (longS s = none) := Lib.hid (by rw [HR.out]; unfold timeS; rw [if_pos (by rw [← HLM.out]; exact hbad)])
    have hcase : (m < 1) ∨ (¬ m < 1 ∧ 12 < m) ∨ (¬ m < 1 ∧ ¬ 12 < m ∧ d < 1) ∨ (¬ m < 1 ∧ ¬ 12 < m ∧ ¬ d < 1 ∧ LM < d) ∨ (¬ m < 1 ∧ ¬ 12 < m ∧ ¬ d < 1 ∧ ¬ LM < d ∧ 23 < h) ∨ (¬ m < 1 ∧ ¬ 12 < m ∧ ¬ d < 1 ∧ ¬ LM < d ∧ ¬ 23 < h ∧ 59 < i) ∨ (¬ m < 1 ∧ ¬ 12 < m ∧ ¬ d < 1 ∧ ¬ LM < d ∧ ¬ 23 < h ∧ ¬ 59 < i ∧ 59 < z) := by omega
    clear hbad
    rcases hcase with q0 | ⟨q0, q1⟩ | ⟨q0, q1, q2⟩ | ⟨q0, q1, q2, q3⟩ | ⟨q0, q1, q2, q3, q4⟩ | ⟨q0, q1, q2, q3, q4, q5⟩ | ⟨q0, q1, q2, q3, q4, q5, q6⟩
    all_goals
      go_wp2_with (go_at_call 80; refine (HL.out _).mono ?_; rintro e w2 ⟨rfl, rfl⟩)
      go_ret2
      rw [HR2.out]
      exact ⟨rfl, below_drewN _ _⟩
  · have HD : Hid (∀ u, Calls Tryz.prog 53 #[.int .i64 (y : Nat), .int .i64 (m : Nat)] u fun e w' => e = .returned (.int .i64 (dayS y m : Nat)) ∧ w' = u) := Lib.hid fun u => day_any y m u (by omega) (by omega) (by omega)
    obtain ⟨DY, hDY⟩ : ∃ DY, DY = dayS y m := ⟨_, rfl⟩
    have hDb : DY ≤ 5000000 := by
      have h1 := years_le (y := y)
      have h2 := months_le y m (by omega)
      rw [hDY]; unfold dayS; omega
    have HR2 : Hid (longS s = some (86400 * ((DY : Int) + d - 1 - 719528) + 3600 * h + 60 * i + z)) := Lib.hid (by
      rw [HR.out]; unfold timeS; rw [if_neg (by rw [← HLM.out]; exact hbad), day_1970, hDY]; rfl)
    rw [← hDY] at HD
    clear hDY
    go_wp2_with (first
      | (go_at_call 80; refine (HL.out _).mono ?_; rintro e w2 ⟨rfl, rfl⟩)
      | (go_at_call_of 53 (Value.int IntKind.i64 1970); refine (h70.out _).mono ?_; rintro e w4 ⟨rfl, rfl⟩)
      | (go_at_call 53; refine (HD.out _).mono ?_; rintro e w3 ⟨rfl, rfl⟩))
    go_ret2
    rw [HR2.out]
    exact ⟨rfl, below_drewN _ _⟩

theorem moment_13 (s : Bs) (w : World) (_hsl : s.length ≤ SB) (h : s.length ≠ 13) : Calls Tryz.prog 51 #[.int .i64 23, .string (bs s)] w fun e w' => e = .returned (momV none) ∧ Below w.heap.size w w' := by
  have hSB := SB_eq
  have zs := bs_size s
  have q1 : ((s.length : Int) != 13) = true := by simp; omega
  go_enter Tryz.func51, Tryz.ntmps51
  go_wp2
  go_ret2
  exact ⟨rfl, Below.refl _ _⟩
theorem moment_any (t : Int) (ht : t = 23 ∨ t = 24) (s : Bs) (w : World) (hsl : s.length ≤ SB) : Calls Tryz.prog 51 #[.int .i64 t, .string (bs s)] w fun e w' => e = .returned (momV (momentS t s)) ∧ Below w.heap.size w w' := by
  rcases ht with rfl | rfl
  · unfold momentS
    rw [if_pos rfl]
    by_cases h : s.length ≠ 13
    · rw [if_pos h]; exact moment_13 s w hsl h
    · rw [if_neg h]
      have h : s.length = 13 := by omega
      obtain ⟨x0, hx0⟩ : ∃ x, s[0]? = some x := ⟨s[0], List.getElem?_eq_getElem (by omega)⟩
      have hd : s.headD 0 = x0 := by
        cases s with
        | nil => simp at h
        | cons a r => simpa using hx0
      rw [hd]
      by_cases hc : (53 : UInt8) ≤ x0
      · rw [if_pos hc]
        have hc2 : 53 ≤ x0.toNat := by rw [UInt8.le_iff_toNat_le] at hc; exact hc
        exact moment_23a s ([49, 57] ++ s) w h x0 hx0 (by omega) (bs_app2 [49, 57] s) (by simp [h])
      · rw [if_neg hc]
        have hc2 : ¬ 53 ≤ x0.toNat := by rw [UInt8.le_iff_toNat_le] at hc; exact hc
        exact moment_23b s ([50, 48] ++ s) w h x0 hx0 (by omega) (bs_app2 [50, 48] s) (by simp [h])
  · unfold momentS
    rw [if_neg (by decide)]
    exact moment_24 s w hsl
end Go.Proofs.YtebhiplcoioenaaGreatDoor
