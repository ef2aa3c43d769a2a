/- http.line: the walk. -/
import Derived.Test.YtipjkjcmceeaeaaGreatDoorYHex
import Derived.Test.YtipjkjcmceeaeaaGreatDoorYRef2
import Derived.Test.YtipjkjcmceeaeaaGreatDoorYIs
import Derived.Laws.BitsLemmas
namespace Go.Proofs.YtipjkjcmceeaeaaGreatDoor
open Go.RowKit

theorem results_tmp4 {fn : Func} {t u v x : Tmp} (h : fn.results = #[.tmp t, .tmp u, .tmp v, .tmp x]) (tmps : Array Value) (P : Program) (w : World) :
    (results fn tmps).run P w = .ok (.tuple #[tmps.getD t undef, tmps.getD u undef, tmps.getD v undef, tmps.getD x undef]) w := by
  simp [results, h]
def LineR (s : Bs) (e : Ending) : Prop := (lineC s = .bad ∧ ∃ why, e = .returned (.tuple #[.int .i64 0, .string ⟨#[]⟩, .bool false, wrV why sBody])) ∨ (lineC s = .short ∧ e = .returned (.tuple #[.int .i64 0, .string ⟨#[]⟩, .bool true, .nilIface])) ∨ ∃ n i r, lineC s = .num n i r ∧ e = .returned (.tuple #[.int .i64 (n : Nat), .string (bs r), .bool false, .nilIface])
theorem pre_crlf {l : Bs} {m : Nat} (hm : m = min 2 l.length) : Lib.hasPrefix l (CRLF.take m) = begCR l := by
  unfold Lib.hasPrefix begCR
  subst hm
  rw [List.length_take, Bool.eq_iff_iff, List.isPrefixOf_iff_prefix, decide_eq_true_eq]
  constructor
  · intro h
    have h1 := List.prefix_iff_eq_take.1 h
    rw [h1, List.length_take]
    show l.take 2 = l.take (min (min 2 l.length) 2)
    by_cases hl : l.length ≤ 2
    · rw [Nat.min_eq_right hl, Nat.min_eq_left hl, List.take_of_length_le hl, List.take_of_length_le (Nat.le_refl _)]
    · rw [Nat.min_eq_left (show 2 ≤ l.length by omega)]; rfl
  · intro h
    rw [← h]
    exact List.take_prefix _ _
theorem hexD_take {s : Bs} {i : Nat} (h4 : i ≤ 4) (hall : (s.take i).all heC = true) (hend : i = s.length ∨ i = 4 ∨ ∃ x, s[i]? = some x ∧ heC x = false) : hexD s = s.take i := by
  unfold hexD
  have key : ∀ (i k : Nat) (s : Bs), i ≤ k → (s.take i).all heC = true → (s.length ≤ i ∨ i = k ∨ ∃ x, s[i]? = some x ∧ heC x = false) → (s.take k).takeWhile heC = s.take i := by
    intro i
    induction i with
    | zero =>
      intro k s _ _ he
      cases s with
      | nil => simp
      | cons c r =>
        rcases he with h | rfl | ⟨x, hx, hf⟩
        · simp at h
        · rfl
        · simp at hx
          subst hx
          cases k with
          | zero => rfl
          | succ k => simp [hf]
    | succ i ih =>
      intro k s hk ha he
      cases s with
      | nil => simp
      | cons c r =>
        obtain ⟨k, rfl⟩ : ∃ k', k = k' + 1 := ⟨k - 1, by omega⟩
        simp only [List.take_succ_cons, List.all_cons, Bool.and_eq_true] at ha ⊢
        rw [List.takeWhile_cons, ha.1, if_pos rfl, ih k r (by omega) ha.2 (by
          rcases he with h | h | ⟨x, hx, hf⟩
          · left; simp at h; exact h
          · right; left; omega
          · right; right; exact ⟨x, by simpa using hx, hf⟩)]
  exact key i 4 s h4 hall (by rcases hend with h | h | h; exact Or.inl (by omega); exact Or.inr (Or.inl h); exact Or.inr (Or.inr h))
theorem line_bad0 {s : Bs} {i : Nat} (hd : hexD s = s.take i) (h0 : i = 0) (hne : s ≠ []) : lineC s = .bad := by
  unfold lineC
  rw [if_pos (Or.inl ⟨by rw [hd, h0]; rfl, hne⟩)]
theorem line_bad1 {s : Bs} {i : Nat} (hd : hexD s = s.take i) (hi : i ≤ s.length) (hb : begCR (s.drop i) = false) : lineC s = .bad := by
  unfold lineC
  rw [if_pos (Or.inr (by rw [hd, List.length_take, Nat.min_eq_left hi]; exact hb))]
theorem line_short {s : Bs} {i : Nat} (hd : hexD s = s.take i) (hi : i ≤ s.length) (hn : ¬ (i = 0 ∧ s ≠ [])) (hb : begCR (s.drop i) = true) (hl : s.length < i + 2) : lineC s = .short := by
  unfold lineC
  have e : (hexD s).length = i := by rw [hd, List.length_take, Nat.min_eq_left hi]
  rw [e, if_neg, if_pos hl]
  rintro (⟨h1, h2⟩ | h)
  · refine hn ⟨?_, h2⟩
    rw [← e, h1]; rfl
  · rw [hb] at h; cases h
theorem line_num {s : Bs} {i : Nat} (hd : hexD s = s.take i) (hi : i ≤ s.length) (hn : ¬ (i = 0 ∧ s ≠ [])) (hb : begCR (s.drop i) = true) (hl : ¬ s.length < i + 2) : lineC s = .num (hexN 0 (s.take i)) i (s.drop (i + 2)) := by
  unfold lineC
  have e : (hexD s).length = i := by rw [hd, List.length_take, Nat.min_eq_left hi]
  rw [e, if_neg, if_neg hl, hd]
  rintro (⟨h1, h2⟩ | h)
  · refine hn ⟨?_, h2⟩
    rw [← e, h1]; rfl
  · rw [hb] at h; cases h
theorem hexN_snoc (x : UInt8) : ∀ (l : Bs) (n : Nat), hexN n (l ++ [x]) = 16 * hexN n l + hexV x
  | [], n => rfl
  | c :: r, n => by show hexN _ (r ++ [x]) = 16 * hexN _ r + _; exact hexN_snoc x r _
theorem take_snoc {s : Bs} {i : Nat} {x : UInt8} (hx : s[i]? = some x) : s.take (i + 1) = s.take i ++ [x] := by
  obtain ⟨hi, e⟩ := List.getElem?_eq_some_iff.1 hx
  rw [List.take_succ_eq_append_getElem hi, e]
theorem nib_or (n v : Nat) (hn : n < 4096) (hv : v < 16) : bits BinOp.or IntKind.i64 ((n : Int) * 16) (v : Int) = ((16 * n + v : Nat) : Int) := by
  have h0 : ((n : Int) * 16) = ((n * 16 : Nat) : Int) := by omega
  have h1 : (BitVec.ofInt 64 ((n * 16 : Nat) : Int)).toNat = n * 16 := by
    rw [BitVec.ofInt_natCast, BitVec.toNat_ofNat]; exact Nat.mod_eq_of_lt (by omega)
  have h2 : (BitVec.ofInt 64 (v : Int)).toNat = v := by
    rw [BitVec.ofInt_natCast, BitVec.toNat_ofNat]; exact Nat.mod_eq_of_lt (by omega)
  have h3 : n * 16 ||| v = 16 * n + v := by
    rw [Nat.mul_comm]
    exact (Nat.two_pow_add_eq_or_of_lt (i := 4) hv n).symm
  rw [h0]
  show IntKind.i64.wrap ((BitVec.ofInt 64 ((n * 16 : Nat) : Int) ||| BitVec.ofInt 64 (v : Int)).toNat : Int) = _
  rw [BitVec.toNat_or, h1, h2, h3]
  rw [IntKind.wrap_i64]
  omega
set_option maxRecDepth 100000 in
set_option maxHeartbeats 8000000 in
theorem line_any (s : Bs) (w : World) (hl : s.length ≤ SB) : Calls Tryz.prog 59 #[.string (bs s)] w fun e w' => LineR s e ∧ Below w.heap.size w w' := by
  have hSB := SB_eq
  have zs := bs_size s
  have HHX : Hid (∀ (x : UInt8) u, Calls Tryz.prog 89 #[.int .u8 (x.toNat : Nat)] u fun e w' => e = .returned (.int .i64 (hexI x)) ∧ w' = u) := Lib.hid hex_any
  have HDG : Hid (∀ (x : UInt8) u, Calls Tryz.prog 73 #[.int .u8 (x.toNat : Nat)] u fun e w' => e = .returned (.bool (dgC x)) ∧ w' = u) := Lib.hid dgC_digit_any
  go_enter Tryz.func59, Tryz.ntmps59
  go_upto_region 2 with fail
  go_loopg [2, 6] 4 (fun gg s2 s6 wr => ∃ (i n : Nat), i ≤ 4 ∧ i ≤ s.length ∧ gg = 4 - i ∧ s2 = .int .i64 (n : Nat) ∧ s6 = .int .i64 (i : Nat) ∧ Aside (n = hexN 0 (s.take i)) ∧ Aside (n < 16 ^ i) ∧ Aside ((s.take i).all heC = true) ∧ wr = w)
  case atStart => exact ⟨0, 0, by omega, by omega, rfl, rfl, rfl, rfl, (show (0:Nat) < 16 ^ 0 by decide), rfl, rfl⟩
  case round =>
    obtain ⟨i, n, hi4, hil, rfl, rfl, rfl, HN, HN16, HAL, rfl⟩ := hrel
    by_cases hlt : i < s.length
    · have hltz : (i : Int) < (s.length : Int) := by omega
      by_cases h4 : i < 4
      · have h4z : (i : Int) < 4 := by omega
        have hn : n < 4096 := by
          have h1 := HN16.out
          have h2 : (16 : Nat) ^ i ≤ 16 ^ 3 := Nat.pow_le_pow_right (by decide) (by omega)
          have h3 : (16 : Nat) ^ 3 = 4096 := rfl
          omega
        obtain ⟨x, hx⟩ : ∃ x, s[i]? = some x := ⟨s[i], List.getElem?_eq_getElem hlt⟩
        have hg := bs_get s i x hx
        have hxc := HHX.out x
        have hdc := HDG.out x
        cases hh : heC x with
        | true =>
          obtain ⟨e1, e2, e3⟩ := hexI_he hh
          rw [e1] at hxc
          obtain ⟨v, hv⟩ : ∃ v, v = hexV x := ⟨_, rfl⟩
          rw [← hv] at hxc e3
          have HXC := Lib.hid hxc
          have HAL2 : Hid ((s.take (i + 1)).all heC = true) := Lib.hid (by rw [take_snoc hx, List.all_append, HAL.out]; simp [hh])
          have HN2 : Hid (16 * n + v = hexN 0 (s.take (i + 1))) := Lib.hid (by rw [take_snoc hx, hexN_snoc, ← HN.out, hv])
          have HN3 : Hid (16 * n + v < 16 ^ (i + 1)) := Lib.hid (by have := HN16.out; rw [Nat.pow_succ]; omega)
          have HV := Lib.hid hv
          have hvz : (0 : Int) ≤ (v : Int) := by omega
          have hbit := nib_or n v hn e3
          clear hxc e1 hh hx hv
          by_cases hd : dgC x = true
          · rw [hd] at hdc
            have HDC := Lib.hid hdc
            clear hdc e2 hd
            go_wp2_with (first
              | (go_at_call 89; refine (HXC.out _).mono ?_; rintro e w1 ⟨rfl, rfl⟩)
              | (go_at_call 73; refine (HDC.out _).mono ?_; rintro e w1 ⟨rfl, rfl⟩))
            go_roundg (4 - (i + 1))
            case measure => omega
            case rel => exact ⟨i + 1, 16 * n + v, by omega, by omega, rfl, by go_num, by go_num, HN2.out, HN3.out, HAL2.out, rfl⟩
          · have hdf : dgC x = false := by simpa using hd
            have h65 : (65 : Int) ≤ (x.toNat : Int) := by rcases e2 with h | h; exact absurd h hd; omega
            rw [hdf] at hdc
            have HDC := Lib.hid hdc
            clear hdc e2 hd hdf
            go_wp2_with (first
              | (go_at_call 89; refine (HXC.out _).mono ?_; rintro e w1 ⟨rfl, rfl⟩)
              | (go_at_call 73; refine (HDC.out _).mono ?_; rintro e w1 ⟨rfl, rfl⟩))
            go_roundg (4 - (i + 1))
            case measure => omega
            case rel => exact ⟨i + 1, 16 * n + v, by omega, by omega, rfl, by go_num, by go_num, HN2.out, HN3.out, HAL2.out, rfl⟩
        | false =>
          have HD : Hid (hexD s = s.take i) := Lib.hid (hexD_take hi4 HAL.out (Or.inr (Or.inr ⟨x, hx, hh⟩)))
          have hno := hexI_no hh
          obtain ⟨v, hv⟩ : ∃ v, v = hexI x := ⟨_, rfl⟩
          rw [← hv] at hxc hno
          have HXC := Lib.hid hxc
          clear hxc hv hh hx hn
          by_cases hv0 : v < 0
          · have hvz : ¬ (0 : Int) ≤ v := by omega
            clear hno hdc hv0
            by_cases hbad : i = 0 ∧ s ≠ []
            · have z1 : ((i : Int) == 0) = true := by rw [hbad.1]; rfl
              have z2 : ((bs s).toList == []) = false := by rw [bs_list, beqL]; exact decide_eq_false hbad.2
              have HL : Hid (lineC s = .bad) := Lib.hid (line_bad0 HD.out hbad.1 hbad.2)
              clear hbad
              go_upto_region 5 with (go_at_call 89; refine (HXC.out _).mono ?_; rintro e w1 ⟨rfl, rfl⟩)
              go_quiet (fail)
              go_wp2_with fail
              try simp only [Exit.inBlock, Exit.then]
              refine bodyPost_ret (results_tmp4 rfl _ _ _) rfl ?_
              exact ⟨Or.inl ⟨HL.out, _, rfl⟩, below_drawn (Below.refl _ _) _⟩
            have hz : (∃ b : Bool, ((i : Int) == 0) = b ∧ (b = true → ((bs s).toList == []) = true)) := ⟨_, rfl, fun h => by
              rw [bs_list, beqL]
              refine decide_eq_true (Classical.byContradiction fun hne => hbad ⟨by simpa using h, hne⟩)⟩
            obtain ⟨b0, z1, z2⟩ := hz
            have HNB := Lib.hid hbad
            clear hbad
            obtain ⟨m, hm⟩ : ∃ m, m = min 2 (s.length - i) := ⟨_, rfl⟩
            have hmz : min (2 : Int) ((s.length : Int) - (i : Int)) = (m : Int) := by omega
            have hm2 : (m : Int) ≤ 2 := by omega
            have x1 : (bs s).extract i s.length = bs (s.drop i) := by rw [bs_cut, List.take_of_length_le (Nat.le_refl _)]
            have x2 : (⟨#[13, 10]⟩ : ByteArray).extract 0 m = bs (CRLF.take m) := by
              have := bs_cut CRLF 0 m
              rw [List.drop_zero] at this
              exact this
            have HP0 : ∀ u, Calls Tryz.prog 60 #[.string (bs (s.drop i)), .string (bs (CRLF.take m))] u fun e w' => e = .returned (.bool (begCR (s.drop i))) ∧ w' = u := fun u => by
              have h1 := Tryz.strings_HasPrefix (bs (s.drop i)) (bs (CRLF.take m)) u
              rw [show (bs (s.drop i)).data.toList = s.drop i from rfl, show (bs (CRLF.take m)).data.toList = CRLF.take m from rfl, pre_crlf (by rw [hm, List.length_drop])] at h1
              exact h1
            have hzi : (0 : Int) ≤ (s.length : Int) - (i : Int) := by omega
            have xs2 : (⟨#[13, 10]⟩ : ByteArray).size = 2 := rfl
            generalize hBC : begCR (s.drop i) = bc at HP0
            have HP := Lib.hid HP0
            have HBC := Lib.hid hBC
            clear HP0 hBC hm
            cases bc with
            | false =>
              have HL : Hid (lineC s = .bad) := Lib.hid (line_bad1 HD.out hil HBC.out)
              cases b0 with
              | true =>
                have z3 := z2 rfl
                clear z2
                go_upto_region 5 with (go_at_call 89; refine (HXC.out _).mono ?_; rintro e w1 ⟨rfl, rfl⟩)
                go_quiet ((go_at_call 60; exact Calls.quiet_of_same (HP.out _)))
                go_wp2_with fail
                try simp only [Exit.inBlock, Exit.then]
                refine bodyPost_ret (results_tmp4 rfl _ _ _) rfl ?_
                exact ⟨Or.inl ⟨HL.out, _, rfl⟩, below_drawn (Below.refl _ _) _⟩
              | false =>
                clear z2
                go_upto_region 5 with (go_at_call 89; refine (HXC.out _).mono ?_; rintro e w1 ⟨rfl, rfl⟩)
                go_quiet ((go_at_call 60; exact Calls.quiet_of_same (HP.out _)))
                go_wp2_with fail
                try simp only [Exit.inBlock, Exit.then]
                refine bodyPost_ret (results_tmp4 rfl _ _ _) rfl ?_
                exact ⟨Or.inl ⟨HL.out, _, rfl⟩, below_drawn (Below.refl _ _) _⟩
            | true =>
              by_cases hs2 : s.length < i + 2
              · have z4 : (s.length : Int) < (i : Int) + 2 := by omega
                have HL : Hid (lineC s = .short) := Lib.hid (line_short HD.out hil HNB.out HBC.out hs2)
                clear hs2
                cases b0 with
                | true =>
                  have z3 := z2 rfl
                  clear z2
                  go_upto_region 5 with (go_at_call 89; refine (HXC.out _).mono ?_; rintro e w1 ⟨rfl, rfl⟩)
                  go_quiet ((go_at_call 60; exact Calls.quiet_of_same (HP.out _)))
                  go_wp2_with fail
                  try simp only [Exit.inBlock, Exit.then]
                  refine bodyPost_ret (results_tmp4 rfl _ _ _) rfl ?_
                  exact ⟨Or.inr (Or.inl ⟨HL.out, rfl⟩), below_drawn (Below.refl _ _) _⟩
                | false =>
                  clear z2
                  go_upto_region 5 with (go_at_call 89; refine (HXC.out _).mono ?_; rintro e w1 ⟨rfl, rfl⟩)
                  go_quiet ((go_at_call 60; exact Calls.quiet_of_same (HP.out _)))
                  go_wp2_with fail
                  try simp only [Exit.inBlock, Exit.then]
                  refine bodyPost_ret (results_tmp4 rfl _ _ _) rfl ?_
                  exact ⟨Or.inr (Or.inl ⟨HL.out, rfl⟩), below_drawn (Below.refl _ _) _⟩
              · have z4 : ¬ (s.length : Int) < (i : Int) + 2 := by omega
                have z5 : (i : Int) + 2 ≤ (s.length : Int) := by omega
                have x3 : (bs s).extract (i + 2) s.length = bs (s.drop (i + 2)) := by rw [bs_cut, List.take_of_length_le (Nat.le_refl _)]
                have HL : Hid (lineC s = .num n i (s.drop (i + 2))) := Lib.hid (by rw [HN.out]; exact line_num HD.out hil HNB.out HBC.out hs2)
                clear hs2
                cases b0 with
                | true =>
                  have z3 := z2 rfl
                  clear z2
                  go_upto_region 5 with (go_at_call 89; refine (HXC.out _).mono ?_; rintro e w1 ⟨rfl, rfl⟩)
                  go_quiet ((go_at_call 60; exact Calls.quiet_of_same (HP.out _)))
                  go_upto_region 9 with fail
                  go_quiet (fail)
                  go_wp2_with fail
                  try simp only [Exit.inBlock, Exit.then]
                  refine bodyPost_ret (results_tmp4 rfl _ _ _) rfl ?_
                  exact ⟨Or.inr (Or.inr ⟨n, i, _, HL.out, by first | rfl | (rw [← x3]; rfl)⟩), by first | exact below_drawn (Below.refl _ _) _ | exact below_drawn (below_drawn (Below.refl _ _) _) _⟩
                | false =>
                  clear z2
                  go_upto_region 5 with (go_at_call 89; refine (HXC.out _).mono ?_; rintro e w1 ⟨rfl, rfl⟩)
                  go_quiet ((go_at_call 60; exact Calls.quiet_of_same (HP.out _)))
                  go_upto_region 9 with fail
                  go_quiet (fail)
                  go_wp2_with fail
                  try simp only [Exit.inBlock, Exit.then]
                  refine bodyPost_ret (results_tmp4 rfl _ _ _) rfl ?_
                  exact ⟨Or.inr (Or.inr ⟨n, i, _, HL.out, by first | rfl | (rw [← x3]; rfl)⟩), by first | exact below_drawn (Below.refl _ _) _ | exact below_drawn (below_drawn (Below.refl _ _) _) _⟩
          · have hvz : (0 : Int) ≤ v := by omega
            rcases hno with h | ⟨hd, hc⟩
            · exact absurd h hv0
            have h65 : ¬ (65 : Int) ≤ (x.toNat : Int) := by omega
            rw [hd] at hdc
            have HDC := Lib.hid hdc
            clear hdc hd hc hv0
            by_cases hbad : i = 0 ∧ s ≠ []
            · have z1 : ((i : Int) == 0) = true := by rw [hbad.1]; rfl
              have z2 : ((bs s).toList == []) = false := by rw [bs_list, beqL]; exact decide_eq_false hbad.2
              have HL : Hid (lineC s = .bad) := Lib.hid (line_bad0 HD.out hbad.1 hbad.2)
              clear hbad
              go_upto_region 5 with (first | (go_at_call 89; refine (HXC.out _).mono ?_; rintro e w1 ⟨rfl, rfl⟩) | (go_at_call 73; refine (HDC.out _).mono ?_; rintro e w1 ⟨rfl, rfl⟩))
              go_quiet (fail)
              go_wp2_with fail
              try simp only [Exit.inBlock, Exit.then]
              refine bodyPost_ret (results_tmp4 rfl _ _ _) rfl ?_
              exact ⟨Or.inl ⟨HL.out, _, rfl⟩, below_drawn (Below.refl _ _) _⟩
            have hz : (∃ b : Bool, ((i : Int) == 0) = b ∧ (b = true → ((bs s).toList == []) = true)) := ⟨_, rfl, fun h => by
              rw [bs_list, beqL]
              refine decide_eq_true (Classical.byContradiction fun hne => hbad ⟨by simpa using h, hne⟩)⟩
            obtain ⟨b0, z1, z2⟩ := hz
            have HNB := Lib.hid hbad
            clear hbad
            obtain ⟨m, hm⟩ : ∃ m, m = min 2 (s.length - i) := ⟨_, rfl⟩
            have hmz : min (2 : Int) ((s.length : Int) - (i : Int)) = (m : Int) := by omega
            have hm2 : (m : Int) ≤ 2 := by omega
            have x1 : (bs s).extract i s.length = bs (s.drop i) := by rw [bs_cut, List.take_of_length_le (Nat.le_refl _)]
            have x2 : (⟨#[13, 10]⟩ : ByteArray).extract 0 m = bs (CRLF.take m) := by
              have := bs_cut CRLF 0 m
              rw [List.drop_zero] at this
              exact this
            have HP0 : ∀ u, Calls Tryz.prog 60 #[.string (bs (s.drop i)), .string (bs (CRLF.take m))] u fun e w' => e = .returned (.bool (begCR (s.drop i))) ∧ w' = u := fun u => by
              have h1 := Tryz.strings_HasPrefix (bs (s.drop i)) (bs (CRLF.take m)) u
              rw [show (bs (s.drop i)).data.toList = s.drop i from rfl, show (bs (CRLF.take m)).data.toList = CRLF.take m from rfl, pre_crlf (by rw [hm, List.length_drop])] at h1
              exact h1
            have hzi : (0 : Int) ≤ (s.length : Int) - (i : Int) := by omega
            have xs2 : (⟨#[13, 10]⟩ : ByteArray).size = 2 := rfl
            generalize hBC : begCR (s.drop i) = bc at HP0
            have HP := Lib.hid HP0
            have HBC := Lib.hid hBC
            clear HP0 hBC hm
            cases bc with
            | false =>
              have HL : Hid (lineC s = .bad) := Lib.hid (line_bad1 HD.out hil HBC.out)
              cases b0 with
              | true =>
                have z3 := z2 rfl
                clear z2
                go_upto_region 5 with (first | (go_at_call 89; refine (HXC.out _).mono ?_; rintro e w1 ⟨rfl, rfl⟩) | (go_at_call 73; refine (HDC.out _).mono ?_; rintro e w1 ⟨rfl, rfl⟩))
                go_quiet ((go_at_call 60; exact Calls.quiet_of_same (HP.out _)))
                go_wp2_with fail
                try simp only [Exit.inBlock, Exit.then]
                refine bodyPost_ret (results_tmp4 rfl _ _ _) rfl ?_
                exact ⟨Or.inl ⟨HL.out, _, rfl⟩, below_drawn (Below.refl _ _) _⟩
              | false =>
                clear z2
                go_upto_region 5 with (first | (go_at_call 89; refine (HXC.out _).mono ?_; rintro e w1 ⟨rfl, rfl⟩) | (go_at_call 73; refine (HDC.out _).mono ?_; rintro e w1 ⟨rfl, rfl⟩))
                go_quiet ((go_at_call 60; exact Calls.quiet_of_same (HP.out _)))
                go_wp2_with fail
                try simp only [Exit.inBlock, Exit.then]
                refine bodyPost_ret (results_tmp4 rfl _ _ _) rfl ?_
                exact ⟨Or.inl ⟨HL.out, _, rfl⟩, below_drawn (Below.refl _ _) _⟩
            | true =>
              by_cases hs2 : s.length < i + 2
              · have z4 : (s.length : Int) < (i : Int) + 2 := by omega
                have HL : Hid (lineC s = .short) := Lib.hid (line_short HD.out hil HNB.out HBC.out hs2)
                clear hs2
                cases b0 with
                | true =>
                  have z3 := z2 rfl
                  clear z2
                  go_upto_region 5 with (first | (go_at_call 89; refine (HXC.out _).mono ?_; rintro e w1 ⟨rfl, rfl⟩) | (go_at_call 73; refine (HDC.out _).mono ?_; rintro e w1 ⟨rfl, rfl⟩))
                  go_quiet ((go_at_call 60; exact Calls.quiet_of_same (HP.out _)))
                  go_wp2_with fail
                  try simp only [Exit.inBlock, Exit.then]
                  refine bodyPost_ret (results_tmp4 rfl _ _ _) rfl ?_
                  exact ⟨Or.inr (Or.inl ⟨HL.out, rfl⟩), below_drawn (Below.refl _ _) _⟩
                | false =>
                  clear z2
                  go_upto_region 5 with (first | (go_at_call 89; refine (HXC.out _).mono ?_; rintro e w1 ⟨rfl, rfl⟩) | (go_at_call 73; refine (HDC.out _).mono ?_; rintro e w1 ⟨rfl, rfl⟩))
                  go_quiet ((go_at_call 60; exact Calls.quiet_of_same (HP.out _)))
                  go_wp2_with fail
                  try simp only [Exit.inBlock, Exit.then]
                  refine bodyPost_ret (results_tmp4 rfl _ _ _) rfl ?_
                  exact ⟨Or.inr (Or.inl ⟨HL.out, rfl⟩), below_drawn (Below.refl _ _) _⟩
              · have z4 : ¬ (s.length : Int) < (i : Int) + 2 := by omega
                have z5 : (i : Int) + 2 ≤ (s.length : Int) := by omega
                have x3 : (bs s).extract (i + 2) s.length = bs (s.drop (i + 2)) := by rw [bs_cut, List.take_of_length_le (Nat.le_refl _)]
                have HL : Hid (lineC s = .num n i (s.drop (i + 2))) := Lib.hid (by rw [HN.out]; exact line_num HD.out hil HNB.out HBC.out hs2)
                clear hs2
                cases b0 with
                | true =>
                  have z3 := z2 rfl
                  clear z2
                  go_upto_region 5 with (first | (go_at_call 89; refine (HXC.out _).mono ?_; rintro e w1 ⟨rfl, rfl⟩) | (go_at_call 73; refine (HDC.out _).mono ?_; rintro e w1 ⟨rfl, rfl⟩))
                  go_quiet ((go_at_call 60; exact Calls.quiet_of_same (HP.out _)))
                  go_upto_region 9 with fail
                  go_quiet (fail)
                  go_wp2_with fail
                  try simp only [Exit.inBlock, Exit.then]
                  refine bodyPost_ret (results_tmp4 rfl _ _ _) rfl ?_
                  exact ⟨Or.inr (Or.inr ⟨n, i, _, HL.out, by first | rfl | (rw [← x3]; rfl)⟩), by first | exact below_drawn (Below.refl _ _) _ | exact below_drawn (below_drawn (Below.refl _ _) _) _⟩
                | false =>
                  clear z2
                  go_upto_region 5 with (first | (go_at_call 89; refine (HXC.out _).mono ?_; rintro e w1 ⟨rfl, rfl⟩) | (go_at_call 73; refine (HDC.out _).mono ?_; rintro e w1 ⟨rfl, rfl⟩))
                  go_quiet ((go_at_call 60; exact Calls.quiet_of_same (HP.out _)))
                  go_upto_region 9 with fail
                  go_quiet (fail)
                  go_wp2_with fail
                  try simp only [Exit.inBlock, Exit.then]
                  refine bodyPost_ret (results_tmp4 rfl _ _ _) rfl ?_
                  exact ⟨Or.inr (Or.inr ⟨n, i, _, HL.out, by first | rfl | (rw [← x3]; rfl)⟩), by first | exact below_drawn (Below.refl _ _) _ | exact below_drawn (below_drawn (Below.refl _ _) _) _⟩
      · have h4z : ¬ (i : Int) < 4 := by omega
        have HD : Hid (hexD s = s.take i) := Lib.hid (hexD_take hi4 HAL.out (Or.inr (Or.inl (by omega))))
        by_cases hbad : i = 0 ∧ s ≠ []
        · have z1 : ((i : Int) == 0) = true := by rw [hbad.1]; rfl
          have z2 : ((bs s).toList == []) = false := by rw [bs_list, beqL]; exact decide_eq_false hbad.2
          have HL : Hid (lineC s = .bad) := Lib.hid (line_bad0 HD.out hbad.1 hbad.2)
          clear hbad
          go_upto_region 5 with fail
          go_quiet (fail)
          go_wp2_with fail
          try simp only [Exit.inBlock, Exit.then]
          refine bodyPost_ret (results_tmp4 rfl _ _ _) rfl ?_
          exact ⟨Or.inl ⟨HL.out, _, rfl⟩, below_drawn (Below.refl _ _) _⟩
        have hz : (∃ b : Bool, ((i : Int) == 0) = b ∧ (b = true → ((bs s).toList == []) = true)) := ⟨_, rfl, fun h => by
          rw [bs_list, beqL]
          refine decide_eq_true (Classical.byContradiction fun hne => hbad ⟨by simpa using h, hne⟩)⟩
        obtain ⟨b0, z1, z2⟩ := hz
        have HNB := Lib.hid hbad
        clear hbad
        obtain ⟨m, hm⟩ : ∃ m, m = min 2 (s.length - i) := ⟨_, rfl⟩
        have hmz : min (2 : Int) ((s.length : Int) - (i : Int)) = (m : Int) := by omega
        have hm2 : (m : Int) ≤ 2 := by omega
        have x1 : (bs s).extract i s.length = bs (s.drop i) := by rw [bs_cut, List.take_of_length_le (Nat.le_refl _)]
        have x2 : (⟨#[13, 10]⟩ : ByteArray).extract 0 m = bs (CRLF.take m) := by
          have := bs_cut CRLF 0 m
          rw [List.drop_zero] at this
          exact this
        have HP0 : ∀ u, Calls Tryz.prog 60 #[.string (bs (s.drop i)), .string (bs (CRLF.take m))] u fun e w' => e = .returned (.bool (begCR (s.drop i))) ∧ w' = u := fun u => by
          have h1 := Tryz.strings_HasPrefix (bs (s.drop i)) (bs (CRLF.take m)) u
          rw [show (bs (s.drop i)).data.toList = s.drop i from rfl, show (bs (CRLF.take m)).data.toList = CRLF.take m from rfl, pre_crlf (by rw [hm, List.length_drop])] at h1
          exact h1
        have hzi : (0 : Int) ≤ (s.length : Int) - (i : Int) := by omega
        have xs2 : (⟨#[13, 10]⟩ : ByteArray).size = 2 := rfl
        generalize hBC : begCR (s.drop i) = bc at HP0
        have HP := Lib.hid HP0
        have HBC := Lib.hid hBC
        clear HP0 hBC hm
        cases bc with
        | false =>
          have HL : Hid (lineC s = .bad) := Lib.hid (line_bad1 HD.out hil HBC.out)
          cases b0 with
          | true =>
            have z3 := z2 rfl
            clear z2
            go_upto_region 5 with fail
            go_quiet ((go_at_call 60; exact Calls.quiet_of_same (HP.out _)))
            go_wp2_with fail
            try simp only [Exit.inBlock, Exit.then]
            refine bodyPost_ret (results_tmp4 rfl _ _ _) rfl ?_
            exact ⟨Or.inl ⟨HL.out, _, rfl⟩, below_drawn (Below.refl _ _) _⟩
          | false =>
            clear z2
            go_upto_region 5 with fail
            go_quiet ((go_at_call 60; exact Calls.quiet_of_same (HP.out _)))
            go_wp2_with fail
            try simp only [Exit.inBlock, Exit.then]
            refine bodyPost_ret (results_tmp4 rfl _ _ _) rfl ?_
            exact ⟨Or.inl ⟨HL.out, _, rfl⟩, below_drawn (Below.refl _ _) _⟩
        | true =>
          by_cases hs2 : s.length < i + 2
          · have z4 : (s.length : Int) < (i : Int) + 2 := by omega
            have HL : Hid (lineC s = .short) := Lib.hid (line_short HD.out hil HNB.out HBC.out hs2)
            clear hs2
            cases b0 with
            | true =>
              have z3 := z2 rfl
              clear z2
              go_upto_region 5 with fail
              go_quiet ((go_at_call 60; exact Calls.quiet_of_same (HP.out _)))
              go_wp2_with fail
              try simp only [Exit.inBlock, Exit.then]
              refine bodyPost_ret (results_tmp4 rfl _ _ _) rfl ?_
              exact ⟨Or.inr (Or.inl ⟨HL.out, rfl⟩), below_drawn (Below.refl _ _) _⟩
            | false =>
              clear z2
              go_upto_region 5 with fail
              go_quiet ((go_at_call 60; exact Calls.quiet_of_same (HP.out _)))
              go_wp2_with fail
              try simp only [Exit.inBlock, Exit.then]
              refine bodyPost_ret (results_tmp4 rfl _ _ _) rfl ?_
              exact ⟨Or.inr (Or.inl ⟨HL.out, rfl⟩), below_drawn (Below.refl _ _) _⟩
          · have z4 : ¬ (s.length : Int) < (i : Int) + 2 := by omega
            have z5 : (i : Int) + 2 ≤ (s.length : Int) := by omega
            have x3 : (bs s).extract (i + 2) s.length = bs (s.drop (i + 2)) := by rw [bs_cut, List.take_of_length_le (Nat.le_refl _)]
            have HL : Hid (lineC s = .num n i (s.drop (i + 2))) := Lib.hid (by rw [HN.out]; exact line_num HD.out hil HNB.out HBC.out hs2)
            clear hs2
            cases b0 with
            | true =>
              have z3 := z2 rfl
              clear z2
              go_upto_region 5 with fail
              go_quiet ((go_at_call 60; exact Calls.quiet_of_same (HP.out _)))
              go_upto_region 9 with fail
              go_quiet (fail)
              go_wp2_with fail
              try simp only [Exit.inBlock, Exit.then]
              refine bodyPost_ret (results_tmp4 rfl _ _ _) rfl ?_
              exact ⟨Or.inr (Or.inr ⟨n, i, _, HL.out, by first | rfl | (rw [← x3]; rfl)⟩), by first | exact below_drawn (Below.refl _ _) _ | exact below_drawn (below_drawn (Below.refl _ _) _) _⟩
            | false =>
              clear z2
              go_upto_region 5 with fail
              go_quiet ((go_at_call 60; exact Calls.quiet_of_same (HP.out _)))
              go_upto_region 9 with fail
              go_quiet (fail)
              go_wp2_with fail
              try simp only [Exit.inBlock, Exit.then]
              refine bodyPost_ret (results_tmp4 rfl _ _ _) rfl ?_
              exact ⟨Or.inr (Or.inr ⟨n, i, _, HL.out, by first | rfl | (rw [← x3]; rfl)⟩), by first | exact below_drawn (Below.refl _ _) _ | exact below_drawn (below_drawn (Below.refl _ _) _) _⟩
    · have hltz : ¬ (i : Int) < (s.length : Int) := by omega
      have HD : Hid (hexD s = s.take i) := Lib.hid (hexD_take hi4 HAL.out (Or.inl (by omega)))
      by_cases hbad : i = 0 ∧ s ≠ []
      · have z1 : ((i : Int) == 0) = true := by rw [hbad.1]; rfl
        have z2 : ((bs s).toList == []) = false := by rw [bs_list, beqL]; exact decide_eq_false hbad.2
        have HL : Hid (lineC s = .bad) := Lib.hid (line_bad0 HD.out hbad.1 hbad.2)
        clear hbad
        go_upto_region 5 with fail
        go_quiet (fail)
        go_wp2_with fail
        try simp only [Exit.inBlock, Exit.then]
        refine bodyPost_ret (results_tmp4 rfl _ _ _) rfl ?_
        exact ⟨Or.inl ⟨HL.out, _, rfl⟩, below_drawn (Below.refl _ _) _⟩
      have hz : (∃ b : Bool, ((i : Int) == 0) = b ∧ (b = true → ((bs s).toList == []) = true)) := ⟨_, rfl, fun h => by
        rw [bs_list, beqL]
        refine decide_eq_true (Classical.byContradiction fun hne => hbad ⟨by simpa using h, hne⟩)⟩
      obtain ⟨b0, z1, z2⟩ := hz
      have HNB := Lib.hid hbad
      clear hbad
      obtain ⟨m, hm⟩ : ∃ m, m = min 2 (s.length - i) := ⟨_, rfl⟩
      have hmz : min (2 : Int) ((s.length : Int) - (i : Int)) = (m : Int) := by omega
      have hm2 : (m : Int) ≤ 2 := by omega
      have x1 : (bs s).extract i s.length = bs (s.drop i) := by rw [bs_cut, List.take_of_length_le (Nat.le_refl _)]
      have x2 : (⟨#[13, 10]⟩ : ByteArray).extract 0 m = bs (CRLF.take m) := by
        have := bs_cut CRLF 0 m
        rw [List.drop_zero] at this
        exact this
      have HP0 : ∀ u, Calls Tryz.prog 60 #[.string (bs (s.drop i)), .string (bs (CRLF.take m))] u fun e w' => e = .returned (.bool (begCR (s.drop i))) ∧ w' = u := fun u => by
        have h1 := Tryz.strings_HasPrefix (bs (s.drop i)) (bs (CRLF.take m)) u
        rw [show (bs (s.drop i)).data.toList = s.drop i from rfl, show (bs (CRLF.take m)).data.toList = CRLF.take m from rfl, pre_crlf (by rw [hm, List.length_drop])] at h1
        exact h1
      have hzi : (0 : Int) ≤ (s.length : Int) - (i : Int) := by omega
      have xs2 : (⟨#[13, 10]⟩ : ByteArray).size = 2 := rfl
      generalize hBC : begCR (s.drop i) = bc at HP0
      have HP := Lib.hid HP0
      have HBC := Lib.hid hBC
      clear HP0 hBC hm
      cases bc with
      | false =>
        have HL : Hid (lineC s = .bad) := Lib.hid (line_bad1 HD.out hil HBC.out)
        cases b0 with
        | true =>
          have z3 := z2 rfl
          clear z2
          go_upto_region 5 with fail
          go_quiet ((go_at_call 60; exact Calls.quiet_of_same (HP.out _)))
          go_wp2_with fail
          try simp only [Exit.inBlock, Exit.then]
          refine bodyPost_ret (results_tmp4 rfl _ _ _) rfl ?_
          exact ⟨Or.inl ⟨HL.out, _, rfl⟩, below_drawn (Below.refl _ _) _⟩
        | false =>
          clear z2
          go_upto_region 5 with fail
          go_quiet ((go_at_call 60; exact Calls.quiet_of_same (HP.out _)))
          go_wp2_with fail
          try simp only [Exit.inBlock, Exit.then]
          refine bodyPost_ret (results_tmp4 rfl _ _ _) rfl ?_
          exact ⟨Or.inl ⟨HL.out, _, rfl⟩, below_drawn (Below.refl _ _) _⟩
      | true =>
        by_cases hs2 : s.length < i + 2
        · have z4 : (s.length : Int) < (i : Int) + 2 := by omega
          have HL : Hid (lineC s = .short) := Lib.hid (line_short HD.out hil HNB.out HBC.out hs2)
          clear hs2
          cases b0 with
          | true =>
            have z3 := z2 rfl
            clear z2
            go_upto_region 5 with fail
            go_quiet ((go_at_call 60; exact Calls.quiet_of_same (HP.out _)))
            go_wp2_with fail
            try simp only [Exit.inBlock, Exit.then]
            refine bodyPost_ret (results_tmp4 rfl _ _ _) rfl ?_
            exact ⟨Or.inr (Or.inl ⟨HL.out, rfl⟩), below_drawn (Below.refl _ _) _⟩
          | false =>
            clear z2
            go_upto_region 5 with fail
            go_quiet ((go_at_call 60; exact Calls.quiet_of_same (HP.out _)))
            go_wp2_with fail
            try simp only [Exit.inBlock, Exit.then]
            refine bodyPost_ret (results_tmp4 rfl _ _ _) rfl ?_
            exact ⟨Or.inr (Or.inl ⟨HL.out, rfl⟩), below_drawn (Below.refl _ _) _⟩
        · have z4 : ¬ (s.length : Int) < (i : Int) + 2 := by omega
          have z5 : (i : Int) + 2 ≤ (s.length : Int) := by omega
          have x3 : (bs s).extract (i + 2) s.length = bs (s.drop (i + 2)) := by rw [bs_cut, List.take_of_length_le (Nat.le_refl _)]
          have HL : Hid (lineC s = .num n i (s.drop (i + 2))) := Lib.hid (by rw [HN.out]; exact line_num HD.out hil HNB.out HBC.out hs2)
          clear hs2
          cases b0 with
          | true =>
            have z3 := z2 rfl
            clear z2
            go_upto_region 5 with fail
            go_quiet ((go_at_call 60; exact Calls.quiet_of_same (HP.out _)))
            go_upto_region 9 with fail
            go_quiet (fail)
            go_wp2_with fail
            try simp only [Exit.inBlock, Exit.then]
            refine bodyPost_ret (results_tmp4 rfl _ _ _) rfl ?_
            exact ⟨Or.inr (Or.inr ⟨n, i, _, HL.out, by first | rfl | (rw [← x3]; rfl)⟩), by first | exact below_drawn (Below.refl _ _) _ | exact below_drawn (below_drawn (Below.refl _ _) _) _⟩
          | false =>
            clear z2
            go_upto_region 5 with fail
            go_quiet ((go_at_call 60; exact Calls.quiet_of_same (HP.out _)))
            go_upto_region 9 with fail
            go_quiet (fail)
            go_wp2_with fail
            try simp only [Exit.inBlock, Exit.then]
            refine bodyPost_ret (results_tmp4 rfl _ _ _) rfl ?_
            exact ⟨Or.inr (Or.inr ⟨n, i, _, HL.out, by first | rfl | (rw [← x3]; rfl)⟩), by first | exact below_drawn (Below.refl _ _) _ | exact below_drawn (below_drawn (Below.refl _ _) _) _⟩
end Go.Proofs.YtipjkjcmceeaeaaGreatDoor
