/- ostiaryref01.Runes, ostiaryref06.printable, Fine: the walks (gen_zrfine2.py). -/
import Derived.Test.YtebhiplcoioenaaGreatDoorZZRFirst
import Derived.Test.YtebhiplcoioenaaGreatDoorZZRFine
import Derived.Test.YtebhiplcoioenaaGreatDoorZZUtf
import Derived.Test.YtebhiplcoioenaaGreatDoorZDL
namespace Go.Proofs.YtebhiplcoioenaaGreatDoor
open Go.RowKit

set_option maxRecDepth 100000 in
set_option maxHeartbeats 8000000 in
theorem RRunes_any (s : Bs) (w : World) (hs : s.length ≤ 1048576) : Calls Tryz.prog 93 #[.string (bs s)] w fun e w' => (∃ v, e = .returned (.tuple #[v, .bool (utfB s)])) ∧ Below w.heap.size w w' := by
  have zs := bs_size s
  obtain ⟨U, hU⟩ : ∃ U, U = utfB s := ⟨_, rfl⟩
  rw [← hU]
  have HU := Lib.hid hU
  have HO0 := Lib.hid (own_empty (w := w) (B := w.heap.size) (size := 1) (e := 3) (Nat.le_refl _))
  have HB0 := Lib.hid (b_alloc w (.cells #[] 3))
  clear hU
  go_enter Tryz.func93, Tryz.ntmps93
  go_upto_region 3 with fail
  go_loopg [4, 5, 6, 7] s.length (fun gg s4 s5 _ _ wr => ∃ (i : Nat) (l : List Nat) (v : Value), i ≤ s.length ∧ gg = s.length - i ∧ s4 = v ∧ s5 = .int .i64 i ∧
    Aside (OwnI w.heap.size wr v l) ∧ Aside (U = utfB (s.drop i)) ∧ Aside (l.length ≤ i) ∧ Aside (Below w.heap.size w wr))
  case atStart => exact ⟨0, [], _, by omega, rfl, rfl, rfl, HO0.out, HU.out, Nat.le_refl _, HB0.out⟩
  case round =>
    obtain ⟨i, l, v, hi, rfl, rfl, rfl, HO, HA, HN, HB⟩ := hrel
    clear HO0 HB0 HU
    by_cases hlt : i < s.length
    · have hltz : (i : Int) < (s.length : Int) := by omega
      obtain ⟨a, r, hd⟩ : ∃ a r, s.drop i = a :: r := by
        cases hd : s.drop i with
        | nil => have := congrArg List.length hd; rw [List.length_drop] at this; simp at this; omega
        | cons a r => exact ⟨a, r, rfl⟩
      have hst := utfB_step a r
      have hle := (rn_le (a :: r)).2
      have hdl : (a :: r).length = s.length - i := by rw [← hd, List.length_drop]
      have HCUT : Hid ((bs s).extract i s.length = bs (a :: r)) := Lib.hid (by rw [bs_cut, List.take_of_length_le (Nat.le_refl _), hd])
      have HF : Hid (∀ u, Calls Tryz.prog 112 #[.string ((bs s).extract i s.length)] u fun e w' => (∃ n : Nat, e = .returned (.tuple #[.int .i64 (n : Nat), .int .i64 (runeN (a :: r) : Nat)])) ∧ Below u.heap.size u w') := Lib.hid fun u => by
        rw [HCUT.out]
        exact First_any (a :: r) u (by omega)
      obtain ⟨q, hq⟩ : ∃ q, q = runeN (a :: r) := ⟨_, rfl⟩
      have HA2 : Hid (U = if runeN (a :: r) = 0 then false else utfB ((a :: r).drop (runeN (a :: r)))) := Lib.hid (by rw [HA.out, hd]; exact hst)
      rw [← hq] at HF HA2 hle
      rw [hdl] at hle
      have HDD : Hid ((a :: r).drop q = s.drop (i + q)) := Lib.hid (by rw [← hd, List.drop_drop])
      clear hst hd hdl hq HA
      go_upto_region 5 with (go_at_call 112; refine (HF.out _).mono ?_; rintro e w5 ⟨⟨n, rfl⟩, hb5⟩)
      by_cases hq0 : q = 0
      · subst hq0
        have HR : Hid (U = false) := Lib.hid (by rw [HA2.out, if_pos rfl])
        have hB := Lib.hid (HB.out.trans (hb5.mono HB.out.size))
        clear hb5
        go_wp2_with fail
        go_ret2
        rw [HR.out]
        exact ⟨⟨_, rfl⟩, hB.out⟩
      · have hqz : ((q : Int) == 0) = false := by simp; omega
        have hqp : 0 < q := by omega
        have HR : Hid (U = utfB (s.drop (i + q))) := Lib.hid (by rw [HA2.out, if_neg hq0, HDD.out])
        have hk : l.length + 1 ≤ 3000000 := by have := HN.out; omega
        have HLL : Hid ((l ++ [n]).length ≤ i + q) := Lib.hid (by rw [List.length_append]; have := HN.out; simp; omega)
        have HO2 := Lib.hid (own_keep HO.out hb5)
        have hB := Lib.hid (HB.out.trans (hb5.mono HB.out.size))
        clear HO HA2 hb5 hq0
        go_wp2_with (at_builtin; refine wp_snocI (w := w) (B := w.heap.size) rfl _ _ (by rfl) n (by rfl) (by rfl) HO2.out (Nat.le_refl _) hB.out hk ?_; intro v' w2 hO2 hB2)
        go_roundg (s.length - (i + q))
        case measure => omega
        case rel => exact ⟨i + q, l ++ [n], v', by omega, rfl, rfl, by go_num, hO2, HR.out, HLL.out, hB2⟩
    · have hltz : ¬ (i : Int) < (s.length : Int) := by omega
      have HR : Hid (U = true) := Lib.hid (by rw [HA.out, List.drop_of_length_le (by omega)]; rfl)
      go_wp2_with fail
      go_ret2
      rw [HR.out]
      exact ⟨⟨_, rfl⟩, HB.out⟩
set_option maxRecDepth 100000 in
set_option maxHeartbeats 8000000 in
theorem Printable_any (c : UInt8) (w : World) : Calls Tryz.prog 94 #[.int .u8 (c.toNat : Nat)] w fun e w' => e = .returned (.bool (printC c)) ∧ w' = w := by
  have hcl := c.toNat_lt
  have hz : (⟨#[32, 39, 40, 41, 43, 44, 45, 46, 47, 58, 61, 63]⟩ : ByteArray).size = 12 := rfl
  obtain ⟨L, hL⟩ : ∃ L : Bs, L = [32, 39, 40, 41, 43, 44, 45, 46, 47, 58, 61, 63] := ⟨_, rfl⟩
  have hLl : L.length = 12 := by rw [hL]; rfl
  have HG : Hid (∀ (k : Nat) x, L[k]? = some x → ∀ h, (⟨#[32, 39, 40, 41, 43, 44, 45, 46, 47, 58, 61, 63]⟩ : ByteArray)[k]'h = x) := Lib.hid fun k x hx h => by
    rw [hL] at hx
    exact bs_get [32, 39, 40, 41, 43, 44, 45, 46, 47, 58, 61, 63] k x hx h
  have HPC : Hid (printC c = (L.contains c || (decide (65 ≤ c.toNat) && decide (c.toNat ≤ 90)) || (decide (97 ≤ c.toNat) && decide (c.toNat ≤ 122)) || (decide (48 ≤ c.toNat) && decide (c.toNat ≤ 57)))) := Lib.hid (by rw [hL]; rfl)
  have HLC : Hid ([32, 39, 40, 41, 43, 44, 45, 46, 47, 58, 61, 63].contains c = L.contains c) := Lib.hid (by rw [hL])
  clear hL
  go_enter Tryz.func94, Tryz.ntmps94
  go_upto_region 2 with fail
  go_loopg [3] 12 (fun gg s3 wr => ∃ k : Nat, k + gg = 12 ∧ s3 = .int .i64 k ∧ Aside (∀ j x, j < k → L[j]? = some x → x ≠ c) ∧ wr = w)
  case atStart => exact ⟨0, rfl, rfl, fun j x h => absurd h (Nat.not_lt_zero _), rfl⟩
  case round =>
    obtain ⟨k, hk, rfl, HN, rfl⟩ := hrel
    cases gk with
    | succ gk =>
      have hkz : (k : Int) < 12 := by omega
      obtain ⟨x, hx⟩ : ∃ x, L[k]? = some x := ⟨L[k]'(by omega), List.getElem?_eq_getElem _⟩
      have hg := HG.out k x hx
      have HX := Lib.hid hx
      clear hx
      by_cases hxc : x = c
      · subst hxc
        have HP : Hid (printC x = true) := Lib.hid (by
          rw [HPC.out, List.contains_iff_mem.2 (List.mem_of_getElem? HX.out)]
          simp)
        clear HN
        go_wp2_with fail
        go_ret
        rw [HP.out]
        exact ⟨rfl, rfl⟩
      · have hxz : ((x.toNat : Int) == (c.toNat : Int)) = false := by
          have : x.toNat ≠ c.toNat := fun e => hxc (by rw [← u8_back x, e]; exact u8_back c)
          simp; omega
        have HN2 : Hid (∀ j y, j < k + 1 → L[j]? = some y → y ≠ c) := Lib.hid fun j y hj hy => by
          rcases Nat.lt_or_ge j k with h | h
          · exact HN.out j y h hy
          · obtain rfl : j = k := by omega
            rw [HX.out] at hy
            cases hy
            exact hxc
        clear HN hxc
        go_wp2_with fail
        go_roundg gk
        case measure => omega
        case rel => exact ⟨k + 1, by omega, by go_num, HN2.out, rfl⟩
    | zero =>
      have hkz : ¬ (k : Int) < 12 := by omega
      have HNO : Hid ([32, 39, 40, 41, 43, 44, 45, 46, 47, 58, 61, 63].contains c = false) := Lib.hid (by
        rw [HLC.out]
        cases h : L.contains c with
        | false => rfl
        | true =>
          obtain ⟨j, hj⟩ := List.getElem?_of_mem (List.contains_iff_mem.1 h)
          exact absurd rfl (HN.out j c (by have := (List.getElem?_eq_some_iff.1 hj).1; omega) hj))
      clear HN HG HPC HLC hz hLl
      by_cases h0 : c.toNat ≤ 47
      · skip
        have g65 : ¬ (65 : Int) ≤ (c.toNat : Int) := by omega
        have g97 : ¬ (97 : Int) ≤ (c.toNat : Int) := by omega
        have g48 : ¬ (48 : Int) ≤ (c.toNat : Int) := by omega
        have l90 : (c.toNat : Int) ≤ 90 := by omega
        have l122 : (c.toNat : Int) ≤ 122 := by omega
        have l57 : (c.toNat : Int) ≤ 57 := by omega
        have HP : Hid (printC c = false) := Lib.hid (by
          unfold printC
          rw [HNO.out]
          simp
          omega)
        clear HNO hk
        go_wp2_with fail
        go_ret
        rw [HP.out]
        exact ⟨rfl, rfl⟩
      · skip
        by_cases h1 : c.toNat ≤ 57
        · skip
          have g65 : ¬ (65 : Int) ≤ (c.toNat : Int) := by omega
          have g97 : ¬ (97 : Int) ≤ (c.toNat : Int) := by omega
          have g48 : (48 : Int) ≤ (c.toNat : Int) := by omega
          have l90 : (c.toNat : Int) ≤ 90 := by omega
          have l122 : (c.toNat : Int) ≤ 122 := by omega
          have l57 : (c.toNat : Int) ≤ 57 := by omega
          have HP : Hid (printC c = true) := Lib.hid (by
            unfold printC
            rw [HNO.out]
            simp
            omega)
          clear HNO hk
          go_wp2_with fail
          go_ret
          rw [HP.out]
          exact ⟨rfl, rfl⟩
        · skip
          by_cases h2 : c.toNat ≤ 64
          · skip
            have g65 : ¬ (65 : Int) ≤ (c.toNat : Int) := by omega
            have g97 : ¬ (97 : Int) ≤ (c.toNat : Int) := by omega
            have g48 : (48 : Int) ≤ (c.toNat : Int) := by omega
            have l90 : (c.toNat : Int) ≤ 90 := by omega
            have l122 : (c.toNat : Int) ≤ 122 := by omega
            have l57 : ¬ (c.toNat : Int) ≤ 57 := by omega
            have HP : Hid (printC c = false) := Lib.hid (by
              unfold printC
              rw [HNO.out]
              simp
              omega)
            clear HNO hk
            go_wp2_with fail
            go_ret
            rw [HP.out]
            exact ⟨rfl, rfl⟩
          · skip
            by_cases h3 : c.toNat ≤ 90
            · skip
              have g65 : (65 : Int) ≤ (c.toNat : Int) := by omega
              have g97 : ¬ (97 : Int) ≤ (c.toNat : Int) := by omega
              have g48 : (48 : Int) ≤ (c.toNat : Int) := by omega
              have l90 : (c.toNat : Int) ≤ 90 := by omega
              have l122 : (c.toNat : Int) ≤ 122 := by omega
              have l57 : ¬ (c.toNat : Int) ≤ 57 := by omega
              have HP : Hid (printC c = true) := Lib.hid (by
                unfold printC
                rw [HNO.out]
                simp
                omega)
              clear HNO hk
              go_wp2_with fail
              go_ret
              rw [HP.out]
              exact ⟨rfl, rfl⟩
            · skip
              by_cases h4 : c.toNat ≤ 96
              · skip
                have g65 : (65 : Int) ≤ (c.toNat : Int) := by omega
                have g97 : ¬ (97 : Int) ≤ (c.toNat : Int) := by omega
                have g48 : (48 : Int) ≤ (c.toNat : Int) := by omega
                have l90 : ¬ (c.toNat : Int) ≤ 90 := by omega
                have l122 : (c.toNat : Int) ≤ 122 := by omega
                have l57 : ¬ (c.toNat : Int) ≤ 57 := by omega
                have HP : Hid (printC c = false) := Lib.hid (by
                  unfold printC
                  rw [HNO.out]
                  simp
                  omega)
                clear HNO hk
                go_wp2_with fail
                go_ret
                rw [HP.out]
                exact ⟨rfl, rfl⟩
              · skip
                by_cases h5 : c.toNat ≤ 122
                · skip
                  have g65 : (65 : Int) ≤ (c.toNat : Int) := by omega
                  have g97 : (97 : Int) ≤ (c.toNat : Int) := by omega
                  have g48 : (48 : Int) ≤ (c.toNat : Int) := by omega
                  have l90 : ¬ (c.toNat : Int) ≤ 90 := by omega
                  have l122 : (c.toNat : Int) ≤ 122 := by omega
                  have l57 : ¬ (c.toNat : Int) ≤ 57 := by omega
                  have HP : Hid (printC c = true) := Lib.hid (by
                    unfold printC
                    rw [HNO.out]
                    simp
                    omega)
                  clear HNO hk
                  go_wp2_with fail
                  go_ret
                  rw [HP.out]
                  exact ⟨rfl, rfl⟩
                · skip
                  have g65 : (65 : Int) ≤ (c.toNat : Int) := by omega
                  have g97 : (97 : Int) ≤ (c.toNat : Int) := by omega
                  have g48 : (48 : Int) ≤ (c.toNat : Int) := by omega
                  have l90 : ¬ (c.toNat : Int) ≤ 90 := by omega
                  have l122 : ¬ (c.toNat : Int) ≤ 122 := by omega
                  have l57 : ¬ (c.toNat : Int) ≤ 57 := by omega
                  have HP : Hid (printC c = false) := Lib.hid (by
                    unfold printC
                    rw [HNO.out]
                    simp
                    omega)
                  clear HNO hk
                  go_wp2_with fail
                  go_ret
                  rw [HP.out]
                  exact ⟨rfl, rfl⟩
set_option maxRecDepth 100000 in
set_option maxHeartbeats 4000000 in
theorem rfine_1 (s : Bs) (w : World) (_hs : s.length ≤ 1048576) : Calls Tryz.prog 72 #[.int .i64 1, .string (bs s)] w (RetB (s == [0] || s == [255]) w) := by
  have zs := bs_size s
  have HX : Hid ((s == [0] || s == [255]) = ((bs s).toList == [0] || (bs s).toList == [255])) := Lib.hid (by rw [bs_list])
  rw [HX.out]
  generalize bs s = T at *
  clear HX
  cases h0 : (T.toList == [0]) with
  | true =>
    go_enter Tryz.func72, Tryz.ntmps72
    go_wp2_with fail
    go_ret
    exact ⟨rfl, Below.refl _ _⟩
  | false =>
    cases h1 : (T.toList == [255]) with
    | true =>
      go_enter Tryz.func72, Tryz.ntmps72
      go_wp2_with fail
      go_ret
      exact ⟨rfl, Below.refl _ _⟩
    | false =>
      go_enter Tryz.func72, Tryz.ntmps72
      go_wp2_with fail
      go_ret
      exact ⟨rfl, Below.refl _ _⟩
set_option maxRecDepth 100000 in
set_option maxHeartbeats 4000000 in
theorem rfine_4 (s : Bs) (w : World) (_hs : s.length ≤ 1048576) : Calls Tryz.prog 72 #[.int .i64 4, .string (bs s)] w (RetB true w) := by
  have zs := bs_size s
  go_enter Tryz.func72, Tryz.ntmps72
  go_wp2_with fail
  go_ret
  exact ⟨rfl, Below.refl _ _⟩
set_option maxRecDepth 100000 in
set_option maxHeartbeats 4000000 in
theorem rfine_5 (s : Bs) (w : World) (_hs : s.length ≤ 1048576) : Calls Tryz.prog 72 #[.int .i64 5, .string (bs s)] w (RetB s.isEmpty w) := by
  cases s with
  | nil =>
    have zs := bs_size ([] : Bs)
    go_enter Tryz.func72, Tryz.ntmps72
    go_wp2_with fail
    go_ret
    exact ⟨rfl, Below.refl _ _⟩
  | cons a r =>
    have zs := bs_size (a :: r)
    have hlen : (a :: r).length = r.length + 1 := rfl
    have hn1 : (((r.length : Nat) : Int) + 1 == 0) = false := by simp; omega
    go_enter Tryz.func72, Tryz.ntmps72
    go_wp2_with fail
    go_ret
    exact ⟨rfl, Below.refl _ _⟩
set_option maxRecDepth 100000 in
set_option maxHeartbeats 4000000 in
theorem rfine_12 (s : Bs) (w : World) (hs : s.length ≤ 1048576) : Calls Tryz.prog 72 #[.int .i64 12, .string (bs s)] w (RetB (utfB s) w) := by
  have HRU := Lib.hid (RRunes_any s w hs)
  have zs := bs_size s
  go_enter Tryz.func72, Tryz.ntmps72
  go_wp2_with (go_at_call 93; refine (HRU.out).mono ?_; rintro e w3 ⟨⟨V, rfl⟩, hb3⟩)
  go_ret
  exact ⟨rfl, hb3⟩
set_option maxRecDepth 100000 in
set_option maxHeartbeats 4000000 in
theorem rfine_19 (s : Bs) (w : World) (hs : s.length ≤ 1048576) : Calls Tryz.prog 72 #[.int .i64 19, .string (bs s)] w (RetB (s.all printC) w) := by
  have zs := bs_size s
  obtain ⟨A, hA⟩ : ∃ A, A = s.all printC := ⟨_, rfl⟩
  rw [← hA]
  have HA := Lib.hid hA
  clear hA
  go_enter Tryz.func72, Tryz.ntmps72
  go_upto_region 26 with fail
  go_loopg [11] s.length (fun gg s6 wr => ∃ k : Nat, k + gg = s.length ∧ s6 = .int .i64 k ∧ Aside (∀ j x, j < k → s[j]? = some x → printC x = true) ∧ wr = w)
  case atStart => exact ⟨0, by omega, rfl, fun j x h => absurd h (Nat.not_lt_zero _), rfl⟩
  case round =>
    obtain ⟨k, hk, rfl, HN, rfl⟩ := hrel
    cases gk with
    | succ gk =>
      have hkl : k < s.length := by omega
      have hkz : (k : Int) < (s.length : Int) := by omega
      obtain ⟨x, hx⟩ : ∃ x, s[k]? = some x := ⟨s[k], List.getElem?_eq_getElem hkl⟩
      have hg := bs_get s k x hx
      have HX := Lib.hid hx
      clear hx
      cases hp : printC x with
      | false =>
        have HR : Hid (A = false) := Lib.hid (by
          rw [HA.out]
          cases h : s.all printC with
          | false => rfl
          | true => exact absurd (hp.symm.trans (List.all_eq_true.1 h x (List.mem_of_getElem? HX.out))) (by decide))
        have HC : Hid (∀ u, Calls Tryz.prog 94 #[.int .u8 (x.toNat : Nat)] u fun e w' => e = .returned (.bool false) ∧ w' = u) := Lib.hid fun u => by rw [← hp]; exact Printable_any x u
        clear HN hp
        go_wp2_with (go_at_call 94; refine (HC.out _).mono ?_; rintro e wc ⟨rfl, rfl⟩)
        go_ret
        rw [HR.out]
        exact ⟨rfl, Below.refl _ _⟩
      | true =>
        have HN2 : Hid (∀ j y, j < k + 1 → s[j]? = some y → printC y = true) := Lib.hid fun j y hj hy => by
          rcases Nat.lt_or_ge j k with h | h
          · exact HN.out j y h hy
          · obtain rfl : j = k := by omega
            rw [HX.out] at hy
            cases hy
            exact hp
        have HC : Hid (∀ u, Calls Tryz.prog 94 #[.int .u8 (x.toNat : Nat)] u fun e w' => e = .returned (.bool true) ∧ w' = u) := Lib.hid fun u => by rw [← hp]; exact Printable_any x u
        clear HN hp
        go_wp2_with (go_at_call 94; refine (HC.out _).mono ?_; rintro e wc ⟨rfl, rfl⟩)
        go_roundg gk
        case measure => omega
        case rel => exact ⟨k + 1, by omega, by go_num, HN2.out, rfl⟩
    | zero =>
      obtain rfl : k = s.length := by omega
      have hkz : ¬ ((s.length : Nat) : Int) < (s.length : Int) := by omega
      have HR : Hid (A = true) := Lib.hid (by
        rw [HA.out]
        refine List.all_eq_true.2 fun x hx => ?_
        obtain ⟨j, hj⟩ := List.getElem?_of_mem hx
        exact HN.out j x (List.getElem?_eq_some_iff.1 hj).1 hj)
      go_wp2_with fail
      go_ret
      rw [HR.out]
      exact ⟨rfl, Below.refl _ _⟩
set_option maxRecDepth 100000 in
set_option maxHeartbeats 4000000 in
theorem rfine_22 (s : Bs) (w : World) (hs : s.length ≤ 1048576) : Calls Tryz.prog 72 #[.int .i64 22, .string (bs s)] w (RetB (s.all (fun c => decide (c.toNat < 128))) w) := by
  have zs := bs_size s
  obtain ⟨A, hA⟩ : ∃ A, A = s.all (fun c => decide (c.toNat < 128)) := ⟨_, rfl⟩
  rw [← hA]
  have HA := Lib.hid hA
  clear hA
  go_enter Tryz.func72, Tryz.ntmps72
  go_upto_region 33 with fail
  go_loopg [12] s.length (fun gg s6 wr => ∃ k : Nat, k + gg = s.length ∧ s6 = .int .i64 k ∧ Aside (∀ j x, j < k → s[j]? = some x → (fun c => decide (c.toNat < 128)) x = true) ∧ wr = w)
  case atStart => exact ⟨0, by omega, rfl, fun j x h => absurd h (Nat.not_lt_zero _), rfl⟩
  case round =>
    obtain ⟨k, hk, rfl, HN, rfl⟩ := hrel
    cases gk with
    | succ gk =>
      have hkl : k < s.length := by omega
      have hkz : (k : Int) < (s.length : Int) := by omega
      obtain ⟨x, hx⟩ : ∃ x, s[k]? = some x := ⟨s[k], List.getElem?_eq_getElem hkl⟩
      have hg := bs_get s k x hx
      have HX := Lib.hid hx
      clear hx
      cases hp : (fun c => decide (c.toNat < 128)) x with
      | false =>
        have HR : Hid (A = false) := Lib.hid (by
          rw [HA.out]
          cases h : s.all (fun c => decide (c.toNat < 128)) with
          | false => rfl
          | true => exact absurd (hp.symm.trans (List.all_eq_true.1 h x (List.mem_of_getElem? HX.out))) (by decide))
        have hxz : (128 : Int) ≤ (x.toNat : Int) := by have := of_decide_eq_false hp; omega
        clear HN hp
        go_wp2_with fail
        go_ret
        rw [HR.out]
        exact ⟨rfl, Below.refl _ _⟩
      | true =>
        have HN2 : Hid (∀ j y, j < k + 1 → s[j]? = some y → (fun c => decide (c.toNat < 128)) y = true) := Lib.hid fun j y hj hy => by
          rcases Nat.lt_or_ge j k with h | h
          · exact HN.out j y h hy
          · obtain rfl : j = k := by omega
            rw [HX.out] at hy
            cases hy
            exact hp
        have hxz : ¬ (128 : Int) ≤ (x.toNat : Int) := by have := of_decide_eq_true hp; omega
        clear HN hp
        go_wp2_with fail
        go_roundg gk
        case measure => omega
        case rel => exact ⟨k + 1, by omega, by go_num, HN2.out, rfl⟩
    | zero =>
      obtain rfl : k = s.length := by omega
      have hkz : ¬ ((s.length : Nat) : Int) < (s.length : Int) := by omega
      have HR : Hid (A = true) := Lib.hid (by
        rw [HA.out]
        refine List.all_eq_true.2 fun x hx => ?_
        obtain ⟨j, hj⟩ := List.getElem?_of_mem hx
        exact HN.out j x (List.getElem?_eq_some_iff.1 hj).1 hj)
      go_wp2_with fail
      go_ret
      rw [HR.out]
      exact ⟨rfl, Below.refl _ _⟩
theorem RFine_any (t : Int) (ht : primL.contains t = true) (s : Bs) (w : World) (hs : s.length ≤ 1048576) : Calls Tryz.prog 72 #[.int .i64 t, .string (bs s)] w (RetB (fineS t s) w) := by
  have hSB := SB_eq
  have hm : t ∈ primL := List.contains_iff_mem.1 ht
  simp only [primL, List.mem_cons, List.not_mem_nil, or_false] at hm
  rcases hm with rfl | rfl | rfl | rfl | rfl | rfl | rfl | rfl | rfl | rfl | rfl
  · exact rfine_1 s w hs
  · exact rfine_2 s w (by omega)
  · exact rfine_3 s w (by omega)
  · exact rfine_4 s w hs
  · exact rfine_5 s w hs
  · exact rfine_6 s w _ (fun u3 _ => (RGroups_any s u3 hs).mono fun e w' hh => by
      obtain ⟨⟨V, h1, _⟩, h2⟩ := hh
      exact ⟨⟨V, h1⟩, h2⟩)
  · exact rfine_12 s w hs
  · exact rfine_19 s w hs
  · exact rfine_22 s w hs
  · exact rfine_t 23 (Or.inl rfl) s w _ (fun u3 _ => (rmom_any 23 (Or.inl rfl) s u3 (by omega)).mono fun e w' hh => ⟨⟨_, hh.1⟩, hh.2⟩)
  · exact rfine_t 24 (Or.inr rfl) s w _ (fun u3 _ => (rmom_any 24 (Or.inr rfl) s u3 (by omega)).mono fun e w' hh => ⟨⟨_, hh.1⟩, hh.2⟩)
end Go.Proofs.YtebhiplcoioenaaGreatDoor
