/- NatRing: the walk. -/
import Derived.Test.YtbmhiejggkdnkaaDoorLawKit2
namespace Go.Proofs.YtbmhiejggkdnkaaDoor
open Go.RowKit

set_option maxRecDepth 100000 in
set_option maxHeartbeats 6400000 in
theorem law_any (a b c : ByteArray) (w : World) (ha : a.size ≤ 140737488351232) (hb : b.size ≤ 140737488351232) (hc : c.size ≤ 140737488351232) :
    Calls Tryd.prog 8 #[.string a, .string b, .string c] w fun e w' => e = .returned (.bool true) ∧ Below w.heap.size w w' := by
  by_cases hl : 510 < a.size + b.size + c.size
  · go_enter Tryd.func8, Tryd.ntmps8
    go_wp2_with fail
    refine (fixed_any _).mono ?_
    rintro e w1 ⟨rfl, hb1⟩
    go_wp2_with fail
    go_ret
    exact ⟨rfl, hb1⟩
  · obtain ⟨A, hA⟩ : ∃ A, A = nv a := ⟨_, rfl⟩
    obtain ⟨B, hB⟩ : ∃ B, B = nv b := ⟨_, rfl⟩
    obtain ⟨C, hC⟩ : ∃ C, C = nv c := ⟨_, rfl⟩
    have hAl : A < 256 ^ a.size := by rw [hA]; exact nv_size a
    have hBl : B < 256 ^ b.size := by rw [hB]; exact nv_size b
    have hCl : C < 256 ^ c.size := by rw [hC]; exact nv_size c
    have HA := Lib.hid hA.symm; have HB := Lib.hid hB.symm; have HC := Lib.hid hC.symm
    have HAl := Lib.hid hAl; have HBl := Lib.hid hBl; have HCl := Lib.hid hCl
    clear hA hB hC hAl hBl hCl
    have hsl : (tx (A + B)).size ≤ 511 := tx_add HAl.out HBl.out (by omega) (by omega)
    have hsl2 : A + B < 256 ^ (a.size + b.size + 1) := by
      have h1 := Nat.lt_of_lt_of_le HAl.out (pow_mono (show a.size ≤ a.size + b.size by omega))
      have h2 := Nat.lt_of_lt_of_le HBl.out (pow_mono (show b.size ≤ a.size + b.size by omega))
      rw [Nat.pow_succ]; omega
    have hx : (tx (A * C)).size ≤ 510 := tx_mul HAl.out HCl.out (by omega)
    have hy : (tx (C * B)).size ≤ 510 := tx_mul HCl.out HBl.out (by omega)
    have hm : (tx (A * B)).size ≤ 510 := tx_mul HAl.out HBl.out (by omega)
    have ho : (tx (B * C)).size ≤ 510 := tx_mul HBl.out HCl.out (by omega)
    have HS := Lib.hid hsl; have HX := Lib.hid hx; have HY := Lib.hid hy; have HM := Lib.hid hm; have HO := Lib.hid ho
    clear hsl hsl2 hx hy hm ho
    go_enter Tryd.func8, Tryd.ntmps8
    go_wp2_with fail
    refine (fixed_any _).mono ?_
    rintro e w1 ⟨rfl, hb1⟩
    go_wp2_with fail
    refine (add_ok a b A B _ (by omega) (by omega) HA.out HB.out).mono ?_
    rintro e w2 ⟨rfl, hb2⟩
    have hb2 := hb1.trans (hb2.mono hb1.size); clear hb1
    unfold okT
    go_wp2_with fail
    refine (add_ok b a B A _ (by omega) (by omega) HB.out HA.out).mono ?_
    rintro e w3 ⟨rfl, hb3⟩
    have hb3 := hb2.trans (hb3.mono hb2.size); clear hb2
    rw [Nat.add_comm B A]
    unfold okT
    go_wp2_with fail
    refine (sub_ok _ b (A + B) B _ (by have := HS.out; omega) (by omega) (nv_tx _) HB.out (by omega)).mono ?_
    rintro e w4 ⟨rfl, hb4⟩
    have hb4 := hb3.trans (hb4.mono hb3.size); clear hb3
    rw [Nat.add_sub_cancel]
    unfold okT
    go_wp2_with fail
    refine (mul_ok _ c (A + B) C _ (by have := HS.out; omega) (by omega) (nv_tx _) HC.out).mono ?_
    rintro e w5 ⟨rfl, hb5⟩
    have hb5 := hb4.trans (hb5.mono hb4.size); clear hb4
    unfold okT
    go_wp2_with fail
    refine (mul_ok a c A C _ (by omega) (by omega) HA.out HC.out).mono ?_
    rintro e w6 ⟨rfl, hb6⟩
    have hb6 := hb5.trans (hb6.mono hb5.size); clear hb5
    unfold okT
    go_wp2_with fail
    refine (mul_ok c b C B _ (by omega) (by omega) HC.out HB.out).mono ?_
    rintro e w7 ⟨rfl, hb7⟩
    have hb7 := hb6.trans (hb7.mono hb6.size); clear hb6
    unfold okT
    go_wp2_with fail
    refine (add_ok _ _ (A * C) (C * B) _ (by have := HX.out; omega) (by have := HY.out; omega) (nv_tx _) (nv_tx _)).mono ?_
    rintro e w8 ⟨rfl, hb8⟩
    have hb8 := hb7.trans (hb8.mono hb7.size); clear hb7
    rw [Nat.mul_comm C B, ← Nat.add_mul]
    unfold okT
    go_wp2_with fail
    refine (trim_ok a A _ HA.out).mono ?_
    rintro e w9 ⟨rfl, rfl⟩
    go_wp2_with fail
    refine (mul_ok a b A B _ (by omega) (by omega) HA.out HB.out).mono ?_
    rintro e w10 ⟨rfl, hb10⟩
    have hb10 := hb8.trans (hb10.mono hb8.size); clear hb8
    unfold okT
    go_wp2_with fail
    refine (mul_ok _ c (A * B) C _ (by have := HM.out; omega) (by omega) (nv_tx _) HC.out).mono ?_
    rintro e w11 ⟨rfl, hb11⟩
    have hb11 := hb10.trans (hb11.mono hb10.size); clear hb10
    unfold okT
    go_wp2_with fail
    refine (mul_ok b c B C _ (by omega) (by omega) HB.out HC.out).mono ?_
    rintro e w12 ⟨rfl, hb12⟩
    have hb12 := hb11.trans (hb12.mono hb11.size); clear hb11
    unfold okT
    go_wp2_with fail
    refine (mul_ok a _ A (B * C) _ (by omega) (by have := HO.out; omega) HA.out (nv_tx _)).mono ?_
    rintro e w13 ⟨rfl, hb13⟩
    have hb13 := hb12.trans (hb13.mono hb12.size); clear hb12
    rw [← Nat.mul_assoc]
    unfold okT
    go_wp2_with fail
    by_cases hB0 : B = 0
    · subst hB0
      refine (div_no a b _ (by omega) (by omega) HB.out).mono ?_
      rintro e w14 ⟨rfl, hb14⟩
      have hb14 := hb13.trans (hb14.mono hb13.size); clear hb13
      go_wp2_with fail
      refine (trim_ok b 0 _ HB.out).mono ?_
      rintro e w15 ⟨rfl, rfl⟩
      have ht : tx 0 = ⟨#[]⟩ := by unfold tx; rw [fm_zero]
      rw [ht]
      go_wp2_with fail
      go_ret
      exact ⟨rfl, hb14⟩
    · have hBp : 0 < B := by omega
      have HBP := Lib.hid hBp; clear hBp hB0
      refine (div_ok a b A B _ (by omega) (by omega) HA.out HB.out HBP.out).mono ?_
      rintro e w14 ⟨rfl, hb14⟩
      have hb14 := hb13.trans (hb14.mono hb13.size); clear hb13
      go_wp2_with fail
      refine (trim_ok b B _ HB.out).mono ?_
      rintro e w15 ⟨rfl, rfl⟩
      have htb : (tx B).toList.isEmpty = false := by
        rw [Lib.toList_data]
        show (fm B).isEmpty = false
        obtain ⟨x, r, hf, _⟩ := top_bits B HBP.out
        rw [hf]; rfl
      go_wp2_with fail
      have hq : (tx (A / B)).size ≤ 510 := Nat.le_trans (tx_le (Nat.lt_of_le_of_lt (Nat.div_le_self _ _) HAl.out)) (by omega)
      refine (mul_ok _ b (A / B) B _ (by omega) (by omega) (nv_tx _) HB.out).mono ?_
      rintro e w16 ⟨rfl, hb16⟩
      have hb16 := hb14.trans (hb16.mono hb14.size); clear hb14
      unfold okT
      go_wp2_with fail
      have hv : (tx (A / B * B)).size ≤ 510 := Nat.le_trans (tx_le (Nat.lt_of_le_of_lt (Nat.div_mul_le_self _ _) HAl.out)) (by omega)
      have hr : (tx (A % B)).size ≤ 510 := Nat.le_trans (tx_le (Nat.lt_of_le_of_lt (Nat.mod_le _ _) HAl.out)) (by omega)
      refine (add_ok _ _ (A / B * B) (A % B) _ (by omega) (by omega) (nv_tx _) (nv_tx _)).mono ?_
      rintro e w17 ⟨rfl, hb17⟩
      have hb17 := hb16.trans (hb17.mono hb16.size); clear hb16
      rw [Nat.div_add_mod']
      unfold okT
      have hcm : cmpN (A % B) B = -1 := cmpN_lt (Nat.mod_lt _ HBP.out)
      go_wp2_with (first
        | (go_at_call 18; refine (trim_ok a A _ HA.out).mono ?_; rintro e w18 ⟨rfl, rfl⟩)
        | (go_at_call 25; refine (cmp_ok _ b (A % B) B _ (nv_tx _) HB.out).mono ?_; rintro e w19 ⟨rfl, q, rfl⟩; rw [hcm]))
      go_ret
      exact ⟨rfl, below_drawn hb17 q⟩
end Go.Proofs.YtbmhiejggkdnkaaDoor
