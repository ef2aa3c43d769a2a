/- NatForms: the walk. -/
import Derived.Test.YtbmhiejggkdnkaaDoorRKit
namespace Go.Proofs.YtbmhiejggkdnkaaDoor
open Go.RowKit

theorem padR_no (a : ByteArray) (A : Nat) (n : Int) (hA : nv a = A) (h : n < 0 ∨ 512 < n ∨ n < ((tx A).size : Int)) : PadR a n = ([], 35) := by
  unfold PadR
  rw [hA, ← tx_size, if_pos h]
theorem padR_yes (a : ByteArray) (A : Nat) (n : Int) (hA : nv a = A) (h : ¬ (n < 0 ∨ 512 < n ∨ n < ((tx A).size : Int))) : ∃ s : ByteArray, (PadR a n).1 = s.data.toList ∧ (PadR a n).2 = 0 ∧ (s.size : Int) = n ∧ nv s = A := by
  unfold PadR
  rw [hA, ← tx_size, if_neg h]
  refine ⟨⟨(List.replicate (n.toNat - (tx A).size) 0 ++ fm A).toArray⟩, rfl, rfl, ?_, ?_⟩
  · rw [str_size, List.length_append, List.length_replicate, fm_length, ← tx_size]; omega
  · show bv (List.replicate (n.toNat - (tx A).size) 0 ++ fm A) = A
    rw [bv_append, bv_fm]
    have : ∀ k, bv (List.replicate k 0) = 0 := by
      intro k
      induction k with
      | zero => rfl
      | succ k ih => rw [List.replicate_succ, bv_cons, ih]; simp
    rw [this]; simp

set_option maxRecDepth 100000 in
set_option maxHeartbeats 6400000 in
theorem law_any (a b : ByteArray) (n : Int) (w : World) (ha : a.size ≤ 140737488351232) (hb : b.size ≤ 140737488351232) (hn1 : -9223372036854775808 ≤ n) (hn2 : n ≤ 9223372036854775807) :
    Calls Tryd.prog 6 #[.string a, .string b, .int .i64 n] w fun e w' => e = .returned (.bool true) ∧ Below w.heap.size w w' := by
  by_cases h1 : 4000 < a.size
  · go_enter Tryd.func6, Tryd.ntmps6
    go_wp2_with fail
    refine (fixed_any _).mono ?_
    rintro e w1 ⟨rfl, hb1⟩
    go_wp2_with fail
    go_ret
    exact ⟨rfl, hb1⟩
  · by_cases h2 : 4000 < b.size
    · go_enter Tryd.func6, Tryd.ntmps6
      go_wp2_with fail
      refine (fixed_any _).mono ?_
      rintro e w1 ⟨rfl, hb1⟩
      go_wp2_with fail
      go_ret
      exact ⟨rfl, hb1⟩
    · obtain ⟨A, hA⟩ : ∃ A, A = nv a := ⟨_, rfl⟩
      obtain ⟨B, hB⟩ : ∃ B, B = nv b := ⟨_, rfl⟩
      have hAl : A < 256 ^ a.size := by rw [hA]; exact nv_size a
      have hzl : (tx A).size ≤ 4000 := Nat.le_trans (tx_le hAl) (by omega)
      have hp1 : nv (⟨#[0]⟩ ++ a) = A := by rw [hA]; exact nv_pre [0] a rfl
      have hp2 : nv (⟨#[0, 0]⟩ ++ a) = A := by rw [hA]; exact nv_pre [0, 0] a rfl
      have hps1 : ((⟨#[0]⟩ : ByteArray) ++ a).size ≤ 4001 := by simp; show 1 + a.size ≤ 4001; omega
      have hps2 : ((⟨#[0, 0]⟩ : ByteArray) ++ a).size ≤ 4002 := by simp; show 2 + a.size ≤ 4002; omega
      obtain ⟨z, hz⟩ : ∃ z, z = cmpN A B := ⟨_, rfl⟩
      have HA := Lib.hid hA.symm; have HB := Lib.hid hB.symm; have HP1 := Lib.hid hp1; have HP2 := Lib.hid hp2; have HZ := Lib.hid hz; have HPS1 := Lib.hid hps1; have HPS2 := Lib.hid hps2
      have hc0 := cmpN_eq A
      have HC0 := Lib.hid hc0
      clear hA hB hAl hp1 hp2 hz hc0 hps1 hps2
      go_enter Tryd.func6, Tryd.ntmps6
      go_wp2_with fail
      refine (of_ok a A _ (by omega) HA.out).mono ?_
      rintro e w1 ⟨xo, xn, xc, rfl, hx, hb1⟩
      go_wp2_with fail
      refine (of_ok b B _ (by omega) HB.out).mono ?_
      rintro e w2 ⟨yo, yn, yc, rfl, hy, hb2⟩
      have hx := hx.below hb2 (Nat.le_refl _)
      have hb2 := hb1.trans (hb2.mono hb1.size); clear hb1
      have hxn : xn ≤ a.size := rn_of_lt hx (Nat.lt_of_lt_of_le (by rw [← HA.out]; exact nv_size a) (pow_mono (by omega)))
      go_wp2_with fail
      refine (fixed_any _).mono ?_
      rintro e w3 ⟨rfl, hb3⟩
      have hx := hx.below hb3 (Nat.le_refl _); have hy := hy.below hb3 (Nat.le_refl _)
      have hb3 := hb2.trans (hb3.mono hb2.size); clear hb2
      go_wp2_with fail
      refine (trim_ok a A _ HA.out).mono ?_
      rintro e wt ⟨rfl, rfl⟩
      go_wp2_with fail
      refine (form_ok _ _ _ _ _ hx (by omega)).mono ?_
      rintro e w4 ⟨rfl, hb4⟩
      have hx := hx.below hb4 (Nat.le_refl _); have hy := hy.below hb4 (Nat.le_refl _)
      have hb4 := hb3.trans (hb4.mono hb3.size); clear hb3
      go_wp2_with fail
      refine (bits_okB a A _ (by omega) HA.out).mono ?_
      rintro e w5 ⟨rfl, hb5⟩
      have hx := hx.below hb5 (Nat.le_refl _); have hy := hy.below hb5 (Nat.le_refl _)
      have hb5 := hb4.trans (hb5.mono hb4.size); clear hb4
      go_wp2_with fail
      refine (bits_any _ _ _ A _ hx (by omega)).mono ?_
      rintro e wt ⟨rfl, rfl⟩
      go_wp2_with fail
      refine (cmp_okB a b A B _ HA.out HB.out).mono ?_
      rintro e w6 ⟨rfl, hb6⟩
      have hx := hx.below hb6 (Nat.le_refl _); have hy := hy.below hb6 (Nat.le_refl _)
      have hb6 := hb5.trans (hb6.mono hb5.size); clear hb5
      rw [← HZ.out]
      go_wp2_with fail
      refine (rcmp_ok _ _ _ _ _ _ A B _ hx hy).mono ?_
      rintro e w7 ⟨rfl, hb7⟩
      have hx := hx.below hb7 (Nat.le_refl _)
      have hb7 := hb6.trans (hb7.mono hb6.size); clear hb6 hy
      rw [← HZ.out]
      go_wp2_with fail
      refine (cmp_okB _ a A A _ HP1.out HA.out).mono ?_
      rintro e w8 ⟨rfl, hb8⟩
      have hx := hx.below hb8 (Nat.le_refl _)
      have hb8 := hb7.trans (hb8.mono hb7.size); clear hb7
      rw [HC0.out]
      go_wp2_with fail
      refine (bits_okB _ A _ (by have := HPS2.out; omega) HP2.out).mono ?_
      rintro e w9 ⟨rfl, hb9⟩
      have hx := hx.below hb9 (Nat.le_refl _)
      have hb9 := hb8.trans (hb9.mono hb8.size); clear hb8
      go_wp2_with fail
      refine (bits_okB a A _ (by omega) HA.out).mono ?_
      rintro e w10 ⟨rfl, hb10⟩
      have hx := hx.below hb10 (Nat.le_refl _)
      have hb10 := hb9.trans (hb10.mono hb9.size); clear hb9
      go_wp2_with fail
      refine (Pad_any a n _ (by omega)).mono ?_
      rintro e w11 ⟨rfl, hb11⟩
      have hx := hx.below hb11 (Nat.le_refl _)
      have hb11 := hb10.trans (hb11.mono hb10.size); clear hb10
      obtain ⟨K, hK⟩ : ∃ K, K = (tx A).size := ⟨_, rfl⟩
      rw [← hK] at hzl
      by_cases hbad : n < 0 ∨ 512 < n ∨ n < (K : Int)
      · rw [padR_no a A n HA.out (by rw [← hK]; exact hbad)]
        have HK := Lib.hid hK.symm; clear hK
        unfold ret2
        by_cases hn0 : n < 0
        · clear hbad
          go_wp2_with fail
          go_ret
          exact ⟨rfl, hb11⟩
        · by_cases hn5 : 512 < n
          · clear hbad
            go_wp2_with fail
            go_ret
            exact ⟨rfl, hb11⟩
          · have hnk : n < (K : Int) := by omega
            clear hbad
            go_wp2_with fail
            refine (form_ok _ _ _ _ _ hx (by omega)).mono ?_
            rintro e w12 ⟨rfl, hb12⟩
            have hb12 := hb11.trans (hb12.mono hb11.size); clear hb11
            have hK2 := HK.out
            go_wp2_with fail
            go_ret
            exact ⟨rfl, hb12⟩
      · obtain ⟨s, hs1, hs2, hs3, hs4⟩ := padR_yes a A n HA.out (by rw [← hK]; exact hbad)
        rw [hs1, hs2]
        have es : (ByteArray.mk s.data.toList.toArray) = s := rfl
        unfold ret2
        rw [es]
        have HK := Lib.hid hK.symm; have HS3 := Lib.hid hs3; have HS4 := Lib.hid hs4; clear hK hs1 hs2 hs3 hs4 es
        have hq1 : ¬ n < 0 := by omega
        have hq2 : ¬ 512 < n := by omega
        have hq3 : ¬ n < (K : Int) := by omega
        clear hbad
        go_wp2_with fail
        refine (form_ok _ _ _ _ _ hx (by omega)).mono ?_
        rintro e w12 ⟨rfl, hb12⟩
        have hb12 := hb11.trans (hb12.mono hb11.size); clear hb11
        have hK2 := HK.out
        have hS3 := HS3.out
        go_wp2_with fail
        refine (cmp_okB s a A A _ HS4.out HA.out).mono ?_
        rintro e w13 ⟨rfl, hb13⟩
        have hb13 := hb12.trans (hb13.mono hb12.size); clear hb12
        rw [HC0.out]
        go_wp2_with fail
        go_ret
        exact ⟨rfl, hb13⟩
end Go.Proofs.YtbmhiejggkdnkaaDoor
