/- NatRounds: the walk. -/
import Derived.Test.YtbmhiejggkdnkaaDoorZeros
import Derived.Test.YtbmhiejggkdnkaaDoorRKit
namespace Go.Proofs.YtbmhiejggkdnkaaDoor
open Go.RowKit

theorem odd_co {M : Nat} (h : M % 2 = 1) (k : Nat) : Nat.Coprime M (256 ^ k) := by
  have h2 : Nat.Coprime M 2 := by
    unfold Nat.Coprime
    rw [Nat.gcd_comm, Nat.gcd_rec, h]; rfl
  have h3 : Nat.Coprime M 256 := by rw [show (256 : Nat) = 2 ^ 8 from rfl]; exact h2.pow_right 8
  exact h3.pow_right k
theorem rnd_in {A M R x : Nat} (co : Nat.Coprime M R) (hM : 0 < M) (hx : x < M) (h : x * R % M = A * (R * R) % M) : x = A * R % M :=
  cancel co (by rw [h, Nat.mod_mul_mod, Nat.mul_assoc]) hx (Nat.mod_lt _ hM)
theorem rnd_mul {A B M R x y z : Nat} (co : Nat.Coprime M R) (hM : 0 < M) (hz : z < M) (hx : x = A * R % M) (hy : y = B * R % M) (h : z * R % M = x * y % M) : z = A * B * R % M := by
  refine cancel co ?_ hz (Nat.mod_lt _ hM)
  rw [h, hx, hy, ← Nat.mul_mod, Nat.mod_mul_mod]
  congr 1
  simp only [Nat.mul_comm, Nat.mul_left_comm]
theorem rnd_out {A M R x z : Nat} (co : Nat.Coprime M R) (hM : 0 < M) (hz : z < M) (hx : x = A * R % M) (h : z * R % M = x * 1 % M) : z = A % M := by
  refine cancel co ?_ hz (Nat.mod_lt _ hM)
  rw [h, hx, Nat.mul_one, Nat.mod_mod, Nat.mod_mul_mod]

set_option maxRecDepth 100000 in
set_option maxHeartbeats 6400000 in
theorem law_any (a b m : ByteArray) (w : World) (ha : a.size ≤ 140737488351232) (hb : b.size ≤ 140737488351232) (hm : m.size ≤ 140737488351232) :
    Calls Tryd.prog 4 #[.string a, .string b, .string m] w fun e w' => e = .returned (.bool true) ∧ Below w.heap.size w w' := by
  obtain ⟨M, hM⟩ : ∃ M, M = nv m := ⟨_, rfl⟩
  have HM := Lib.hid hM.symm; clear hM
  by_cases hM0 : M = 0
  · have HM0 := Lib.hid hM0; clear hM0
    go_enter Tryd.func4, Tryd.ntmps4
    go_wp2_with fail
    refine (fixed_any _).mono ?_
    rintro e w1 ⟨rfl, hb1⟩
    go_wp2_with fail
    refine (trim_ok m M _ HM.out).mono ?_
    rintro e wt ⟨rfl, rfl⟩
    rw [HM0.out, tx_zero]
    go_wp2_with fail
    go_ret
    exact ⟨rfl, hb1⟩
  · have hMp : 0 < M := by omega
    have HMP := Lib.hid hMp; clear hMp hM0
    obtain ⟨tm, htm⟩ : ∃ tm, tm = tx M := ⟨_, rfl⟩
    have hmn : nv tm = M := by rw [htm]; exact nv_tx M
    obtain ⟨K, hK⟩ : ∃ K, K = Dg.len 256 M := ⟨_, rfl⟩
    have hsz : tm.size = K := by rw [htm, tx_size, hK]
    have hne : tm.toList.isEmpty = false := by rw [htm]; exact tx_pos HMP.out
    have hK0 : 0 < K := by rw [hK]; exact (Dg.len_pos_iff (by omega) M).2 HMP.out
    have hKm : K ≤ m.size := by rw [hK]; exact (Dg.len_le_iff (by omega) _ _).2 (by rw [← HM.out]; exact nv_size m)
    obtain ⟨c, hc⟩ : ∃ c, c = M % 256 := ⟨_, rfl⟩
    have hlast : tm.data.toList[K - 1]? = some (UInt8.ofNat c) := by
      have e : tm.data.toList = fm (M / 256) ++ [UInt8.ofNat (M % 256)] := by rw [htm]; exact fm_pos HMP.out
      have hl : K - 1 = (fm (M / 256)).length := by rw [fm_length, hK, Dg.len_pos (by omega) HMP.out]; rfl
      rw [e, hl, hc]; simp
    have hix : ∀ W : World, (Instr.index 9 (.string tm) (.int .i64 ((K : Int) - 1))).run Tryd.prog W = .ok (.int .u8 (c : Nat)) W := fun W => by
      have e : ((K : Int) - 1).toNat = K - 1 := by omega
      have e0 : 1 ≤ (K : Int) := by omega
      have h2 : tm.data[K - 1]? = some (UInt8.ofNat c) := by rw [← Array.getElem?_toList]; exact hlast
      have h3 : tm[K - 1]? = some (UInt8.ofNat c) := h2
      have h4 : (UInt8.ofNat c).toNat = c := toNat_ofNat8 _ (by rw [hc]; exact Nat.mod_lt _ (by omega))
      simp [Instr.index, asIntOf, run_underlying Tryd.underlying9, e, e0, h3, h4]
    have hcl : c < 256 := by rw [hc]; exact Nat.mod_lt _ (by omega)
    have hcM : c % 2 = M % 2 := by rw [hc]; omega
    have htt : ∀ w : World, Calls Tryd.prog 18 #[.string m] w fun e w' => e = .returned (.string tm) ∧ w = w' := fun w => by rw [htm]; exact trim_ok m M w HM.out
    have HTT := Lib.hid htt; have HMN := Lib.hid hmn; have HK := Lib.hid hK; have HCM := Lib.hid hcM
    clear htt hmn hK hcM hlast hc htm
    by_cases hod : c % 2 = 0
    · have hev : (((c : Int) % 2) == 0) = true := by rw [beq_iff_eq]; omega
      clear hod
      go_enter Tryd.func4, Tryd.ntmps4
      go_wp2_with fail
      refine (fixed_any _).mono ?_
      rintro e w1 ⟨rfl, hb1⟩
      go_wp2_with fail
      refine (HTT.out _).mono ?_
      rintro e wt ⟨rfl, rfl⟩
      go_wp2_with fail
      go_ret
      exact ⟨rfl, hb1⟩
    · have hev : (((c : Int) % 2) == 0) = false := by rw [beq_eq_false_iff_ne]; omega
      have hMo : M % 2 = 1 := by have := HCM.out; omega
      have HMO := Lib.hid hMo; clear hod hMo
      by_cases hk : 120 < K
      · go_enter Tryd.func4, Tryd.ntmps4
        go_wp2_with fail
        refine (fixed_any _).mono ?_
        rintro e w1 ⟨rfl, hb1⟩
        go_wp2_with fail
        refine (HTT.out _).mono ?_
        rintro e wt ⟨rfl, rfl⟩
        go_wp2_with fail
        go_ret
        exact ⟨rfl, hb1⟩
      · by_cases hab : 200 < a.size + b.size
        · go_enter Tryd.func4, Tryd.ntmps4
          go_wp2_with fail
          refine (fixed_any _).mono ?_
          rintro e w1 ⟨rfl, hb1⟩
          go_wp2_with fail
          refine (HTT.out _).mono ?_
          rintro e wt ⟨rfl, rfl⟩
          go_wp2_with fail
          go_ret
          exact ⟨rfl, hb1⟩
        · obtain ⟨A, hA⟩ : ∃ A, A = nv a := ⟨_, rfl⟩
          obtain ⟨B, hB⟩ : ∃ B, B = nv b := ⟨_, rfl⟩
          have hAl : A < 256 ^ a.size := by rw [hA]; exact nv_size a
          have hBl : B < 256 ^ b.size := by rw [hB]; exact nv_size b
          obtain ⟨r, hr⟩ : ∃ r, r = (⟨#[1]⟩ ++ zs K : ByteArray) := ⟨_, rfl⟩
          obtain ⟨R, hR⟩ : ∃ R, R = 256 ^ K := ⟨_, rfl⟩
          have hrn : nv r = R := by rw [hr, hR]; exact nv_one_zs K
          have hrs : r.size ≤ 121 := by rw [hr, app_size, zs_size]; show 1 + K ≤ 121; omega
          have hrr : (tx (R * R)).size ≤ 242 := tx_mul (j := 121) (k := 121) (by rw [← hrn]; exact Nat.lt_of_lt_of_le (nv_size r) (pow_mono hrs)) (by rw [← hrn]; exact Nat.lt_of_lt_of_le (nv_size r) (pow_mono hrs)) (by omega)
          have hMl : M < 256 ^ 120 := Nat.lt_of_lt_of_le (Dg.lt_pow_len (B := 256) (by omega) M) (pow_mono (by rw [← HK.out]; omega))
          have hab2 : (tx (A * B)).size ≤ 200 := tx_mul hAl hBl (by omega)
          have hco : Nat.Coprime M R := by rw [hR]; exact odd_co HMO.out K
          have hlt : ∀ x, x < M → (tx x).size ≤ 120 := fun x hx => tx_le (Nat.lt_trans hx hMl)
          have hKR : 256 ^ Dg.len 256 M = R := by rw [← HK.out, hR]
          have hzs : (zs K).size ≤ 120 := by rw [zs_size]; omega
          have HA := Lib.hid hA.symm; have HB := Lib.hid hB.symm; have HR := Lib.hid hr.symm; have HRN := Lib.hid hrn; have HRR := Lib.hid hrr; have HAB := Lib.hid hab2; have HCO := Lib.hid hco; have HLT := Lib.hid hlt; have HKR := Lib.hid hKR
          clear hA hB hAl hBl hr hR hrn hrr hMl hab2 hco hlt hKR
          go_enter Tryd.func4, Tryd.ntmps4
          go_wp2_with fail
          refine (fixed_any _).mono ?_
          rintro e w1 ⟨rfl, hb1⟩
          go_wp2_with fail
          refine (HTT.out _).mono ?_
          rintro e wt ⟨rfl, rfl⟩
          go_wp2_with (refine wpList_make_row _ rfl (.tmp 57) (.tmp 57) _ rfl 5 .u8 1 Tryd.underlying31 info8 .i64 .i64 _ _ K rfl rfl (by omega) (by omega) (by omega) (by omega) ?_; intro g2 w2 hg2 hown2 hb2; have hcv2 := run_string_zeros hown2)
          rw [HR.out]
          have hb2 := hb1.trans (hb2.mono hb1.size); clear hb1 hown2 hcv2
          refine (mul_ok r r R R _ (by omega) (by omega) HRN.out HRN.out).mono ?_
          rintro e w3 ⟨rfl, hb3⟩
          have hb3 := hb2.trans (hb3.mono hb2.size); clear hb2
          unfold okT
          go_wp2_with fail
          refine (mont_ok a _ tm A (R * R) M _ (by omega) (by have := HRR.out; omega) (by omega) HA.out (nv_tx _) HMN.out HMO.out).mono ?_
          rintro e w4 ⟨x, rfl, hxl, hxe, hb4⟩
          have hb4 := hb3.trans (hb4.mono hb3.size); clear hb3
          rw [HKR.out] at hxe
          have hxv := rnd_in HCO.out HMP.out hxl hxe
          have hxs := HLT.out x hxl
          have HX := Lib.hid hxv; clear hxv hxl hxe
          unfold okT
          go_wp2_with fail
          refine (mont_ok b _ tm B (R * R) M _ (by omega) (by have := HRR.out; omega) (by omega) HB.out (nv_tx _) HMN.out HMO.out).mono ?_
          rintro e w5 ⟨y, rfl, hyl, hye, hb5⟩
          have hb5 := hb4.trans (hb5.mono hb4.size); clear hb4
          rw [HKR.out] at hye
          have hyv := rnd_in HCO.out HMP.out hyl hye
          have hys := HLT.out y hyl
          have HY := Lib.hid hyv; clear hyv hyl hye
          unfold okT
          go_wp2_with fail
          refine (mont_ok _ _ tm x y M _ (by omega) (by omega) (by omega) (nv_tx _) (nv_tx _) HMN.out HMO.out).mono ?_
          rintro e w6 ⟨z, rfl, hzl, hze, hb6⟩
          have hb6 := hb5.trans (hb6.mono hb5.size); clear hb5
          rw [HKR.out] at hze
          have hzv := rnd_mul HCO.out HMP.out hzl HX.out HY.out hze
          have hzs2 := HLT.out z hzl
          have HZ := Lib.hid hzv; clear hzv hzl hze
          unfold okT
          go_wp2_with fail
          refine (mont_ok _ ⟨#[1]⟩ tm z 1 M _ (by omega) (by decide) (by omega) (nv_tx _) rfl HMN.out HMO.out).mono ?_
          rintro e w7 ⟨u, rfl, hul, hue, hb7⟩
          have hb7 := hb6.trans (hb7.mono hb6.size); clear hb6
          rw [HKR.out] at hue
          have huv := rnd_out HCO.out HMP.out hul HZ.out hue
          have HU := Lib.hid huv; clear huv hul hue
          unfold okT
          go_wp2_with fail
          refine (mont_ok _ ⟨#[1]⟩ tm x 1 M _ (by omega) (by decide) (by omega) (nv_tx _) rfl HMN.out HMO.out).mono ?_
          rintro e w8 ⟨v, rfl, hvl, hve, hb8⟩
          have hb8 := hb7.trans (hb8.mono hb7.size); clear hb7
          rw [HKR.out] at hve
          have hvv := rnd_out HCO.out HMP.out hvl HX.out hve
          have HV := Lib.hid hvv; clear hvv hvl hve
          unfold okT
          go_wp2_with fail
          refine (mul_ok a b A B _ (by omega) (by omega) HA.out HB.out).mono ?_
          rintro e w9 ⟨rfl, hb9⟩
          have hb9 := hb8.trans (hb9.mono hb8.size); clear hb8
          unfold okT
          go_wp2_with fail
          refine (div_ok _ tm (A * B) M _ (by have := HAB.out; omega) (by omega) (nv_tx _) HMN.out HMP.out).mono ?_
          rintro e w10 ⟨rfl, hb10⟩
          have hb10 := hb9.trans (hb10.mono hb9.size); clear hb9
          rw [← HU.out]
          go_wp2_with fail
          refine (div_ok a tm A M _ (by omega) (by omega) HA.out HMN.out HMP.out).mono ?_
          rintro e w11 ⟨rfl, hb11⟩
          have hb11 := hb10.trans (hb11.mono hb10.size); clear hb10
          rw [← HV.out]
          go_wp2_with fail
          go_ret
          exact ⟨rfl, hb11⟩
end Go.Proofs.YtbmhiejggkdnkaaDoor
