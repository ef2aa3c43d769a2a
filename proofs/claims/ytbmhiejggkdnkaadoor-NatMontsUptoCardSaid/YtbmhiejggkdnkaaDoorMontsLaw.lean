/- NatMonts: the walk. -/
import Derived.Test.YtbmhiejggkdnkaaDoorRLong
import Derived.Test.YtbmhiejggkdnkaaDoorZeros
namespace Go.Proofs.YtbmhiejggkdnkaaDoor
open Go.RowKit

/-- What Mont answers, by the document's cases: the text x, the error n. -/
theorem mont_s (a b m : ByteArray) (A B M : Nat) (w : World) (ha : a.size ≤ 140737488351232) (hb : b.size ≤ 140737488351232) (hm : m.size ≤ 140737488351232) (hA : nv a = A) (hB : nv b = B) (hM : nv m = M) :
    Calls Tryd.prog 10 #[.string a, .string b, .string m] w fun e w' => ∃ (x : ByteArray) (n : Int), e = .returned (.tuple #[.string x, .int .i64 n]) ∧ Hid (
      if 512 < a.size ∨ 512 < b.size ∨ 512 < m.size then x = ⟨#[]⟩ ∧ n = 30 else if M = 0 then x = ⟨#[]⟩ ∧ n = 31 else if M % 2 = 0 then x = ⟨#[]⟩ ∧ n = 34 else n = 0 ∧ ∃ u, u < M ∧ u * 256 ^ Dg.len 256 M % M = A * B % M ∧ x = tx u) ∧ Below w.heap.size w w' := by
  refine (Mont_any a b m w (by omega) (by omega) (by omega)).mono ?_
  rintro e w' ⟨⟨l, n, rfl, h⟩, hb⟩
  refine ⟨⟨l.toArray⟩, n, rfl, ?_, hb⟩
  unfold MontR at h
  rw [hA, hB, hM] at h
  show (if 512 < a.size ∨ 512 < b.size ∨ 512 < m.size then _ else _)
  by_cases h1 : 512 < a.size ∨ 512 < b.size ∨ 512 < m.size
  · rw [if_pos h1] at h ⊢; exact ⟨by rw [h.1], h.2⟩
  · rw [if_neg h1] at h ⊢
    by_cases h2 : M = 0
    · rw [if_pos h2] at h ⊢; exact ⟨by rw [h.1], h.2⟩
    · rw [if_neg h2] at h ⊢
      by_cases h3 : M % 2 = 0
      · rw [if_pos h3] at h ⊢; exact ⟨by rw [h.1], h.2⟩
      · rw [if_neg h3] at h ⊢
        obtain ⟨hn, u, h4, h5, h6⟩ := h
        exact ⟨hn, u, h4, h5, by rw [h6]; rfl⟩

theorem dg_parity' (x : Nat) : Dg.dg DB x 0 % 2 = x % 2 := by
  unfold Dg.dg
  rw [Nat.pow_zero, Nat.div_one, DB_eq]
  omega

set_option maxRecDepth 100000 in
set_option maxHeartbeats 6400000 in
theorem law_any (a b m : ByteArray) (w : World) (ha : a.size ≤ 1048576) (hb : b.size ≤ 1048576) (hm : m.size ≤ 1048576) :
    Calls Tryd.prog 3 #[.string a, .string b, .string m] w fun e w' => e = .returned (.bool true) ∧ Below w.heap.size w w' := by
  obtain ⟨A, hA⟩ : ∃ A, A = nv a := ⟨_, rfl⟩
  obtain ⟨B, hB⟩ : ∃ B, B = nv b := ⟨_, rfl⟩
  obtain ⟨M, hM⟩ : ∃ M, M = nv m := ⟨_, rfl⟩
  have HA := Lib.hid hA.symm; have HB := Lib.hid hB.symm; have HM := Lib.hid hM.symm
  clear hA hB hM
  by_cases hl : 512 < a.size ∨ 512 < b.size ∨ 512 < m.size
  · have hd := decide_eq_true hl
    have HD := Lib.hid hd; have HLO := Lib.hid hl; clear hd hl
    go_enter Tryd.func3, Tryd.ntmps3
    go_wp2_with fail
    refine (mont_s a b m A B M _ (by omega) (by omega) (by omega) HA.out HB.out HM.out).mono ?_
    rintro e w1 ⟨x, n, rfl, hx, hb1⟩
    have h := hx.out
    rw [if_pos HLO.out] at h
    obtain ⟨rfl, rfl⟩ := h
    go_wp2_with fail
    refine (fixed_any _).mono ?_
    rintro e w2 ⟨rfl, hb2⟩
    have hb2 := hb1.trans (hb2.mono hb1.size); clear hb1
    go_wp2_with fail
    refine (of_ok m M _ (by omega) HM.out).mono ?_
    rintro e w3 ⟨no, nn, nc, rfl, hn, hb3⟩
    have hb3 := hb2.trans (hb3.mono hb2.size); clear hb2
    go_wp2_with fail
    refine (long_three a b m _ _ (by simp) (by omega) (by omega) (by omega)).mono ?_
    rintro e w4 ⟨rfl, rfl⟩
    rw [HD.out]
    go_wp2_with fail
    go_ret
    exact ⟨rfl, hb3.alloc hb3.size _⟩
  · have hd := decide_eq_false hl
    have hsa : a.size ≤ 512 := by omega
    have hsb : b.size ≤ 512 := by omega
    have hsm : m.size ≤ 512 := by omega
    have HD := Lib.hid hd; have HLO := Lib.hid hl; clear hd hl
    obtain ⟨K, hK⟩ : ∃ K, K = 256 := ⟨_, rfl⟩
    have hK1 : K ≤ 256 := by omega
    have hK2 : 256 ≤ K := by omega
    clear hK
    have hAl : A < 256 ^ (2 * K) := by rw [← HA.out]; exact Nat.lt_of_lt_of_le (nv_size a) (pow_mono (by omega))
    have hBl : B < 256 ^ (2 * K) := by rw [← HB.out]; exact Nat.lt_of_lt_of_le (nv_size b) (pow_mono (by omega))
    have hMl : M < 256 ^ (2 * K) := by rw [← HM.out]; exact Nat.lt_of_lt_of_le (nv_size m) (pow_mono (by omega))
    have HAl := Lib.hid hAl; have HBl := Lib.hid hBl; have HMl := Lib.hid hMl; clear hAl hBl hMl
    by_cases hM0 : M = 0
    · have HM0 := Lib.hid hM0; clear hM0
      go_enter Tryd.func3, Tryd.ntmps3
      go_wp2_with fail
      refine (mont_s a b m A B M _ (by omega) (by omega) (by omega) HA.out HB.out HM.out).mono ?_
      rintro e w1 ⟨x, n, rfl, hx, hb1⟩
      have h := hx.out
      rw [if_neg HLO.out, if_pos HM0.out] at h
      obtain ⟨rfl, rfl⟩ := h
      go_wp2_with fail
      refine (fixed_any _).mono ?_
      rintro e w2 ⟨rfl, hb2⟩
      have hb2 := hb1.trans (hb2.mono hb1.size); clear hb1
      go_wp2_with fail
      refine (of_ok m M _ (by omega) HM.out).mono ?_
      rintro e w3 ⟨no, nn, nc, rfl, hn, hb3⟩
      have hn0 : nn = 0 := (rn_zero hn).2 HM0.out
      have hb3 := hb2.trans (hb3.mono hb2.size); clear hb2
      subst hn0
      go_wp2_with fail
      refine (long_three a b m _ _ (by simp) (by omega) (by omega) (by omega)).mono ?_
      rintro e w4 ⟨rfl, rfl⟩
      rw [HD.out]
      go_wp2_with fail
      go_ret
      exact ⟨rfl, hb3.alloc hb3.size _⟩
    · have HMP := Lib.hid (show 0 < M by omega); have HM0 := Lib.hid hM0; clear hM0
      obtain ⟨d, hd⟩ : ∃ d, d = Dg.dg DB M 0 := ⟨_, rfl⟩
      have hdl : d < 65536 := by rw [hd]; exact Dg.dg_lt DBpos _ _
      have hdp : d % 2 = M % 2 := by rw [hd]; exact dg_parity' M
      have HDD := Lib.hid hd; clear hd
      by_cases hev : M % 2 = 0
      · have hbb : (((d : Int) % 2) == 0) = true := by rw [beq_iff_eq]; omega
        have HEV := Lib.hid hev; clear hev hdp
        go_enter Tryd.func3, Tryd.ntmps3
        go_wp2_with fail
        refine (mont_s a b m A B M _ (by omega) (by omega) (by omega) HA.out HB.out HM.out).mono ?_
        rintro e w1 ⟨x, n, rfl, hx, hb1⟩
        have h := hx.out
        rw [if_neg HLO.out, if_neg HM0.out, if_pos HEV.out] at h
        obtain ⟨rfl, rfl⟩ := h
        go_wp2_with fail
        refine (fixed_any _).mono ?_
        rintro e w2 ⟨rfl, hb2⟩
        have hb2 := hb1.trans (hb2.mono hb1.size); clear hb1
        go_wp2_with fail
        refine (of_ok m M _ (by omega) HM.out).mono ?_
        rintro e w3 ⟨no, nn, nc, rfl, hn, hb3⟩
        have hn0 : 0 < nn := by have := rn_zero hn; have := HM0.out; omega
        have hb3 := hb2.trans (hb3.mono hb2.size); clear hb2
        go_wp2_with fail
        refine (long_three a b m _ _ (by simp) (by omega) (by omega) (by omega)).mono ?_
        rintro e w4 ⟨rfl, rfl⟩
        rw [HD.out]
        have hb34 : Below w3.heap.size w3 (w3.alloc (.cells #[.string a, .string b, .string m] 9)) := (Below.refl _ _).alloc (Nat.le_refl _) _
        have hn := hn.below hb34 (Nat.le_refl _)
        have hcl := hn.rd.cell 0 hn0
        rw [Nat.add_zero, ← HDD.out] at hcl
        have hsh := hn.rd.sh
        go_wp2_with fail
        go_ret
        exact ⟨rfl, hb3.alloc hb3.size _⟩
      · have hbb : (((d : Int) % 2) == 0) = false := by rw [beq_eq_false_iff_ne]; omega
        have HEV := Lib.hid hev; clear hev hdp
        obtain ⟨T, hT⟩ : ∃ T, T = Dg.len 256 M := ⟨_, rfl⟩
        have hTs : (tx M).size = T := by rw [tx_size, hT]
        have hTl : T ≤ 2 * K := by rw [hT]; exact (Dg.len_le_iff (by omega) _ _).2 HMl.out
        have hzs : (zs T).size ≤ 512 := by rw [zs_size]; omega
        obtain ⟨pw, hpw⟩ : ∃ pw, pw = (⟨#[1]⟩ ++ zs T : ByteArray) := ⟨_, rfl⟩
        obtain ⟨R, hR⟩ : ∃ R, R = 256 ^ T := ⟨_, rfl⟩
        have hpn : nv pw = R := by rw [hpw, hR]; exact nv_one_zs T
        have hps : pw.size ≤ 513 := by rw [hpw, app_size, zs_size]; show 1 + T ≤ 513; omega
        have hRl : R < 256 ^ (2 * (K + 1)) := by rw [← hpn]; exact Nat.lt_of_lt_of_le (nv_size pw) (pow_mono (by omega))
        have HT := Lib.hid hT; have HTS := Lib.hid hTs; have HPW := Lib.hid hpw.symm; have HR := Lib.hid hR; have HPN := Lib.hid hpn; have HRL := Lib.hid hRl
        clear hT hTs hpw hR hpn hRl
        go_enter Tryd.func3, Tryd.ntmps3
        go_wp2_with fail
        refine (mont_s a b m A B M _ (by omega) (by omega) (by omega) HA.out HB.out HM.out).mono ?_
        rintro e w1 ⟨x, n, rfl, hx, hb1⟩
        have h := hx.out
        rw [if_neg HLO.out, if_neg HM0.out, if_neg HEV.out, ← HT.out, ← HR.out] at h
        obtain ⟨rfl, u, hul, hui, rfl⟩ := h
        have hus : (tx u).size ≤ 2 * K := tx_le (Nat.lt_trans hul HMl.out)
        have hcu : cmpN u M = -1 := cmpN_lt hul
        have HUL := Lib.hid hul; have HUI := Lib.hid hui; have HCU := Lib.hid hcu; clear hx hul hui hcu
        go_wp2_with fail
        refine (fixed_any _).mono ?_
        rintro e w2 ⟨rfl, hb2⟩
        have hb2 := hb1.trans (hb2.mono hb1.size); clear hb1
        go_wp2_with fail
        refine (of_ok m M _ (by omega) HM.out).mono ?_
        rintro e w3 ⟨no, nn, nc, rfl, hn, hb3⟩
        have hn0 : 0 < nn := by have := rn_zero hn; have := HM0.out; omega
        have hnn : nn ≤ K := rn_of_lt hn HMl.out
        have hb3 := hb2.trans (hb3.mono hb2.size); clear hb2
        go_wp2_with fail
        refine (long_three a b m _ _ (by simp) (by omega) (by omega) (by omega)).mono ?_
        rintro e w4 ⟨rfl, rfl⟩
        rw [HD.out]
        obtain ⟨W4, hW4⟩ : ∃ W4, W4 = w3.alloc (.cells #[.string a, .string b, .string m] 9) := ⟨_, rfl⟩
        have hb34 : Below w3.heap.size w3 W4 := by rw [hW4]; exact (Below.refl _ _).alloc (Nat.le_refl _) _
        rw [← hW4]
        have hn := hn.below hb34 (Nat.le_refl _)
        have hcl := hn.rd.cell 0 hn0
        rw [Nat.add_zero, ← HDD.out] at hcl
        have hsh := hn.rd.sh
        have hb4 := hb3.trans (hb34.mono hb3.size); clear hb3 hb34 hW4
        go_wp2_with fail
        refine (of_ok (tx u) u _ (by omega) (nv_tx u)).mono ?_
        rintro e w5 ⟨yo, yn, yc, rfl, hy, hb5⟩
        have hyn : yn ≤ K := rn_of_lt hy (Nat.lt_trans HUL.out HMl.out)
        have hn := hn.below hb5 (Nat.le_refl _)
        have hb5 := hb4.trans (hb5.mono hb4.size); clear hb4 hcl
        go_wp2_with fail
        refine (form_ok _ _ _ _ _ hn (by omega)).mono ?_
        rintro e w6 ⟨rfl, hb6⟩
        have hn := hn.below hb6 (Nat.le_refl _); have hy := hy.below hb6 (Nat.le_refl _)
        have hb6 := hb5.trans (hb6.mono hb5.size); clear hb5
        have hTS := HTS.out
        go_wp2_with (refine wpList_make_row _ rfl (.tmp 61) (.tmp 61) _ rfl 5 .u8 1 Tryd.underlying31 info8 .i64 .i64 _ _ T rfl rfl (by omega) (by omega) (by omega) (by omega) ?_; intro g2 w7 hg2 hown7 hb7; have hcv7 := run_string_zeros hown7)
        rw [HPW.out]
        have hn := hn.below hb7 (Nat.le_refl _); have hy := hy.below hb7 (Nat.le_refl _)
        have hb7 := hb6.trans (hb7.mono hb6.size); clear hb6 hown7 hcv7 hTS
        refine (of_ok pw R _ (by omega) HPN.out).mono ?_
        rintro e w8 ⟨ro, rn, rc, rfl, hr, hb8⟩
        have hrn : rn ≤ K + 1 := rn_of_lt hr HRL.out
        have hn := hn.below hb8 (Nat.le_refl _); have hy := hy.below hb8 (Nat.le_refl _)
        have hb8 := hb7.trans (hb8.mono hb7.size); clear hb7
        go_wp2_with fail
        refine (form_ok _ _ _ _ _ hy (by omega)).mono ?_
        rintro e w9 ⟨rfl, hb9⟩
        have hn := hn.below hb9 (Nat.le_refl _); have hy := hy.below hb9 (Nat.le_refl _); have hr := hr.below hb9 (Nat.le_refl _)
        have hb9 := hb8.trans (hb9.mono hb8.size); clear hb8
        go_wp2_with fail
        refine (rcmp_ok _ _ _ _ _ _ u M _ hy hn).mono ?_
        rintro e w10 ⟨rfl, hb10⟩
        have hn := hn.below hb10 (Nat.le_refl _); have hy := hy.below hb10 (Nat.le_refl _); have hr := hr.below hb10 (Nat.le_refl _)
        have hb10 := hb9.trans (hb10.mono hb9.size); clear hb9
        rw [HCU.out]
        go_wp2_with fail
        refine (rtimes_any _ _ _ _ _ _ u R _ hy hr (by omega) (by omega)).mono ?_
        rintro e w11 ⟨po, pn, pc, rfl, hp, hb11⟩
        have hpn : pn ≤ 2 * K + 1 := rn_of_lt hp (by
          have h := Nat.mul_lt_mul'' (Nat.lt_trans HUL.out HMl.out) HRL.out
          rw [← Nat.pow_add, show 2 * K + 2 * (K + 1) = 2 * (2 * K + 1) from by omega] at h; exact h)
        have hn := hn.below hb11 (Nat.le_refl _)
        have hb11 := hb10.trans (hb11.mono hb10.size); clear hb10 hy hr
        go_wp2_with fail
        refine (rleft_any _ _ _ _ _ _ (u * R) M _ hp hn HMP.out (by omega) (by omega)).mono ?_
        rintro e w12 ⟨qo, qn, qc, rfl, hq, hb12⟩
        rw [HUI.out] at hq
        have hn := hn.below hb12 (Nat.le_refl _)
        have hb12 := hb11.trans (hb12.mono hb11.size); clear hb11 hp
        go_wp2_with fail
        refine (of_ok a A _ (by omega) HA.out).mono ?_
        rintro e w13 ⟨ao, an, ac, rfl, hav, hb13⟩
        have han : an ≤ K := rn_of_lt hav HAl.out
        have hn := hn.below hb13 (Nat.le_refl _); have hq := hq.below hb13 (Nat.le_refl _)
        have hb13 := hb12.trans (hb13.mono hb12.size); clear hb12
        go_wp2_with fail
        refine (of_ok b B _ (by omega) HB.out).mono ?_
        rintro e w14 ⟨bo, bn, bc, rfl, hbv, hb14⟩
        have hbn : bn ≤ K := rn_of_lt hbv HBl.out
        have hn := hn.below hb14 (Nat.le_refl _); have hq := hq.below hb14 (Nat.le_refl _); have hav := hav.below hb14 (Nat.le_refl _)
        have hb14 := hb13.trans (hb14.mono hb13.size); clear hb13
        go_wp2_with fail
        refine (rtimes_any _ _ _ _ _ _ A B _ hav hbv (by omega) (by omega)).mono ?_
        rintro e w15 ⟨so, sn, sc, rfl, hs, hb15⟩
        have hsn : sn ≤ 2 * K := rn_of_lt hs (by
          have h := Nat.mul_lt_mul'' HAl.out HBl.out
          rw [← Nat.pow_add, show 2 * K + 2 * K = 2 * (2 * K) from by omega] at h; exact h)
        have hn := hn.below hb15 (Nat.le_refl _); have hq := hq.below hb15 (Nat.le_refl _)
        have hb15 := hb14.trans (hb15.mono hb14.size); clear hb14 hav hbv
        go_wp2_with fail
        refine (rleft_any _ _ _ _ _ _ (A * B) M _ hs hn HMP.out (by omega) (by omega)).mono ?_
        rintro e w16 ⟨vo, vn, vc, rfl, hv, hb16⟩
        have hq := hq.below hb16 (Nat.le_refl _)
        have hb16 := hb15.trans (hb16.mono hb15.size); clear hb15 hs
        go_wp2_with fail
        refine (rcmp_ok _ _ _ _ _ _ (A * B % M) (A * B % M) _ hq hv).mono ?_
        rintro e w17 ⟨rfl, hb17⟩
        have hb17 := hb16.trans (hb17.mono hb16.size); clear hb16
        rw [cmpN_eq]
        go_wp2_with fail
        go_ret
        exact ⟨rfl, hb17⟩
end Go.Proofs.YtbmhiejggkdnkaaDoor
