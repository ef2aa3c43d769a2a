/- NatInverses: the walk. -/
import Derived.Test.YtbmhiejggkdnkaaGreatDoorRLong
import Derived.Test.YtbmhiejggkdnkaaGreatDoorRPow
namespace Go.Proofs.YtbmhiejggkdnkaaGreatDoor
open Go.RowKit

/-- What Inv answers, by the document's cases: the text x, the error n. -/
theorem inv_s (a m : ByteArray) (A M : Nat) (w : World) (ha : a.size ≤ 140737488351232) (hm : m.size ≤ 140737488351232) (hA : nv a = A) (hM : nv m = M) :
    Calls Tryz.prog 6 #[.string a, .string m] w fun e w' => ∃ (x : ByteArray) (n : Int), e = .returned (.tuple #[.string x, .int .i64 n]) ∧ Hid (
      if 512 < a.size ∨ 512 < m.size then x = ⟨#[]⟩ ∧ n = 30 else if M = 0 then x = ⟨#[]⟩ ∧ n = 31 else if Nat.gcd A M ≠ 1 then x = ⟨#[]⟩ ∧ n = 33 else n = 0 ∧ ∃ u, u < M ∧ u * A % M = 1 % M ∧ x = tx u) ∧ Below w.heap.size w w' := by
  refine (Inv_any a m w (by omega) (by omega)).mono ?_
  rintro e w' ⟨⟨l, n, rfl, h⟩, hb⟩
  refine ⟨⟨l.toArray⟩, n, rfl, ?_, hb⟩
  unfold InvR at h
  rw [hA, hM] at h
  show (if 512 < a.size ∨ 512 < m.size then _ else _)
  by_cases h1 : 512 < a.size ∨ 512 < m.size
  · rw [if_pos h1] at h ⊢; exact ⟨by rw [h.1], h.2⟩
  · rw [if_neg h1] at h ⊢
    by_cases h2 : M = 0
    · rw [if_pos h2] at h ⊢; exact ⟨by rw [h.1], h.2⟩
    · rw [if_neg h2] at h ⊢
      by_cases h3 : Nat.gcd A M ≠ 1
      · rw [if_pos (show Nat.gcd M A ≠ 1 from by rw [Nat.gcd_comm]; exact h3)] at h
        rw [if_pos h3]; exact ⟨by rw [h.1], h.2⟩
      · rw [if_neg (show ¬ Nat.gcd M A ≠ 1 from by rw [Nat.gcd_comm]; exact h3)] at h
        rw [if_neg h3]
        obtain ⟨hn, u, h4, h5, h6⟩ := h
        exact ⟨hn, u, h4, h5, by rw [h6]; rfl⟩

set_option maxRecDepth 100000 in
set_option maxHeartbeats 6400000 in
theorem law_any (a m : ByteArray) (w : World) (ha : a.size ≤ 140737488351232) (hm : m.size ≤ 140737488351232) :
    Calls Tryz.prog 3 #[.string a, .string m] w fun e w' => e = .returned (.bool true) ∧ Below w.heap.size w w' := by
  obtain ⟨A, hA⟩ : ∃ A, A = nv a := ⟨_, rfl⟩
  obtain ⟨M, hM⟩ : ∃ M, M = nv m := ⟨_, rfl⟩
  have HA := Lib.hid hA.symm; have HM := Lib.hid hM.symm
  clear hA hM
  by_cases hl : 512 < a.size ∨ 512 < m.size
  · have hd := decide_eq_true hl
    have HD := Lib.hid hd; have HLO := Lib.hid hl; clear hd hl
    go_enter Tryz.func3, Tryz.ntmps3
    go_wp2_with fail
    refine (inv_s a m A M _ (by omega) (by omega) HA.out HM.out).mono ?_
    rintro e w1 ⟨x, n, rfl, hx, hb1⟩
    have h := hx.out
    rw [if_pos HLO.out] at h
    obtain ⟨rfl, rfl⟩ := h
    go_wp2_with fail
    refine (fixed_any _).mono ?_
    rintro e w2 ⟨rfl, hb2⟩
    have hb2 := hb1.trans (hb2.mono hb1.size); clear hb1
    go_wp2_with fail
    refine (long_two a m _ _ (by simp) (by omega) (by omega)).mono ?_
    rintro e w3 ⟨rfl, rfl⟩
    rw [HD.out]
    go_wp2_with fail
    go_ret
    exact ⟨rfl, hb2.alloc hb2.size _⟩
  · have hd := decide_eq_false hl
    have hsa : a.size ≤ 512 := by omega
    have hsm : m.size ≤ 512 := by omega
    have HD := Lib.hid hd; have HLO := Lib.hid hl; clear hd hl
    obtain ⟨K, hK⟩ : ∃ K, K = 256 := ⟨_, rfl⟩
    have hK1 : K ≤ 256 := by omega
    have hK2 : 256 ≤ K := by omega
    clear hK
    have hAl : A < 256 ^ (2 * K) := by rw [← HA.out]; exact Nat.lt_of_lt_of_le (nv_size a) (pow_mono (by omega))
    have hMl : M < 256 ^ (2 * K) := by rw [← HM.out]; exact Nat.lt_of_lt_of_le (nv_size m) (pow_mono (by omega))
    have HAl := Lib.hid hAl; have HMl := Lib.hid hMl; clear hAl hMl
    by_cases hM0 : M = 0
    · have HM0 := Lib.hid hM0; clear hM0
      go_enter Tryz.func3, Tryz.ntmps3
      go_wp2_with fail
      refine (inv_s a m A M _ (by omega) (by omega) HA.out HM.out).mono ?_
      rintro e w1 ⟨x, n, rfl, hx, hb1⟩
      have h := hx.out
      rw [if_neg HLO.out, if_pos HM0.out] at h
      obtain ⟨rfl, rfl⟩ := h
      go_wp2_with fail
      refine (fixed_any _).mono ?_
      rintro e w2 ⟨rfl, hb2⟩
      have hb2 := hb1.trans (hb2.mono hb1.size); clear hb1
      go_wp2_with fail
      refine (long_two a m _ _ (by simp) (by omega) (by omega)).mono ?_
      rintro e w3 ⟨rfl, rfl⟩
      rw [HD.out]
      go_wp2_with fail
      refine (of_ok m M _ (by omega) HM.out).mono ?_
      rintro e w4 ⟨no, nn, nc, rfl, hn, hb4⟩
      have hn0 : nn = 0 := (rn_zero hn).2 HM0.out
      have hb3 := hb2.alloc hb2.size (.cells #[.string a, .string m] 9)
      have hb4 := hb3.trans (hb4.mono hb3.size)
      subst hn0
      go_wp2_with fail
      go_ret
      exact ⟨rfl, hb4⟩
    · have HMP := Lib.hid (show 0 < M by omega); have HM0 := Lib.hid hM0; clear hM0
      by_cases hg : Nat.gcd A M = 1
      · have hcm : cmpN (Nat.gcd A M) 1 = 0 := by rw [hg]; exact cmpN_eq 1
        have HG := Lib.hid hg; have HCM := Lib.hid hcm; clear hg hcm
        go_enter Tryz.func3, Tryz.ntmps3
        go_wp2_with fail
        refine (inv_s a m A M _ (by omega) (by omega) HA.out HM.out).mono ?_
        rintro e w1 ⟨x, n, rfl, hx, hb1⟩
        have h := hx.out
        rw [if_neg HLO.out, if_neg HM0.out, if_neg (fun h => h HG.out)] at h
        obtain ⟨rfl, u, hul, hui, rfl⟩ := h
        have hus : (tx u).size ≤ 2 * K := tx_le (Nat.lt_trans hul HMl.out)
        have hcu : cmpN u M = -1 := cmpN_lt hul
        have HUL := Lib.hid hul; have HUI := Lib.hid hui; have HCU := Lib.hid hcu; clear hx hul hui hcu
        go_wp2_with fail
        refine (fixed_any _).mono ?_
        rintro e w2 ⟨rfl, hb2⟩
        have hb2 := hb1.trans (hb2.mono hb1.size); clear hb1
        go_wp2_with fail
        refine (long_two a m _ _ (by simp) (by omega) (by omega)).mono ?_
        rintro e w3 ⟨rfl, rfl⟩
        rw [HD.out]
        go_wp2_with fail
        refine (of_ok m M _ (by omega) HM.out).mono ?_
        rintro e w4 ⟨no, nn, nc, rfl, hn, hb4⟩
        have hb3 := hb2.alloc hb2.size (.cells #[.string a, .string m] 9)
        have hb4 := hb3.trans (hb4.mono hb3.size); clear hb3 hb2
        have hnn : nn ≤ K := rn_of_lt hn HMl.out
        have hn0 : 0 < nn := by have := rn_zero hn; have := HM0.out; omega
        go_wp2_with fail
        obtain ⟨g1, hg1⟩ : ∃ g1, g1 = w4.heap.size := ⟨_, rfl⟩
        obtain ⟨W5, hW5⟩ : ∃ W5, W5 = w4.alloc (.cells #[.int .u64 1] 30) := ⟨_, rfl⟩
        have hone : RN W5 (some ⟨g1, 0, none⟩) 1 1 1 := by rw [hW5, hg1]; exact rone_num w4
        have hb45 : Below w4.heap.size w4 W5 := by rw [hW5]; exact (Below.refl _ _).alloc (Nat.le_refl _) _
        have hn := hn.below hb45 (Nat.le_refl _)
        have hb5 := hb4.trans (hb45.mono hb4.size)
        rw [← hW5, ← hg1]
        clear hW5 hg1 hb45 hb4
        refine (of_ok a A _ (by omega) HA.out).mono ?_
        rintro e w6 ⟨ao, an, ac, rfl, hav, hb6⟩
        have han : an ≤ K := rn_of_lt hav HAl.out
        have hn := hn.below hb6 (Nat.le_refl _); have hone := hone.below hb6 (Nat.le_refl _)
        have hb6 := hb5.trans (hb6.mono hb5.size); clear hb5
        go_wp2_with fail
        refine (rgcd_any _ _ _ _ _ _ A M _ hav hn (by omega) (by omega)).mono ?_
        rintro e w7 ⟨go, gn, gc, rfl, hgv, hb7⟩
        have hn := hn.below hb7 (Nat.le_refl _); have hone := hone.below hb7 (Nat.le_refl _)
        have hb7 := hb6.trans (hb7.mono hb6.size); clear hb6 hav
        go_wp2_with fail
        refine (rcmp_ok _ _ _ _ _ _ _ 1 _ hgv hone).mono ?_
        rintro e w8 ⟨rfl, hb8⟩
        have hn := hn.below hb8 (Nat.le_refl _); have hone := hone.below hb8 (Nat.le_refl _)
        have hb8 := hb7.trans (hb8.mono hb7.size); clear hb7 hgv
        rw [HCM.out]
        go_wp2_with fail
        refine (of_ok (tx u) u _ (by omega) (nv_tx u)).mono ?_
        rintro e w9 ⟨yo, yn, yc, rfl, hy, hb9⟩
        have hyn : yn ≤ K := rn_of_lt hy (Nat.lt_trans HUL.out HMl.out)
        have hn := hn.below hb9 (Nat.le_refl _); have hone := hone.below hb9 (Nat.le_refl _)
        have hb9 := hb8.trans (hb9.mono hb8.size); clear hb8
        go_wp2_with fail
        refine (form_ok _ _ _ _ _ hy (by omega)).mono ?_
        rintro e w10 ⟨rfl, hb10⟩
        have hn := hn.below hb10 (Nat.le_refl _); have hone := hone.below hb10 (Nat.le_refl _); have hy := hy.below hb10 (Nat.le_refl _)
        have hb10 := hb9.trans (hb10.mono hb9.size); clear hb9
        go_wp2_with fail
        refine (rcmp_ok _ _ _ _ _ _ u M _ hy hn).mono ?_
        rintro e w11 ⟨rfl, hb11⟩
        have hn := hn.below hb11 (Nat.le_refl _); have hone := hone.below hb11 (Nat.le_refl _); have hy := hy.below hb11 (Nat.le_refl _)
        have hb11 := hb10.trans (hb11.mono hb10.size); clear hb10
        rw [HCU.out]
        go_wp2_with fail
        refine (of_ok a A _ (by omega) HA.out).mono ?_
        rintro e w12 ⟨bo, bn, bc, rfl, hbv, hb12⟩
        have hbn : bn ≤ K := rn_of_lt hbv HAl.out
        have hn := hn.below hb12 (Nat.le_refl _); have hone := hone.below hb12 (Nat.le_refl _); have hy := hy.below hb12 (Nat.le_refl _)
        have hb12 := hb11.trans (hb12.mono hb11.size); clear hb11
        go_wp2_with fail
        refine (rtimes_any _ _ _ _ _ _ u A _ hy hbv (by omega) (by omega)).mono ?_
        rintro e w13 ⟨po, pn, pc, rfl, hp, hb13⟩
        have hpn : pn ≤ 2 * K := rn_of_lt hp (by
          have h := Nat.mul_lt_mul'' (Nat.lt_trans HUL.out HMl.out) HAl.out
          rw [← Nat.pow_add, show 2 * K + 2 * K = 2 * (2 * K) from by omega] at h; exact h)
        have hn := hn.below hb13 (Nat.le_refl _); have hone := hone.below hb13 (Nat.le_refl _)
        have hb13 := hb12.trans (hb13.mono hb12.size); clear hb12 hbv hy
        go_wp2_with fail
        refine (rleft_any _ _ _ _ _ _ (u * A) M _ hp hn HMP.out (by omega) (by omega)).mono ?_
        rintro e w14 ⟨qo, qn, qc, rfl, hq, hb14⟩
        rw [HUI.out] at hq
        have hn := hn.below hb14 (Nat.le_refl _); have hone := hone.below hb14 (Nat.le_refl _)
        have hb14 := hb13.trans (hb14.mono hb13.size); clear hb13 hp
        go_wp2_with fail
        refine (rleft_any _ _ _ _ _ _ 1 M _ hone hn HMP.out (by omega) (by omega)).mono ?_
        rintro e w15 ⟨ro, rn, rc, rfl, hr, hb15⟩
        have hq := hq.below hb15 (Nat.le_refl _)
        have hb15 := hb14.trans (hb15.mono hb14.size); clear hb14
        go_wp2_with fail
        refine (rcmp_ok _ _ _ _ _ _ (1 % M) (1 % M) _ hq hr).mono ?_
        rintro e w16 ⟨rfl, hb16⟩
        have hb16 := hb15.trans (hb16.mono hb15.size); clear hb15
        rw [cmpN_eq]
        go_wp2_with fail
        go_ret
        exact ⟨rfl, hb16⟩
      · obtain ⟨cm, hcm⟩ : ∃ cm, cm = cmpN (Nat.gcd A M) 1 := ⟨_, rfl⟩
        have hcb : (cm != 0) = true := by
          rw [hcm, bne_iff_ne]
          unfold cmpN
          split
          · decide
          · decide
        have HG := Lib.hid hg; have HCM := Lib.hid hcm; clear hg hcm
        go_enter Tryz.func3, Tryz.ntmps3
        go_wp2_with fail
        refine (inv_s a m A M _ (by omega) (by omega) HA.out HM.out).mono ?_
        rintro e w1 ⟨x, n, rfl, hx, hb1⟩
        have h := hx.out
        rw [if_neg HLO.out, if_neg HM0.out, if_pos HG.out] at h
        obtain ⟨rfl, rfl⟩ := h
        go_wp2_with fail
        refine (fixed_any _).mono ?_
        rintro e w2 ⟨rfl, hb2⟩
        have hb2 := hb1.trans (hb2.mono hb1.size); clear hb1
        go_wp2_with fail
        refine (long_two a m _ _ (by simp) (by omega) (by omega)).mono ?_
        rintro e w3 ⟨rfl, rfl⟩
        rw [HD.out]
        go_wp2_with fail
        refine (of_ok m M _ (by omega) HM.out).mono ?_
        rintro e w4 ⟨no, nn, nc, rfl, hn, hb4⟩
        have hb3 := hb2.alloc hb2.size (.cells #[.string a, .string m] 9)
        have hb4 := hb3.trans (hb4.mono hb3.size); clear hb3 hb2
        have hnn : nn ≤ K := rn_of_lt hn HMl.out
        have hn0 : 0 < nn := by have := rn_zero hn; have := HM0.out; omega
        go_wp2_with fail
        obtain ⟨g1, hg1⟩ : ∃ g1, g1 = w4.heap.size := ⟨_, rfl⟩
        obtain ⟨W5, hW5⟩ : ∃ W5, W5 = w4.alloc (.cells #[.int .u64 1] 30) := ⟨_, rfl⟩
        have hone : RN W5 (some ⟨g1, 0, none⟩) 1 1 1 := by rw [hW5, hg1]; exact rone_num w4
        have hb45 : Below w4.heap.size w4 W5 := by rw [hW5]; exact (Below.refl _ _).alloc (Nat.le_refl _) _
        have hn := hn.below hb45 (Nat.le_refl _)
        have hb5 := hb4.trans (hb45.mono hb4.size)
        rw [← hW5, ← hg1]
        clear hW5 hg1 hb45 hb4
        refine (of_ok a A _ (by omega) HA.out).mono ?_
        rintro e w6 ⟨ao, an, ac, rfl, hav, hb6⟩
        have han : an ≤ K := rn_of_lt hav HAl.out
        have hn := hn.below hb6 (Nat.le_refl _); have hone := hone.below hb6 (Nat.le_refl _)
        have hb6 := hb5.trans (hb6.mono hb5.size); clear hb5
        go_wp2_with fail
        refine (rgcd_any _ _ _ _ _ _ A M _ hav hn (by omega) (by omega)).mono ?_
        rintro e w7 ⟨go, gn, gc, rfl, hgv, hb7⟩
        have hone := hone.below hb7 (Nat.le_refl _)
        have hb7 := hb6.trans (hb7.mono hb6.size); clear hb6 hav
        go_wp2_with fail
        refine (rcmp_ok _ _ _ _ _ _ _ 1 _ hgv hone).mono ?_
        rintro e w8 ⟨rfl, hb8⟩
        have hb8 := hb7.trans (hb8.mono hb7.size); clear hb7 hgv
        rw [← HCM.out]
        go_wp2_with fail
        go_ret
        exact ⟨rfl, hb8⟩
end Go.Proofs.YtbmhiejggkdnkaaGreatDoor
