/- NatPowers: the walk. -/
import Derived.Test.YtbmhiejggkdnkaaGreatDoorRLong
import Derived.Test.YtbmhiejggkdnkaaGreatDoorRPow
namespace Go.Proofs.YtbmhiejggkdnkaaGreatDoor
open Go.RowKit

/-- What Pow answers, by the document's cases: the text x, the error n. -/
theorem pow_s (a p m : ByteArray) (A P M : Nat) (w : World) (ha : a.size ≤ 140737488351232) (hp : p.size ≤ 140737488351232) (hm : m.size ≤ 140737488351232) (hA : nv a = A) (hP : nv p = P) (hM : nv m = M) :
    Calls Tryz.prog 20 #[.string a, .string p, .string m] w fun e w' => ∃ (x : ByteArray) (n : Int), e = .returned (.tuple #[.string x, .int .i64 n]) ∧ Hid (
      if 512 < a.size ∨ 512 < p.size ∨ 512 < m.size then x = ⟨#[]⟩ ∧ n = 30 else if M = 0 then x = ⟨#[]⟩ ∧ n = 31 else n = 0 ∧ x = tx (A ^ P % M)) ∧ Below w.heap.size w w' := by
  refine (Pow_any a p m w (by omega) (by omega) (by omega)).mono ?_
  rintro e w' ⟨⟨l, n, rfl, h⟩, hb⟩
  refine ⟨⟨l.toArray⟩, n, rfl, ?_, hb⟩
  unfold PowR at h
  rw [hA, hP, hM] at h
  show (if 512 < a.size ∨ 512 < p.size ∨ 512 < m.size then _ else _)
  by_cases h1 : 512 < a.size ∨ 512 < p.size ∨ 512 < m.size
  · rw [if_pos h1] at h ⊢; exact ⟨by rw [h.1], h.2⟩
  · rw [if_neg h1] at h ⊢
    by_cases h2 : M = 0
    · rw [if_pos h2] at h ⊢; exact ⟨by rw [h.1], h.2⟩
    · rw [if_neg h2] at h ⊢
      exact ⟨h.1, by rw [h.2]; rfl⟩

set_option maxRecDepth 100000 in
set_option maxHeartbeats 6400000 in
theorem law_any (a p m : ByteArray) (w : World) (ha : a.size ≤ 1048576) (hp : p.size ≤ 1048576) (hm : m.size ≤ 1048576) :
    Calls Tryz.prog 5 #[.string a, .string p, .string m] w fun e w' => e = .returned (.bool true) ∧ Below w.heap.size w w' := by
  obtain ⟨A, hA⟩ : ∃ A, A = nv a := ⟨_, rfl⟩
  obtain ⟨P, hP⟩ : ∃ P, P = nv p := ⟨_, rfl⟩
  obtain ⟨M, hM⟩ : ∃ M, M = nv m := ⟨_, rfl⟩
  have HA := Lib.hid hA.symm; have HP := Lib.hid hP.symm; have HM := Lib.hid hM.symm
  clear hA hP hM
  by_cases hl : 512 < a.size ∨ 512 < p.size ∨ 512 < m.size
  · have hd := decide_eq_true hl
    have HD := Lib.hid hd; have HLO := Lib.hid hl; clear hd hl
    go_enter Tryz.func5, Tryz.ntmps5
    go_wp2_with fail
    refine (pow_s a p m A P M _ (by omega) (by omega) (by omega) HA.out HP.out HM.out).mono ?_
    rintro e w1 ⟨x, n, rfl, hx, hb1⟩
    have h := hx.out
    rw [if_pos HLO.out] at h
    obtain ⟨rfl, rfl⟩ := h
    go_wp2_with fail
    refine (fixed_any _).mono ?_
    rintro e w2 ⟨rfl, hb2⟩
    have hb2 := hb1.trans (hb2.mono hb1.size); clear hb1
    go_wp2_with fail
    refine (of_ok m M _ (by omega) HM.out).mono ?_
    rintro e w3 ⟨no, nn, nc, rfl, hn, hb3⟩
    have hb3 := hb2.trans (hb3.mono hb2.size); clear hb2
    go_wp2_with fail
    refine (long_three a p m _ _ (by simp) (by omega) (by omega) (by omega)).mono ?_
    rintro e w4 ⟨rfl, rfl⟩
    rw [HD.out]
    go_wp2_with fail
    go_ret
    exact ⟨rfl, hb3.alloc hb3.size _⟩
  · have hd := decide_eq_false hl
    have hsa : a.size ≤ 512 := by omega
    have hsp : p.size ≤ 512 := by omega
    have hsm : m.size ≤ 512 := by omega
    have HD := Lib.hid hd; have HLO := Lib.hid hl; clear hd hl
    obtain ⟨K, hK⟩ : ∃ K, K = 256 := ⟨_, rfl⟩
    have hK1 : K ≤ 256 := by omega
    have hK2 : 256 ≤ K := by omega
    clear hK
    have hAl : A < 256 ^ (2 * K) := by rw [← HA.out]; exact Nat.lt_of_lt_of_le (nv_size a) (pow_mono (by omega))
    have hPl : P < 256 ^ (2 * K) := by rw [← HP.out]; exact Nat.lt_of_lt_of_le (nv_size p) (pow_mono (by omega))
    have hMl : M < 256 ^ (2 * K) := by rw [← HM.out]; exact Nat.lt_of_lt_of_le (nv_size m) (pow_mono (by omega))
    have HAl := Lib.hid hAl; have HPl := Lib.hid hPl; have HMl := Lib.hid hMl; clear hAl hPl hMl
    by_cases hM0 : M = 0
    · have HM0 := Lib.hid hM0; clear hM0
      go_enter Tryz.func5, Tryz.ntmps5
      go_wp2_with fail
      refine (pow_s a p m A P M _ (by omega) (by omega) (by omega) HA.out HP.out HM.out).mono ?_
      rintro e w1 ⟨x, n, rfl, hx, hb1⟩
      have h := hx.out
      rw [if_neg HLO.out, if_pos HM0.out] at h
      obtain ⟨rfl, rfl⟩ := h
      go_wp2_with fail
      refine (fixed_any _).mono ?_
      rintro e w2 ⟨rfl, hb2⟩
      have hb2 := hb1.trans (hb2.mono hb1.size); clear hb1
      go_wp2_with fail
      refine (of_ok m M _ (by omega) HM.out).mono ?_
      rintro e w3 ⟨no, nn, nc, rfl, hn, hb3⟩
      have hn0 : nn = 0 := (rn_zero hn).2 HM0.out
      have hb3 := hb2.trans (hb3.mono hb2.size); clear hb2
      subst hn0
      go_wp2_with fail
      refine (long_three a p m _ _ (by simp) (by omega) (by omega) (by omega)).mono ?_
      rintro e w4 ⟨rfl, rfl⟩
      rw [HD.out]
      go_wp2_with fail
      go_ret
      exact ⟨rfl, hb3.alloc hb3.size _⟩
    · have HMP := Lib.hid (show 0 < M by omega); have HM0 := Lib.hid hM0; clear hM0
      obtain ⟨X, hX⟩ : ∃ X, X = A ^ P % M := ⟨_, rfl⟩
      have hXl : X < M := by rw [hX]; exact Nat.mod_lt _ HMP.out
      have hcm : cmpN X M = -1 := cmpN_lt hXl
      have hXs : (tx X).size ≤ 2 * K := tx_le (Nat.lt_trans hXl HMl.out)
      have HX := Lib.hid hX; have HXL := Lib.hid hXl; have HCM := Lib.hid hcm; clear hX hXl hcm
      have b1 : p.size * m.size ≤ 512 * 512 := Nat.mul_le_mul hsp hsm
      have b2 : p.size * m.size * m.size ≤ 512 * 512 * 512 := Nat.mul_le_mul b1 hsm
      have i1 : ((p.size * m.size : Nat) : Int) = (p.size : Int) * (m.size : Int) := Int.natCast_mul _ _
      have i2 : ((p.size * m.size * m.size : Nat) : Int) = (p.size : Int) * (m.size : Int) * (m.size : Int) := by rw [Int.natCast_mul, Int.natCast_mul]
      have j1 : (p.size : Int) * (m.size : Int) ≤ 262144 := by rw [← i1]; omega
      have j2 : (p.size : Int) * (m.size : Int) * (m.size : Int) ≤ 134217728 := by rw [← i2]; omega
      have j3 : 0 ≤ (p.size : Int) * (m.size : Int) := by rw [← i1]; omega
      have j4 : 0 ≤ (p.size : Int) * (m.size : Int) * (m.size : Int) := by rw [← i2]; omega
      clear b1 b2 i1 i2
      by_cases hbig : (300000 : Int) < (p.size : Int) * (m.size : Int) * (m.size : Int)
      all_goals (by_cases hbig2 : (4 * (m.size : Int) + 64 : Int) < (a.size : Int))
      all_goals
        go_enter Tryz.func5, Tryz.ntmps5
        go_wp2_with fail
        refine (pow_s a p m A P M _ (by omega) (by omega) (by omega) HA.out HP.out HM.out).mono ?_
        rintro e w1 ⟨x, n, rfl, hx, hb1⟩
        have h := hx.out
        rw [if_neg HLO.out, if_neg HM0.out, ← HX.out] at h
        obtain ⟨rfl, rfl⟩ := h
        go_wp2_with fail
        refine (fixed_any _).mono ?_
        rintro e w2 ⟨rfl, hb2⟩
        have hb2 := hb1.trans (hb2.mono hb1.size); clear hb1 hx
        go_wp2_with fail
        refine (of_ok m M _ (by omega) HM.out).mono ?_
        rintro e w3 ⟨no, nn, nc, rfl, hn, hb3⟩
        have hnn : nn ≤ K := rn_of_lt hn HMl.out
        have hn0 : 0 < nn := by have := rn_zero hn; have := HM0.out; omega
        have hb3 := hb2.trans (hb3.mono hb2.size); clear hb2
        go_wp2_with fail
        refine (long_three a p m _ _ (by simp) (by omega) (by omega) (by omega)).mono ?_
        rintro e w4 ⟨rfl, rfl⟩
        rw [HD.out]
        have hb34 : Below w3.heap.size w3 (w3.alloc (.cells #[.string a, .string p, .string m] 9)) := (Below.refl _ _).alloc (Nat.le_refl _) _
        have hn := hn.below hb34 (Nat.le_refl _)
        have hb4 := hb3.trans (hb34.mono hb3.size); clear hb3 hb34
        go_wp2_with fail
        refine (cmp_okB _ m X M _ (nv_tx _) HM.out).mono ?_
        rintro e w5 ⟨rfl, hb5⟩
        have hn := hn.below hb5 (Nat.le_refl _)
        have hb5 := hb4.trans (hb5.mono hb4.size); clear hb4
        rw [HCM.out]
        go_wp2_with fail
        refine (trim_ok _ X _ (nv_tx _)).mono ?_
        rintro e wt ⟨rfl, rfl⟩
        go_wp2_with fail
        first
          | (go_ret; exact ⟨rfl, hb5⟩)
          | (refine (of_ok a A _ (by omega) HA.out).mono ?_
             rintro e w6 ⟨ao, an, ac, rfl, hav, hb6⟩
             have han : an ≤ K := rn_of_lt hav HAl.out
             have hn := hn.below hb6 (Nat.le_refl _)
             have hb6 := hb5.trans (hb6.mono hb5.size); clear hb5
             go_wp2_with fail
             refine (of_ok p P _ (by omega) HP.out).mono ?_
             rintro e w7 ⟨po, pn, pc, rfl, hpv, hb7⟩
             have hpn : pn ≤ K := rn_of_lt hpv HPl.out
             have hn := hn.below hb7 (Nat.le_refl _); have hav := hav.below hb7 (Nat.le_refl _)
             have hb7 := hb6.trans (hb7.mono hb6.size); clear hb6
             go_wp2_with fail
             refine (rpow_any _ _ _ _ _ _ _ _ _ A P M _ hav hpv hn HMP.out (by omega) (by omega) (by omega)).mono ?_
             rintro e w8 ⟨ro, rn, rc, rfl, hr, hb8⟩
             rw [← HX.out] at hr
             have hrn : rn ≤ K := rn_of_lt hr (Nat.lt_trans HXL.out HMl.out)
             have hb8 := hb7.trans (hb8.mono hb7.size); clear hb7
             go_wp2_with fail
             refine (form_ok _ _ _ _ _ hr (by omega)).mono ?_
             rintro e w9 ⟨rfl, hb9⟩
             have hb9 := hb8.trans (hb9.mono hb8.size); clear hb8
             go_wp2_with fail
             go_ret
             exact ⟨rfl, hb9⟩)
end Go.Proofs.YtbmhiejggkdnkaaGreatDoor
