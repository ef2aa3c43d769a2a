/- NatExponents: the walk. -/
import Derived.Test.YtbmhiejggkdnkaaDoorLawKit2
namespace Go.Proofs.YtbmhiejggkdnkaaDoor
open Go.RowKit

theorem exp_mod (A P Q M : Nat) : (A ^ P % M) ^ Q % M = A ^ (P * Q) % M := by
  rw [← Nat.pow_mod, ← Nat.pow_mul]
theorem exp_mul (A P Q M : Nat) : (A ^ P % M) * (A ^ Q % M) % M = A ^ (P + Q) % M := by
  rw [← Nat.mul_mod, ← Nat.pow_add]

set_option maxRecDepth 100000 in
set_option maxHeartbeats 6400000 in
theorem law_any (a p q m : ByteArray) (w : World) (ha : a.size ≤ 140737488351232) (hp : p.size ≤ 140737488351232) (hq : q.size ≤ 140737488351232) (hm : m.size ≤ 140737488351232) :
    Calls Tryd.prog 5 #[.string a, .agg #[.string p, .string q], .string m] w fun e w' => e = .returned (.bool true) ∧ Below w.heap.size w w' := by
  by_cases hl : 200 < a.size + p.size + q.size + m.size
  · go_enter Tryd.func5, Tryd.ntmps5
    go_wp2_with fail
    refine (fixed_any _).mono ?_
    rintro e w1 ⟨rfl, hb1⟩
    have hsz : w.heap.size < w1.heap.size := by have := hb1.size; simp at this; omega
    have c0 : w1.cell? ⟨w.heap.size, 0, none⟩ = some (.string p) := (hb1.cell (p := ⟨w.heap.size, 0, none⟩) (by simp)).trans (new_cells w _ _ 0 (.string p) rfl)
    have c1 : w1.cell? ⟨w.heap.size, 1, none⟩ = some (.string q) := (hb1.cell (p := ⟨w.heap.size, 1, none⟩) (by simp)).trans (new_cells w _ _ 1 (.string q) rfl)
    have hb1 : Below w.heap.size w w1 := ((Below.refl _ _).alloc (Nat.le_refl _) _).trans (hb1.mono (by simp))
    go_wp2_with fail
    go_ret
    exact ⟨rfl, hb1⟩
  · obtain ⟨A, hA⟩ : ∃ A, A = nv a := ⟨_, rfl⟩
    obtain ⟨P, hP⟩ : ∃ P, P = nv p := ⟨_, rfl⟩
    obtain ⟨Q, hQ⟩ : ∃ Q, Q = nv q := ⟨_, rfl⟩
    obtain ⟨M, hM⟩ : ∃ M, M = nv m := ⟨_, rfl⟩
    have hAl : A < 256 ^ a.size := by rw [hA]; exact nv_size a
    have hPl : P < 256 ^ p.size := by rw [hP]; exact nv_size p
    have hQl : Q < 256 ^ q.size := by rw [hQ]; exact nv_size q
    have hMl : M < 256 ^ m.size := by rw [hM]; exact nv_size m
    have HA := Lib.hid hA.symm; have HP := Lib.hid hP.symm; have HQ := Lib.hid hQ.symm; have HM := Lib.hid hM.symm
    have HPl := Lib.hid hPl; have HQl := Lib.hid hQl; have HMl := Lib.hid hMl; clear hA hP hQ hM hAl hPl hQl hMl
    by_cases hM0 : M = 0
    · subst hM0
      go_enter Tryd.func5, Tryd.ntmps5
      go_wp2_with fail
      refine (fixed_any _).mono ?_
      rintro e w1 ⟨rfl, hb1⟩
      have hsz : w.heap.size < w1.heap.size := by have := hb1.size; simp at this; omega
      have c0 : w1.cell? ⟨w.heap.size, 0, none⟩ = some (.string p) := (hb1.cell (p := ⟨w.heap.size, 0, none⟩) (by simp)).trans (new_cells w _ _ 0 (.string p) rfl)
      have c1 : w1.cell? ⟨w.heap.size, 1, none⟩ = some (.string q) := (hb1.cell (p := ⟨w.heap.size, 1, none⟩) (by simp)).trans (new_cells w _ _ 1 (.string q) rfl)
      have hb1 : Below w.heap.size w w1 := ((Below.refl _ _).alloc (Nat.le_refl _) _).trans (hb1.mono (by simp))
      go_wp2_with fail
      refine (trim_ok m 0 _ HM.out).mono ?_
      rintro e wt ⟨rfl, rfl⟩
      rw [tx_zero]
      go_wp2_with fail
      go_ret
      exact ⟨rfl, hb1⟩
    · have hMp : 0 < M := by omega
      have HMP := Lib.hid hMp; clear hMp hM0
      have hxs : ∀ N, (tx (N % M)).size ≤ 200 := fun N => Nat.le_trans (tx_le (Nat.lt_trans (Nat.mod_lt _ HMP.out) HMl.out)) (by omega)
      have hxx : ∀ N K, (tx ((N % M) * (K % M))).size ≤ 400 := fun N K => tx_mul (Nat.lt_trans (Nat.mod_lt _ HMP.out) HMl.out) (Nat.lt_trans (Nat.mod_lt _ HMP.out) HMl.out) (by omega)
      have HXS := Lib.hid hxs; have HXX := Lib.hid hxx; clear hxs hxx
      have hs1 := tx_add HPl.out HQl.out (n := 201) (by omega) (by omega); have hs2 := tx_mul HPl.out HQl.out (n := 200) (by omega)
      have HS1 := Lib.hid hs1; have HS2 := Lib.hid hs2; clear hs1 hs2
      have htm := tx_pos HMP.out
      go_enter Tryd.func5, Tryd.ntmps5
      go_wp2_with fail
      refine (fixed_any _).mono ?_
      rintro e w1 ⟨rfl, hb1⟩
      have hsz : w.heap.size < w1.heap.size := by have := hb1.size; simp at this; omega
      have c0 : w1.cell? ⟨w.heap.size, 0, none⟩ = some (.string p) := (hb1.cell (p := ⟨w.heap.size, 0, none⟩) (by simp)).trans (new_cells w _ _ 0 (.string p) rfl)
      have c1 : w1.cell? ⟨w.heap.size, 1, none⟩ = some (.string q) := (hb1.cell (p := ⟨w.heap.size, 1, none⟩) (by simp)).trans (new_cells w _ _ 1 (.string q) rfl)
      have hb1 : Below w.heap.size w w1 := ((Below.refl _ _).alloc (Nat.le_refl _) _).trans (hb1.mono (by simp))
      go_wp2_with fail
      refine (trim_ok m M _ HM.out).mono ?_
      rintro e wt ⟨rfl, rfl⟩
      go_wp2_with fail
      clear htm
      refine (add_ok p q P Q _ (by omega) (by omega) HP.out HQ.out).mono ?_
      rintro e w2 ⟨rfl, hb2⟩
      replace c0 := (hb2.cell (p := ⟨w.heap.size, 0, none⟩) hsz).trans c0
      replace c1 := (hb2.cell (p := ⟨w.heap.size, 1, none⟩) hsz).trans c1
      replace hsz := Nat.lt_of_lt_of_le hsz hb2.size
      replace hb2 := hb1.trans (hb2.mono hb1.size); clear hb1
      unfold okT
      go_wp2_with fail
      refine (mul_ok p q P Q _ (by omega) (by omega) HP.out HQ.out).mono ?_
      rintro e w3 ⟨rfl, hb3⟩
      replace c0 := (hb3.cell (p := ⟨w.heap.size, 0, none⟩) hsz).trans c0
      replace c1 := (hb3.cell (p := ⟨w.heap.size, 1, none⟩) hsz).trans c1
      replace hsz := Nat.lt_of_lt_of_le hsz hb3.size
      replace hb3 := hb2.trans (hb3.mono hb2.size); clear hb2
      unfold okT
      go_wp2_with fail
      refine (pow_ok a p m A P M _ (by omega) (by omega) (by omega) HA.out HP.out HM.out HMP.out).mono ?_
      rintro e w4 ⟨rfl, hb4⟩
      replace c0 := (hb4.cell (p := ⟨w.heap.size, 0, none⟩) hsz).trans c0
      replace c1 := (hb4.cell (p := ⟨w.heap.size, 1, none⟩) hsz).trans c1
      replace hsz := Nat.lt_of_lt_of_le hsz hb4.size
      replace hb4 := hb3.trans (hb4.mono hb3.size); clear hb3
      unfold okT
      go_wp2_with fail
      refine (pow_ok a q m A Q M _ (by omega) (by omega) (by omega) HA.out HQ.out HM.out HMP.out).mono ?_
      rintro e w5 ⟨rfl, hb5⟩
      replace c0 := (hb5.cell (p := ⟨w.heap.size, 0, none⟩) hsz).trans c0
      replace c1 := (hb5.cell (p := ⟨w.heap.size, 1, none⟩) hsz).trans c1
      replace hsz := Nat.lt_of_lt_of_le hsz hb5.size
      replace hb5 := hb4.trans (hb5.mono hb4.size); clear hb4
      unfold okT
      go_wp2_with fail
      refine (pow_ok a _ m A (P + Q) M _ (by omega) (by have := HS1.out; omega) (by omega) HA.out (nv_tx _) HM.out HMP.out).mono ?_
      rintro e w6 ⟨rfl, hb6⟩
      replace c0 := (hb6.cell (p := ⟨w.heap.size, 0, none⟩) hsz).trans c0
      replace c1 := (hb6.cell (p := ⟨w.heap.size, 1, none⟩) hsz).trans c1
      replace hsz := Nat.lt_of_lt_of_le hsz hb6.size
      replace hb6 := hb5.trans (hb6.mono hb5.size); clear hb5
      unfold okT
      go_wp2_with fail
      refine (mul_ok _ _ (A ^ P % M) (A ^ Q % M) _ (by have := HXS.out (A ^ P); omega) (by have := HXS.out (A ^ Q); omega) (nv_tx _) (nv_tx _)).mono ?_
      rintro e w7 ⟨rfl, hb7⟩
      replace c0 := (hb7.cell (p := ⟨w.heap.size, 0, none⟩) hsz).trans c0
      replace c1 := (hb7.cell (p := ⟨w.heap.size, 1, none⟩) hsz).trans c1
      replace hsz := Nat.lt_of_lt_of_le hsz hb7.size
      replace hb7 := hb6.trans (hb7.mono hb6.size); clear hb6
      unfold okT
      go_wp2_with fail
      refine (div_ok _ m ((A ^ P % M) * (A ^ Q % M)) M _ (by have := HXX.out (A ^ P) (A ^ Q); omega) (by omega) (nv_tx _) HM.out HMP.out).mono ?_
      rintro e w8 ⟨rfl, hb8⟩
      replace c0 := (hb8.cell (p := ⟨w.heap.size, 0, none⟩) hsz).trans c0
      replace c1 := (hb8.cell (p := ⟨w.heap.size, 1, none⟩) hsz).trans c1
      replace hsz := Nat.lt_of_lt_of_le hsz hb8.size
      replace hb8 := hb7.trans (hb8.mono hb7.size); clear hb7
      rw [exp_mul]
      go_wp2_with fail
      refine (pow_ok _ q m (A ^ P % M) Q M _ (by have := HXS.out (A ^ P); omega) (by omega) (by omega) (nv_tx _) HQ.out HM.out HMP.out).mono ?_
      rintro e w9 ⟨rfl, hb9⟩
      replace c0 := (hb9.cell (p := ⟨w.heap.size, 0, none⟩) hsz).trans c0
      replace c1 := (hb9.cell (p := ⟨w.heap.size, 1, none⟩) hsz).trans c1
      replace hsz := Nat.lt_of_lt_of_le hsz hb9.size
      replace hb9 := hb8.trans (hb9.mono hb8.size); clear hb8
      rw [exp_mod]
      unfold okT
      go_wp2_with fail
      refine (pow_ok a _ m A (P * Q) M _ (by omega) (by have := HS2.out; omega) (by omega) HA.out (nv_tx _) HM.out HMP.out).mono ?_
      rintro e w10 ⟨rfl, hb10⟩
      replace c0 := (hb10.cell (p := ⟨w.heap.size, 0, none⟩) hsz).trans c0
      replace c1 := (hb10.cell (p := ⟨w.heap.size, 1, none⟩) hsz).trans c1
      replace hsz := Nat.lt_of_lt_of_le hsz hb10.size
      replace hb10 := hb9.trans (hb10.mono hb9.size); clear hb9
      unfold okT
      go_wp2_with fail
      go_ret
      exact ⟨rfl, hb10⟩
end Go.Proofs.YtbmhiejggkdnkaaDoor
