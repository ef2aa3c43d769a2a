/- pow: the walk. -/
import Derived.Test.YtbmhiejggkdnkaaGreatDoorPowPlain
namespace Go.Proofs.YtbmhiejggkdnkaaGreatDoor
open Go.RowKit

set_option maxRecDepth 100000 in
set_option maxHeartbeats 3200000 in
theorem pow_even (ao eo mo : Option Addr) (na ca ne ce k d a e m : Nat) (w : World) (ha : Num w ao na ca a) (he : Num w eo ne ce e) (hm : Num w mo k d m) (hm0 : 0 < m) (hev : m % 2 = 0) (hna : na ≤ 128) (hne : ne ≤ 128) (hk : k ≤ 128) :
    Calls Tryz.prog 41 #[.slice ao na ca, .slice eo ne ce, .slice mo k d] w (RetNum w (a ^ e % m)) := by
  have hk0 : 0 < k := by rw [hm.len]; exact (Dg.len_pos_iff LB2 m).2 hm0
  have hc := hm.rd.cell 0 hk0
  rw [Nat.add_zero] at hc
  have hs := hm.rd.sh
  obtain ⟨x0, hx0⟩ : ∃ x, x = Dg.dg LB m 0 := ⟨_, rfl⟩
  rw [← hx0] at hc
  have hxe : x0 % 2 = 0 := by
    rw [hx0]; unfold Dg.dg; rw [Nat.pow_zero, Nat.div_one, LB_eq]; omega
  have hxl : x0 < 4294967296 := by rw [hx0]; exact Dg.dg_lt LBpos _ _
  have HX := Lib.hid hx0; have HM0 := Lib.hid hm0; clear hx0 hm0
  have hand : bits BinOp.and IntKind.u32 (x0 : Int) 1 = 0 := by rw [and_one_u32 x0 hxl, hxe]; rfl
  have hbo : Below w.heap.size w (w.alloc (.cells #[.slice mo k d] 52)) := (Below.refl _ _).alloc (Nat.le_refl _) _
  have hbx := Bx.new w (.slice mo k d) 52
  have ha1 := ha.below hbo (Nat.le_refl _)
  have he1 := he.below hbo (Nat.le_refl _)
  have hm1 := hm.below hbo (Nat.le_refl _)
  have hcm := hbx.cell
  have hc1 : (w.alloc (.cells #[.slice mo k d] 52)).cell? ⟨blk mo, off mo, none⟩ = some (.int .u32 (x0 : Nat)) := by
    have h := hm1.rd.cell 0 hk0
    rw [Nat.add_zero, ← HX.out] at h; exact h
  have hmf : ∀ (fn : Fn) (first cap : Array Value) (w : World), (Instr.makeFunc fn first cap).run Tryz.prog w = .ok (.func fn first cap) w := fun _ _ _ _ => rfl
  go_enter Tryz.func41, Tryz.ntmps41
  go_wp2_with fail
  obtain ⟨W1, hW1⟩ : ∃ W1, W1 = w.alloc (.cells #[.slice mo k d] 52) := ⟨_, rfl⟩
  have hsz : W1.heap.size = w.heap.size + 1 := by rw [hW1]; simp
  rw [← hW1] at hbo hbx ha1 he1 hm1 hcm hc1 ⊢
  clear hW1
  have hb1 : Below W1.heap.size W1 (W1.alloc (.cells #[.int .u32 1] 74)) := (Below.refl _ _).alloc (Nat.le_refl _) _
  refine (into_even _ mo 1 1 k d 1 m w.heap.size _ (one_num W1 _ hsz.symm) (hbx.alloc _) (hm1.below hb1 (Nat.le_refl _)) HM0.out (by omega)).mono ?_
  rintro e w2 ⟨o2, n2, c2, rfl, h2, hb2⟩
  have hb12 : Below W1.heap.size W1 w2 := hb1.trans (hb2.mono hb1.size)
  go_wp2_with fail
  refine (into_even _ mo na ca k d a m w.heap.size _ (ha1.below hb12 (Nat.le_refl _)) (hbx.below hb12 (Nat.le_refl _)) (hm1.below hb12 (Nat.le_refl _)) HM0.out (by omega)).mono ?_
  rintro e w3 ⟨o3, n3, c3, rfl, h3, hb3⟩
  have hb13 : Below W1.heap.size W1 w3 := hb12.trans (hb3.mono hb12.size)
  go_wp2_with fail
  have hm3 := hm1.below hb13 (Nat.le_refl _)
  have he3 := he1.below hb13 (Nat.le_refl _)
  have hbx3 := hbx.below hb13 (Nat.le_refl _)
  have hb03 : Below w.heap.size w w3 := hbo.trans (hb13.mono hbo.size)
  have h2' := h2.below hb3 (Nat.le_refl _)
  have hel : e < LB ^ ne := he.lt
  have HEL := Lib.hid hel
  clear hc hc1 hcm hbo hbx ha1 he1 hm1 hb1 hb2 hb12 hb3 hb13 h2 hel
  go_loopw [12, 14] (fun ov iv wr => ∃ (O : Sl) (j : Nat) (x : Int), j ≤ 32 * ne ∧ x = (j : Int) - 1 ∧ iv = .int .i64 x ∧ ov = .slice O.a O.n O.c ∧ NumS wr O (a ^ (e / 2 ^ j) % m) ∧ Below w3.heap.size w3 wr) (fun _ iv _ => (intOf iv + 1).toNat)
  case atStart =>
    refine ⟨⟨o2, n2, c2⟩, 32 * ne, _, Nat.le_refl _, ?_, rfl, rfl, ?_, Below.refl _ _⟩
    · simp
    · have h0 : e / 2 ^ (32 * ne) = 0 := by
        apply Nat.div_eq_of_lt
        rw [Nat.pow_mul]; exact HEL.out
      rw [h0, Nat.pow_zero]; exact h2'
  case round =>
    obtain ⟨O, j, x, hj, hx, rfl, rfl, hO, hbel⟩ := hrel
    clear h2'
    have hOb : O.n ≤ 128 := by
      rw [hO.num.len]
      exact Nat.le_trans (Dg.len_mono LB2 (Nat.le_of_lt (Nat.mod_lt _ HM0.out))) (by rw [← hm.len]; exact hk)
    by_cases hx0 : x < 0
    · obtain rfl : j = 0 := by omega
      go_wp2_with fail
      refine (into_even _ mo _ _ k d _ m w.heap.size _ hO.num (hbx3.below hbel (Nat.le_refl _)) (hm3.below hbel (Nat.le_refl _)) HM0.out hOb).mono ?_
      rintro e4 w4 ⟨o4, n4, c4, rfl, h4, hb4⟩
      go_wp2_with fail
      go_ret
      have h5 : a ^ (e / 2 ^ 0) % m % m = a ^ e % m := by rw [Nat.pow_zero, Nat.div_one, Nat.mod_mod]
      rw [h5] at h4
      exact ⟨_, _, _, rfl, h4, hb03.trans ((hbel.trans (hb4.mono hbel.size)).mono hb03.size)⟩
    · obtain ⟨i, rfl⟩ := Int.eq_ofNat_of_zero_le (by omega : 0 ≤ x)
      obtain rfl : j = i + 1 := by omega
      clear hx hx0
      go_wp2_with fail
      refine (times_even _ _ mo _ _ _ _ k d _ _ m w.heap.size _ hO.num hO.num (hbx3.below hbel (Nat.le_refl _)) (hm3.below hbel (Nat.le_refl _)) HM0.out hOb hOb).mono ?_
      rintro e4 w4 ⟨o4, n4, c4, rfl, h4, hb4⟩
      rw [pow_sq] at h4
      have hbel4 := hbel.trans (hb4.mono hbel.size)
      have hce : w4.cell? ⟨blk eo, off eo + i / 32, none⟩ = some (.int .u32 (Dg.dg LB e (i / 32) : Nat)) := (he3.rd.below hbel4 (Nat.le_refl _)).cell (i / 32) (by omega)
      have hse := he3.rd.sh
      obtain ⟨z, hz⟩ : ∃ z, z = Dg.dg LB e (i / 32) := ⟨_, rfl⟩
      rw [← hz] at hce
      have hzl : z < 4294967296 := by rw [hz]; exact Dg.dg_lt LBpos e _
      have hb := bit_fact hz
      have hhf := half_eq e i
      obtain ⟨b, hbd⟩ : ∃ b, b = e / 2 ^ i % 2 := ⟨_, rfl⟩
      rw [← hbd] at hb hhf
      have hb2 : b < 2 := by rw [hbd]; exact Nat.mod_lt _ (by omega)
      have HHF := Lib.hid hhf; clear hz hbd hhf
      by_cases hb1 : b = 1
      · subst hb1
        go_wp2_with fail
        refine (times_even _ _ mo _ _ _ _ k d _ _ m w.heap.size _ h4 (h3.below hbel4 (Nat.le_refl _)) (hbx3.below hbel4 (Nat.le_refl _)) (hm3.below hbel4 (Nat.le_refl _)) HM0.out ?_ ?_).mono ?_
        · rw [h4.len]; exact Nat.le_trans (Dg.len_mono LB2 (Nat.le_of_lt (Nat.mod_lt _ HM0.out))) (by rw [← hm.len]; exact hk)
        · rw [h3.len]; exact Nat.le_trans (Dg.len_mono LB2 (Nat.le_of_lt (Nat.mod_lt _ HM0.out))) (by rw [← hm.len]; exact hk)
        rintro e5 w5 ⟨o5, n5, c5, rfl, h5, hb5⟩
        rw [pow_sq_one] at h5
        have hbel5 := hbel4.trans (hb5.mono hbel4.size)
        go_wp2_with fail
        go_roundw
        case rel => exact ⟨⟨o5, n5, c5⟩, i, _, by omega, rfl, rfl, rfl, by rw [HHF.out]; exact h5, hbel5⟩
        case measure => simp [intOf]
      · obtain rfl : b = 0 := by omega
        go_wp2_with fail
        go_roundw
        case rel => exact ⟨⟨o4, n4, c4⟩, i, _, by omega, rfl, rfl, rfl, by rw [HHF.out]; exact h4, hbel4⟩
        case measure => simp [intOf]
end Go.Proofs.YtbmhiejggkdnkaaGreatDoor
