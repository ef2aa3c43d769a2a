/- pow: the walk for an odd modulus. -/
import Derived.Test.YtbmhiejggkdnkaaGreatDoorPow2
namespace Go.Proofs.YtbmhiejggkdnkaaGreatDoor
open Go.RowKit

theorem Bx.other {w : World} {g : Nat} {v : Value} {t : Nat} (h : Bx w g v t) {a : Addr} {u : Value} (ha : a.block ≠ g) : Bx (w.setCell a u) g v t :=
  (Below.heap_setCell _ _ _ _ (fun e => ha e.symm)).trans h

theorem dg_pow_self (k : Nat) : Dg.dg LB (LB ^ k) k = 1 := by
  unfold Dg.dg
  rw [Nat.div_self (Nat.pow_pos LBpos)]; rfl
theorem dg_pow_other {k j : Nat} (h : j < k) : Dg.dg LB (LB ^ k) j = 0 := by
  obtain ⟨t, rfl⟩ : ∃ t, k = j + 1 + t := ⟨k - (j + 1), by omega⟩
  unfold Dg.dg
  rw [Nat.pow_add, Nat.pow_succ, Nat.mul_assoc, Nat.mul_div_cancel_left _ (Nat.pow_pos LBpos)]
  exact Nat.mul_mod_right _ _
theorem len_pow (k : Nat) : Dg.len LB (LB ^ k) = k + 1 := by
  have h1 := (Dg.len_le_iff LB2 (LB ^ k) (k + 1)).2 (by
    rw [Nat.pow_succ]
    have := Nat.mul_le_mul_left (LB ^ k) LB2
    have := Nat.pow_pos (n := k) LBpos
    omega)
  have h2 : ¬ Dg.len LB (LB ^ k) ≤ k := fun h => absurd ((Dg.len_le_iff LB2 _ _).1 h) (Nat.lt_irrefl _)
  omega

set_option maxRecDepth 100000 in
set_option maxHeartbeats 3200000 in
theorem pow_odd (ao eo mo : Option Addr) (na ca ne ce k d a e m : Nat) (w : World) (ha : Num w ao na ca a) (he : Num w eo ne ce e) (hm : Num w mo k d m) (hod : m % 2 = 1) (hna : na ≤ 128) (hne : ne ≤ 128) (hk : k ≤ 128) :
    Calls Tryz.prog 41 #[.slice ao na ca, .slice eo ne ce, .slice mo k d] w (RetNum w (a ^ e % m)) := by
  have hm0 : 0 < m := by omega
  have hk0 : 0 < k := by rw [hm.len]; exact (Dg.len_pos_iff LB2 m).2 hm0
  have hc := hm.rd.cell 0 hk0
  rw [Nat.add_zero] at hc
  have hs := hm.rd.sh
  obtain ⟨x0, hx0⟩ : ∃ x, x = Dg.dg LB m 0 := ⟨_, rfl⟩
  rw [← hx0] at hc
  have hxo : x0 % 2 = 1 := by
    rw [hx0]; unfold Dg.dg; rw [Nat.pow_zero, Nat.div_one, LB_eq]; omega
  have hxl : x0 < 4294967296 := by rw [hx0]; exact Dg.dg_lt LBpos _ _
  have HX := Lib.hid hx0; have HM0 := Lib.hid hm0; have HOD := Lib.hid hod; clear hx0 hm0 hod
  have hand : bits BinOp.and IntKind.u32 (x0 : Int) 1 = 1 := by rw [and_one_u32 x0 hxl, hxo]; rfl
  have hbo : Below w.heap.size w (w.alloc (.cells #[.slice mo k d] 52)) := (Below.refl _ _).alloc (Nat.le_refl _) _
  have hbx := Bx.new w (.slice mo k d) 52
  have ha1 := ha.below hbo (Nat.le_refl _)
  have he1 := he.below hbo (Nat.le_refl _)
  have hm1 := hm.below hbo (Nat.le_refl _)
  have hcm := hbx.cell
  have hc1 : (w.alloc (.cells #[.slice mo k d] 52)).cell? ⟨blk mo, off mo, none⟩ = some (.int .u32 (x0 : Nat)) := by
    have h := hm1.rd.cell 0 hk0
    rw [Nat.add_zero, ← HX.out] at h; exact h
  have hmf : ∀ (fn : Fn) (first cap : Array Value) (w : World), (Instr.makeFunc fn first cap).run Tryz.prog w = .ok (.func fn first cap) w := fun _ _ _ _ => rfl
  go_enter Tryz.func41, Tryz.ntmps41
  go_wp2_with fail
  obtain ⟨W1, hW1⟩ : ∃ W1, W1 = w.alloc (.cells #[.slice mo k d] 52) := ⟨_, rfl⟩
  have hsz : W1.heap.size = w.heap.size + 1 := by rw [hW1]; simp
  rw [← hW1] at hbo hbx ha1 he1 hm1 hcm hc1 ⊢
  clear hW1
  rw [← hsz]
  obtain ⟨gm, hgm⟩ : ∃ gm, gm = w.heap.size := ⟨_, rfl⟩
  rw [← hgm] at hbx hcm ⊢
  have HSZ := Lib.hid hsz; have HGM := Lib.hid hgm
  clear hc hc1 hcm hsz hgm
  go_loopw [23] (fun iv wr => ∃ i kk : Nat, i ≤ 5 ∧ iv = .int .i64 i ∧ kk < 4294967296 ∧ Hid (MM i ∣ x0 * kk + 1) ∧ Bx wr W1.heap.size (.int .u32 kk) 74 ∧ Below W1.heap.size W1 wr) (fun iv _ => 5 - (intOf iv).toNat)
  case atStart => exact ⟨0, 1, by omega, rfl, by omega, odd_dvd hxo, Bx.new _ _ _, (Below.refl _ _).alloc (Nat.le_refl _) _⟩
  case round =>
    obtain ⟨i, kk, hi, rfl, hkl, hdv, hbk, hbel⟩ := hrel
    have hmr := hm1.below hbel (Nat.le_refl _)
    have hbxr := hbx.below hbel (Nat.le_refl _)
    have hcm := hbxr.cell
    have hc1 : wr.cell? ⟨blk mo, off mo, none⟩ = some (.int .u32 (x0 : Nat)) := by
      have h := hmr.rd.cell 0 hk0
      rw [Nat.add_zero, ← HX.out] at h; exact h
    by_cases hi5 : i < 5
    · have hck := hbk.cell
      have hfk := hbk.free
      go_wp2_with fail
      go_region
      go_wp2_with fail
      go_roundw
      case rel =>
        refine ⟨i + 1, nextK x0 kk 4294967296, by omega, by go_num, Nat.mod_lt _ (by omega), dvd_step (MM_dvd i (by omega)) hdv.out, ?_, ?_⟩
        · rw [nextK_cast]; exact Bx.set hbk
        · exact hbel.drew.setCell (Nat.le_refl _) _
      case measure => simp [intOf]; omega
    · obtain rfl : i = 5 := by omega
      have hkk : LB ∣ m * kk + 1 := by
        have h1 : LB ∣ x0 * kk + 1 := hdv.out
        have h2 : x0 = m % LB := by rw [HX.out]; unfold Dg.dg; rw [Nat.pow_zero, Nat.div_one]
        have h3 := Nat.mod_add_div m LB
        rw [h2] at h1
        have h4 : m * kk + 1 = (m % LB * kk + 1) + LB * (m / LB * kk) := by
          rw [← Nat.mul_assoc]
          have h5 : m * kk = (m % LB + LB * (m / LB)) * kk := by rw [h3]
          rw [h5, Nat.add_mul]; omega
        rw [h4]
        exact Nat.dvd_add h1 (Nat.dvd_mul_right _ _)
      have HKK := Lib.hid hkk; clear hkk
      have hck := hbk.cell
      go_wp2_with (refine wpList_make_row _ rfl (.tmp 36) (.tmp 36) _ rfl 74 .u32 4 Tryz.underlying52 info32 .i64 .i64 _ _ (k + 1) rfl rfl (by omega) (by omega) (by omega) (by omega) ?_; intro g w2 hg hown2 hb2; have hbA := (Below.refl w2.heap.size w2).alloc (Nat.le_refl _) (.cells #[.slice (some ⟨g, 0, none⟩) (k + 1) (k + 1)] 52); have hcm2 := ((hbxr.below hb2 (Nat.le_refl _)).below hbA (Nat.le_refl _)).cell; have hbr2 := Bx.new w2 (.slice (some ⟨g, 0, none⟩) (k + 1) (k + 1)) 52; have hcr2 := hbr2.cell; have hownA := hown2.below hbA (Nat.le_refl _); have hcg := hownA.cell k (by omega); have hfg := hownA.frozen k; have hglt := hown2.lt; have hbelA := hb2.trans (hbA.mono hb2.size))
      have hownS := own_set_int (v := 1) hown2 (s := 1) (h := Dg.dg LB (LB ^ k)) rfl (dg_pow_self k).symm (fun j hj hne => (dg_pow_other (by omega)).symm)
      have hbelS : Below wr.heap.size wr _ := hb2.setCell (p := ⟨g, k, none⟩) hg (.int .u32 1)
      obtain ⟨WS, hWS⟩ : ∃ WS, WS = w2.setCell ⟨g, k, none⟩ (.int .u32 1) := ⟨_, rfl⟩
      have hszS : WS.heap.size = w2.heap.size := by rw [hWS]; simp [World.setCell]
      rw [← hWS] at hownS hbelS ⊢
      rw [← hszS]
      have hbrS := Bx.new WS (.slice (some ⟨g, 0, none⟩) (k + 1) (k + 1)) 52
      have hA : Below WS.heap.size WS (WS.alloc (.cells #[.slice (some ⟨g, 0, none⟩) (k + 1) (k + 1)] 52)) := (Below.refl _ _).alloc (Nat.le_refl _) _
      have hown3 := hownS.below hA (Nat.le_refl _)
      have hbel3 := hbelS.trans (hA.mono hbelS.size)
      clear hWS hcm2 hbr2 hcr2 hownA hcg hfg hbelA hbA hown2 hb2 hck hcm hc1 hownS hszS hbelS hA hglt
      obtain ⟨W3, hW3⟩ : ∃ W3, W3 = WS.alloc (.cells #[.slice (some ⟨g, 0, none⟩) (k + 1) (k + 1)] 52) := ⟨_, rfl⟩
      have hsz3 : W3.heap.size = WS.heap.size + 1 := by rw [hW3]; simp
      rw [← hW3] at hown3 hbel3 hbrS ⊢
      rw [← hsz3]
      clear hW3 
      obtain ⟨gr, hgr⟩ : ∃ gr, gr = WS.heap.size := ⟨_, rfl⟩
      obtain ⟨gk, hgk⟩ : ∃ gk, gk = W1.heap.size := ⟨_, rfl⟩
      have hb13 := hbel.trans (hbel3.mono hbel.size)
      have hbo3 : Below w.heap.size w W3 := hbo.trans (hb13.mono hbo.size)
      rw [← hgr] at hbrS ⊢
      have hbk3 := hbk.below hbel3 (Nat.le_refl _)
      rw [← hgk] at hbk3 ⊢
      clear hsz3 hgr hgk
      have hr3 : Num W3 (some ⟨g, 0, none⟩) (k + 1) (k + 1) (LB ^ k) := ⟨(len_pow k).symm, hown3.rd⟩
      have hm3 := hm1.below hb13 (Nat.le_refl _)
      have he3 := he1.below hb13 (Nat.le_refl _)
      have ha3 := ha1.below hb13 (Nat.le_refl _)
      have hbx3 := hbx.below hb13 (Nat.le_refl _)
      clear hown3 hbel3 hbel hb13 hm1 he1 ha1 hbx hmr hbxr hbk hbo hdv hi hi5
      have hb1 : Below W3.heap.size W3 (W3.alloc (.cells #[.int .u32 1] 74)) := (Below.refl _ _).alloc (Nat.le_refl _) _
      refine (into_odd _ mo _ 1 1 k d 1 m gm gr _ _ (LB ^ k) _ (one_num W3 _ rfl) (hbx3.alloc _) (hbrS.alloc _) (hr3.below hb1 (Nat.le_refl _)) (by omega) (hm3.below hb1 (Nat.le_refl _)) HM0.out (by omega)).mono ?_
      rintro e4 w4 ⟨o4, n4, c4, rfl, h4, hb4⟩
      have hb34 : Below W3.heap.size W3 w4 := hb1.trans (hb4.mono hb1.size)
      go_wp2_with fail
      refine (into_odd _ mo _ na ca k d a m gm gr _ _ (LB ^ k) _ (ha3.below hb34 (Nat.le_refl _)) (hbx3.below hb34 (Nat.le_refl _)) (hbrS.below hb34 (Nat.le_refl _)) (hr3.below hb34 (Nat.le_refl _)) (by omega) (hm3.below hb34 (Nat.le_refl _)) HM0.out (by omega)).mono ?_
      rintro e5 w5 ⟨o5, n5, c5, rfl, h5, hb5⟩
      have hb35 : Below W3.heap.size W3 w5 := hb34.trans (hb5.mono hb34.size)
      go_wp2_with fail
      have hmL := hm3.below hb35 (Nat.le_refl _)
      have heL := he3.below hb35 (Nat.le_refl _)
      have hbxL := hbx3.below hb35 (Nat.le_refl _)
      have hbkL := hbk3.below hb35 (Nat.le_refl _)
      have hb05 : Below w.heap.size w w5 := hbo3.trans (hb35.mono hbo3.size)
      have h4' := h4.below hb5 (Nat.le_refl _)
      have hel : e < LB ^ ne := he.lt
      have HEL := Lib.hid hel
      have hco := odd_coprime HOD.out k
      have HCO := Lib.hid hco
      clear hb1 hb4 hb34 hb5 hb35 h4 hm3 he3 ha3 hbx3 hbk3 hbrS hr3 hel hbo3 hco
      go_loopw [12, 14] (fun ov iv wr => ∃ (O : Sl) (j : Nat) (x : Int), j ≤ 32 * ne ∧ x = (j : Int) - 1 ∧ iv = .int .i64 x ∧ ov = .slice O.a O.n O.c ∧ NumS wr O (LB ^ k * a ^ (e / 2 ^ j) % m) ∧ Below w5.heap.size w5 wr) (fun _ iv _ => (intOf iv + 1).toNat)
      case atStart =>
        refine ⟨⟨o4, n4, c4⟩, 32 * ne, _, Nat.le_refl _, ?_, rfl, rfl, ?_, Below.refl _ _⟩
        · simp
        · have h0 : e / 2 ^ (32 * ne) = 0 := by
            apply Nat.div_eq_of_lt
            rw [Nat.pow_mul]; exact HEL.out
          rw [h0, Nat.pow_zero, Nat.mul_comm]; exact h4'
      case round =>
        obtain ⟨O, j, x, hj, hx, rfl, rfl, hO, hbel⟩ := hrel
        clear h4'
        have hml : ∀ y, y % m ≤ m := fun y => Nat.le_of_lt (Nat.mod_lt _ HM0.out)
        by_cases hx0 : x < 0
        · obtain rfl : j = 0 := by omega
          go_wp2_with fail
          refine (back_odd _ mo _ _ k d _ m kk gm gk _ hO.num (hbxL.below hbel (Nat.le_refl _)) (hbkL.below hbel (Nat.le_refl _)) (hmL.below hbel (Nat.le_refl _)) HM0.out (hml _) HKK.out hk).mono ?_
          rintro e6 w6 ⟨z, hz1, hz2, o6, n6, c6, rfl, h6, hb6⟩
          have h7 := mont_back HCO.out hz1 rfl hz2
          rw [Nat.pow_zero, Nat.div_one] at h7
          have H7 := Lib.hid h7
          clear hz1 hz2 h7
          go_wp2_with fail
          go_ret
          rw [H7.out] at h6
          exact ⟨_, _, _, rfl, h6, hb05.trans ((hbel.trans (hb6.mono hbel.size)).mono hb05.size)⟩
        · obtain ⟨i, rfl⟩ := Int.eq_ofNat_of_zero_le (by omega : 0 ≤ x)
          obtain rfl : j = i + 1 := by omega
          clear hx hx0
          go_wp2_with fail
          refine (times_odd _ _ mo _ _ _ _ k d _ _ m kk gm gk _ hO.num hO.num (hbxL.below hbel (Nat.le_refl _)) (hbkL.below hbel (Nat.le_refl _)) (hmL.below hbel (Nat.le_refl _)) HM0.out (hml _) (hml _) HKK.out hk).mono ?_
          rintro e6 w6 ⟨z6, hz1, hz2, o6, n6, c6, rfl, h6, hb6⟩
          have h7 := mont_mul HCO.out hz1 rfl rfl hz2
          rw [← Nat.two_mul] at h7
          rw [h7] at h6
          clear hz1 hz2 h7
          have hbel6 := hbel.trans (hb6.mono hbel.size)
          have hce : w6.cell? ⟨blk eo, off eo + i / 32, none⟩ = some (.int .u32 (Dg.dg LB e (i / 32) : Nat)) := (heL.rd.below hbel6 (Nat.le_refl _)).cell (i / 32) (by omega)
          have hse := heL.rd.sh
          obtain ⟨z, hz⟩ : ∃ z, z = Dg.dg LB e (i / 32) := ⟨_, rfl⟩
          rw [← hz] at hce
          have hzl : z < 4294967296 := by rw [hz]; exact Dg.dg_lt LBpos e _
          have hb := bit_fact hz
          have hhf := half_eq e i
          obtain ⟨b, hbd⟩ : ∃ b, b = e / 2 ^ i % 2 := ⟨_, rfl⟩
          rw [← hbd] at hb hhf
          have hb2 : b < 2 := by rw [hbd]; exact Nat.mod_lt _ (by omega)
          have HHF := Lib.hid hhf; clear hz hbd hhf
          by_cases hb1 : b = 1
          · subst hb1
            go_wp2_with fail
            refine (times_odd _ _ mo _ _ _ _ k d _ _ m kk gm gk _ h6 (h5.below hbel6 (Nat.le_refl _)) (hbxL.below hbel6 (Nat.le_refl _)) (hbkL.below hbel6 (Nat.le_refl _)) (hmL.below hbel6 (Nat.le_refl _)) HM0.out (hml _) (hml _) HKK.out hk).mono ?_
            rintro e7 w7 ⟨z7, hz1, hz2, o7, n7, c7, rfl, h7, hb7⟩
            have h8 := mont_mul (F := 1) HCO.out hz1 rfl (by rw [Nat.pow_one, Nat.mul_comm]) hz2
            rw [h8] at h7
            clear hz1 hz2 h8
            have hbel7 := hbel6.trans (hb7.mono hbel6.size)
            go_wp2_with fail
            go_roundw
            case rel => exact ⟨⟨o7, n7, c7⟩, i, _, by omega, rfl, rfl, rfl, by rw [HHF.out]; exact h7, hbel7⟩
            case measure => simp [intOf]
          · obtain rfl : b = 0 := by omega
            go_wp2_with fail
            go_roundw
            case rel => exact ⟨⟨o6, n6, c6⟩, i, _, by omega, rfl, rfl, rfl, by rw [HHF.out]; exact h6, hbel6⟩
            case measure => simp [intOf]

/-- A power, by any modulus. -/
theorem pow_any (ao eo mo : Option Addr) (na ca ne ce k d a e m : Nat) (w : World) (ha : Num w ao na ca a) (he : Num w eo ne ce e) (hm : Num w mo k d m) (hm0 : 0 < m) (hna : na ≤ 128) (hne : ne ≤ 128) (hk : k ≤ 128) :
    Calls Tryz.prog 41 #[.slice ao na ca, .slice eo ne ce, .slice mo k d] w (RetNum w (a ^ e % m)) := by
  rcases Nat.mod_two_eq_zero_or_one m with h | h
  · exact pow_even ao eo mo na ca ne ce k d a e m w ha he hm hm0 h hna hne hk
  · exact pow_odd ao eo mo na ca ne ce k d a e m w ha he hm h hna hne hk
end Go.Proofs.YtbmhiejggkdnkaaGreatDoor
