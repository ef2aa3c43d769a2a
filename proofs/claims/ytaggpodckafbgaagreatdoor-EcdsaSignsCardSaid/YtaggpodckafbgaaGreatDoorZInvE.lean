/- inv: the walk. -/
import Derived.Test.YtaggpodckafbgaaGreatDoorZT2
import Derived.Test.YtaggpodckafbgaaGreatDoorZInvPlain
import Derived.Deep.LoopGhost
namespace Go.Proofs.YtaggpodckafbgaaGreatDoor
open Go.RowKit

/-- A number in a slice, told by one word. -/
def NumS (w : World) (s : Sl) (v : Nat) : Prop := Num w s.a s.n s.c v
theorem NumS.below {w w' : World} {s : Sl} {v : Nat} (h : NumS w s v) (hb : Below w.heap.size w w') : NumS w' s v := Num.below h hb (Nat.le_refl _)
theorem NumS.num {w : World} {s : Sl} {v : Nat} (h : NumS w s v) : Num w s.a s.n s.c v := h

/-- What inv answers: the inverse, or that there is none. -/
def InvPost (a m : Nat) (w : World) (e : Ending) (w' : World) : Prop :=
  (Nat.gcd m a ≠ 1 ∧ RetErrE w errNone e w') ∨ (Nat.gcd m a = 1 ∧ ∃ x, x < m ∧ x * a % m = 1 % m ∧ RetNumE w x e w')

theorem one_num (w : World) (b : Nat) (hb : b = w.heap.size) : Num (w.alloc (.cells #[.int .u32 1] 64)) (some ⟨b, 0, none⟩) 1 1 1 := by
  subst hb
  have hl : Dg.len LB 1 = 1 := by rw [Dg.len_pos LB2 (by omega), Nat.div_eq_of_lt (by rw [LB_eq]; omega), Dg.len_zero]
  refine ⟨hl.symm, Sh.some _ _ _, Nat.le_refl _, by decide, fun j hj => ?_⟩
  obtain rfl : j = 0 := by omega
  have h := new_cells w #[.int .u32 1] 64 0 (.int .u32 1) rfl
  have hd : Dg.dg LB 1 0 = 1 := by unfold Dg.dg; rw [Nat.pow_zero, Nat.div_one, Nat.mod_eq_of_lt (by rw [LB_eq]; omega)]
  rw [hd]; exact h

set_option maxRecDepth 100000 in
set_option maxHeartbeats 1600000 in
theorem ninv_any (ao mo : Option Addr) (n c k d a m : Nat) (w : World) (ha : Num w ao n c a) (hm : Num w mo k d m) (hm0 : 0 < m) (hn : n ≤ 128) (hk : k ≤ 128) :
    Calls Tryz.prog 69 #[.slice ao n c, .slice mo k d] w (InvPost a m w) := by
  have hml : m < LB ^ 128 := Nat.lt_of_lt_of_le hm.lt (Nat.pow_le_pow_right LBpos hk)
  have HML := Lib.hid hml; have HM0 := Lib.hid hm0; clear hml hm0
  go_enter Tryz.func69, Tryz.ntmps69
  go_wp2_with fail
  refine (left_any ao mo n c k d a m _ ha hm HM0.out (by omega)).mono ?_
  rintro e w1 ⟨ro, rn, rc, rfl, hr, hb1⟩
  go_wp2_with fail
  have hb2 : Below w1.heap.size w1 ((w1.alloc (.cells #[] 64)).alloc (.cells #[.int .u32 1] 64)) := ((Below.refl _ _).alloc (Nat.le_refl _) _).alloc (by simp) _
  refine (left_any _ mo 1 1 k d 1 m _ (one_num _ _ (by simp)) ((hm.below hb1 (Nat.le_refl _)).below hb2 (Nat.le_refl _)) HM0.out (by omega)).mono ?_
  rintro e w2 ⟨yo, yn, yc, rfl, hy, hb3⟩
  have hb23 : Below w1.heap.size w1 w2 := hb2.trans (hb3.mono hb2.size)
  have hbel : Below w.heap.size w w2 := hb1.trans (hb23.mono hb1.size)
  have hx0 : Num w2 (some ⟨w1.heap.size, 0, none⟩) 0 0 0 := ⟨(Dg.len_zero LB).symm, Sh.some _ _ _, Nat.le_refl _, by decide, fun j hj => absurd hj (Nat.not_lt_zero j)⟩
  have hm2 := hm.below hbel (Nat.le_refl _)
  have hr2 := hr.below hb23 (Nat.le_refl _)
  go_wp2_with fail
  go_loopg [6, 7, 8, 9] (a % m) (fun q sp sq sx sy wr => ∃ (P Q X Y : Sl) (p x y : Nat), sp = .slice P.a P.n P.c ∧ sq = .slice Q.a Q.n Q.c ∧ sx = .slice X.a X.n X.c ∧ sy = .slice Y.a Y.n Y.c ∧ NumS wr P p ∧ NumS wr Q q ∧ NumS wr X x ∧ NumS wr Y y ∧ Hid (p ≤ m ∧ q < m ∧ x < m ∧ y < m ∧ x * a % m = p % m ∧ y * a % m = q % m ∧ Nat.gcd p q = Nat.gcd m a) ∧ Below w.heap.size w wr)
  case atStart =>
    refine ⟨⟨mo, k, d⟩, ⟨ro, rn, rc⟩, ⟨_, 0, 0⟩, ⟨yo, yn, yc⟩, m, 0, 1 % m, rfl, rfl, rfl, rfl, hm2, hr2, hx0, hy, ?_, hbel⟩
    refine ⟨Nat.le_refl _, Nat.mod_lt _ HM0.out, HM0.out, Nat.mod_lt _ HM0.out, by simp, ?_, ?_⟩
    · rw [Nat.mod_mul_mod, Nat.one_mul, Nat.mod_mod]
    · rw [Nat.gcd_comm m (a % m), ← Nat.gcd_rec]
  case round =>
    obtain ⟨P, Q, X, Y, p, x, y, rfl, rfl, rfl, rfl, hP, hQ, hX, hY, hinv, hbl⟩ := hrel
    clear hx0 hm2 hr2 hy hr
    have hmr := hm.below hbl (Nat.le_refl _)
    have hqz : Q.n = 0 ↔ gk = 0 := by
      rw [hQ.num.len]
      exact ⟨Dg.eq_zero_of_len LB2, fun h => by rw [h, Dg.len_zero]⟩
    have HQZ := Lib.hid hqz; clear hqz
    by_cases hq0 : Q.n = 0
    · obtain rfl : gk = 0 := HQZ.out.1 hq0
      have HI := hinv.out
      have hpg : p = Nat.gcd m a := by rw [← HI.2.2.2.2.2.2, Nat.gcd_zero_right]
      have hxx : x * a % m = p % m := HI.2.2.2.2.1
      have hxm : x < m := HI.2.2.1
      have hq00 : ((Q.n : Int)) ≤ 0 := by omega
      have HPG := Lib.hid hpg; have HXX := Lib.hid hxx; have HXM := Lib.hid hxm
      clear HI hinv hpg hxx hxm
      by_cases hp1 : p = 1
      · have hc1 : cmpN p 1 = 0 := by rw [hp1, cmpN_eq]
        have HC1 := Lib.hid hc1; have HP1 := Lib.hid hp1; clear hc1 hp1
        go_wp2_with fail
        have hbo : Below wr.heap.size wr (wr.alloc (.cells #[.int .u32 1] 64)) := (Below.refl _ _).alloc (Nat.le_refl _) _
        refine (cmp_any _ _ _ _ _ _ p 1 _ (hP.below hbo).num (one_num _ _ rfl)).mono ?_
        rintro e w4 ⟨rfl, qq, rfl⟩
        rw [HC1.out]
        go_wp2_with fail
        go_ret2
        refine Or.inr ⟨by rw [← HPG.out]; exact HP1.out, x, HXM.out, by rw [HXX.out, HP1.out], _, _, _, rfl, (hX.below hbo).num.drewN qq, below_drawn (hbl.trans (hbo.mono hbl.size)) qq⟩
      · obtain ⟨z, hz⟩ : ∃ z, z = cmpN p 1 := ⟨_, rfl⟩
        have hz0 : (z != 0) = true := by
          rw [hz]
          have : cmpN p 1 ≠ 0 := by
            unfold cmpN
            split
            · decide
            · decide
          simpa using this
        have HZ := Lib.hid hz; have HP1 := Lib.hid hp1; clear hz hp1
        go_wp2_with fail
        have hbo : Below wr.heap.size wr (wr.alloc (.cells #[.int .u32 1] 64)) := (Below.refl _ _).alloc (Nat.le_refl _) _
        refine (cmp_any _ _ _ _ _ _ p 1 _ (hP.below hbo).num (one_num _ _ rfl)).mono ?_
        rintro e w4 ⟨rfl, qq, rfl⟩
        rw [← HZ.out]
        go_wp2_with fail
        go_ret2
        exact Or.inl ⟨by rw [← HPG.out]; exact HP1.out, rfl, below_drawn (hbl.trans (hbo.mono hbl.size)) qq⟩
    · have hqp : 0 < gk := Nat.pos_of_ne_zero fun h => hq0 (HQZ.out.2 h)
      have hQn : 0 < Q.n := Nat.pos_of_ne_zero hq0
      have HI := hinv.out
      have bP : P.n ≤ 128 := num_len_le hP.num (Nat.lt_of_le_of_lt HI.1 HML.out)
      have HHI := Lib.hid HI; have HQP := Lib.hid hqp
      clear HI hq0 hqp hinv
      go_wp2_with fail
      refine (div_any _ _ _ _ _ _ p gk _ hP.num hQ.num HQP.out (by omega)).mono ?_
      rintro e w4 ⟨no, nn, nc, so, sn, sc, rfl, hN, hR, hb4⟩
      go_wp2_with fail
      have bX : X.n ≤ 128 := num_len_le hX.num (Nat.lt_trans HHI.out.2.2.1 HML.out)
      have bY : Y.n ≤ 128 := num_len_le hY.num (Nat.lt_trans HHI.out.2.2.2.1 HML.out)
      have bN : nn ≤ 128 := num_len_le hN (Nat.lt_of_le_of_lt (Nat.le_trans (Nat.div_le_self _ _) HHI.out.1) HML.out)
      have hm4 := hmr.below hb4 (Nat.le_refl _)
      refine (add_any _ _ _ _ _ _ x m _ (hX.below hb4).num hm4 (by omega) (by omega)).mono ?_
      rintro e w5 ⟨ao5, n5, c5, rfl, h5, hb5⟩
      go_wp2_with fail
      refine (mul_any _ _ _ _ _ _ (p / gk) y _ (hN.below hb5 (Nat.le_refl _)) ((hY.below hb4).below hb5).num (by omega) (by omega)).mono ?_
      rintro e w6 ⟨ao6, n6, c6, rfl, h6, hb6⟩
      go_wp2_with fail
      have hm6 := (hm4.below hb5 (Nat.le_refl _)).below hb6 (Nat.le_refl _)
      have hny : p / gk * y < LB ^ 256 := by
        have h1 : LB ^ 128 * LB ^ 128 = LB ^ 256 := by rw [← Nat.pow_add]
        rw [← h1]
        exact Nat.mul_lt_mul'' (Nat.lt_of_le_of_lt (Nat.le_trans (Nat.div_le_self _ _) HHI.out.1) HML.out) (Nat.lt_trans HHI.out.2.2.2.1 HML.out)
      have b6 : n6 ≤ 256 := num_len_le h6 hny
      clear hny
      refine (left_any _ _ _ _ _ _ (p / gk * y) m _ h6 hm6 HM0.out (by omega)).mono ?_
      rintro e w7 ⟨ao7, n7, c7, rfl, h7, hb7⟩
      go_wp2_with fail
      have h57 := (h5.below hb6 (Nat.le_refl _)).below hb7 (Nat.le_refl _)
      have hsle : p / gk * y % m ≤ x + m := Nat.le_trans (Nat.le_of_lt (Nat.mod_lt _ HM0.out)) (Nat.le_add_left _ _)
      have b5 : n5 ≤ 200 := num_len_le h5 (by
        have h1 := HHI.out.2.2.1; have h2 := HML.out
        have h3 : LB ^ 128 * 2 ≤ LB ^ 200 := by
          have h4 : LB ^ 128 * LB ^ 72 = LB ^ 200 := by rw [← Nat.pow_add]
          rw [← h4]
          refine Nat.mul_le_mul_left _ (Nat.le_trans LB2 ?_)
          have h5 : LB ^ 1 ≤ LB ^ 72 := Nat.pow_le_pow_right LBpos (by omega)
          rwa [Nat.pow_one] at h5
        omega)
      have HSLE := Lib.hid hsle; clear hsle
      refine (sub_any _ _ _ _ _ _ (x + m) (p / gk * y % m) _ h57 h7 (by omega) HSLE.out).mono ?_
      rintro e w8 ⟨ao8, n8, c8, rfl, h8, hb8⟩
      go_wp2_with fail
      have b8 : n8 ≤ 200 := by
        have h1 := h8.len; have h2 := h5.len
        rw [h1]; refine Nat.le_trans (Dg.len_mono LB2 (Nat.sub_le _ _)) ?_
        rw [← h2]; exact b5
      have hm8 := (hm6.below hb7 (Nat.le_refl _)).below hb8 (Nat.le_refl _)
      refine (left_any _ _ _ _ _ _ _ m _ h8 hm8 HM0.out (by omega)).mono ?_
      rintro e w9 ⟨ao9, n9, c9, rfl, h9, hb9⟩
      go_wp2_with fail
      have hbb : Below wr.heap.size wr w9 := by
        have e1 := hb4.trans (hb5.mono hb4.size)
        have e2 := e1.trans (hb6.mono e1.size)
        have e3 := e2.trans (hb7.mono e2.size)
        have e4 := e3.trans (hb8.mono e3.size)
        exact e4.trans (hb9.mono e4.size)
      have hR9 : NumS w9 ⟨so, sn, sc⟩ (p % gk) := by
        have e5 := hR.below hb5 (Nat.le_refl _)
        have e6 := e5.below hb6 (Nat.le_refl _)
        have e7 := e6.below hb7 (Nat.le_refl _)
        have e8 := e7.below hb8 (Nat.le_refl _)
        exact e8.below hb9 (Nat.le_refl _)
      go_roundg (p % gk)
      case measure => exact Nat.mod_lt _ HQP.out
      case rel =>
        refine ⟨Q, ⟨so, sn, sc⟩, Y, ⟨ao9, n9, c9⟩, gk, y, _, rfl, rfl, rfl, rfl, hQ.below hbb, hR9, hY.below hbb, h9, ?_, hbl.trans (hbb.mono hbl.size)⟩
        have H := HHI.out
        refine ⟨Nat.le_of_lt H.2.1, Nat.lt_trans (Nat.mod_lt _ HQP.out) H.2.1, H.2.2.2.1, Nat.mod_lt _ HM0.out, H.2.2.2.2.2.1, ?_, by rw [gcd_step]; exact H.2.2.2.2.2.2⟩
        rw [Nat.mod_mul_mod]
        exact euclid_step H.2.2.2.2.1 H.2.2.2.2.2.1 rfl rfl rfl (Nat.sub_add_cancel HSLE.out)
end Go.Proofs.YtaggpodckafbgaaGreatDoor
