/- The reference's Gcd and Pow: the walks. -/
import Derived.Test.YtbmhiejggkdnkaaGreatDoorRLong
import Derived.Test.YtbmhiejggkdnkaaGreatDoorRPlus
import Derived.Test.YtbmhiejggkdnkaaGreatDoorInv
namespace Go.Proofs.YtbmhiejggkdnkaaGreatDoor
open Go.RowKit

theorem gcd_even_even {x y : Nat} (hx : x % 2 = 0) (hy : y % 2 = 0) : Nat.gcd x y = 2 * Nat.gcd (x / 2) (y / 2) := by
  rw [← Nat.gcd_mul_left, show 2 * (x / 2) = x from by omega, show 2 * (y / 2) = y from by omega]
theorem co_two {y : Nat} (hy : y % 2 = 1) : Nat.Coprime 2 y := by
  unfold Nat.Coprime
  rw [Nat.gcd_rec, hy]; rfl
theorem gcd_even_odd {x y : Nat} (hx : x % 2 = 0) (hy : y % 2 = 1) : Nat.gcd (x / 2) y = Nat.gcd x y := by
  have h := (co_two hy).gcd_mul_left_cancel (x / 2)
  rw [show 2 * (x / 2) = x from by omega] at h
  exact h.symm
theorem gcd_odd_even {x y : Nat} (hx : x % 2 = 1) (hy : y % 2 = 0) : Nat.gcd x (y / 2) = Nat.gcd x y := by
  rw [Nat.gcd_comm, gcd_even_odd hy hx, Nat.gcd_comm]
theorem gcd_sub_left' {x y : Nat} (h : y ≤ x) : Nat.gcd (x - y) y = Nat.gcd x y := by
  have e := Nat.gcd_add_self_left y (x - y)
  rw [show x - y + y = x from by omega] at e
  exact e.symm
theorem gcd_sub_right' {x y : Nat} (h : x ≤ y) : Nat.gcd x (y - x) = Nat.gcd x y := by
  rw [Nat.gcd_comm, gcd_sub_left' h, Nat.gcd_comm]
theorem dg_parity (x : Nat) : Dg.dg DB x 0 % 2 = x % 2 := by
  unfold Dg.dg
  rw [Nat.pow_zero, Nat.div_one, DB_eq]
  omega

def RNS (w : World) (s : Sl) (v : Nat) : Prop := RN w s.a s.n s.c v
theorem RNS.rn {w : World} {s : Sl} {v : Nat} (h : RNS w s v) : RN w s.a s.n s.c v := h
theorem RNS.below {w w' : World} {s : Sl} {v : Nat} (h : RNS w s v) (hb : Below w.heap.size w w') : RNS w' s v := RN.below h hb (Nat.le_refl _)

/-- What holds at each round. -/
def GI (a b x y t K : Nat) : Prop := x < DB ^ K ∧ y < DB ^ K ∧ Nat.gcd x y * 2 ^ t = Nat.gcd a b

theorem GI.tb {a b x y t K : Nat} (h : GI a b x y t K) (hx : 0 < x) (_hy : 0 < y) (hg : Nat.gcd a b < DB ^ K) : t < 16 * K := by
  have h1 : 0 < Nat.gcd x y := Nat.gcd_pos_of_pos_left _ hx
  have h2 : 2 ^ t ≤ Nat.gcd a b := by rw [← h.2.2]; exact Nat.le_mul_of_pos_left _ h1
  have h3 : 2 ^ t < 2 ^ (16 * K) := by
    rw [show DB = 2 ^ 16 from rfl, ← Nat.pow_mul] at hg
    exact Nat.lt_of_le_of_lt h2 hg
  exact (Nat.pow_lt_pow_iff_right (by omega)).1 h3

set_option maxRecDepth 100000 in
set_option maxHeartbeats 3200000 in
theorem rgcd_any (ao bo : Option Addr) (n c m d a b : Nat) (w : World) (ha : RN w ao n c a) (hb : RN w bo m d b) (hn : n ≤ 100000) (hm : m ≤ 100000) :
    Calls Tryz.prog 11 #[.slice ao n c, .slice bo m d] w (RetRN w (Nat.gcd a b)) := by
  obtain ⟨K, hK⟩ : ∃ K, K = max n m + 1 := ⟨_, rfl⟩
  have hKl : K ≤ 100001 := by omega
  have hal : a < DB ^ K := Nat.lt_of_lt_of_le ha.lt (Nat.pow_le_pow_right DBpos (by omega))
  have hbl : b < DB ^ K := Nat.lt_of_lt_of_le hb.lt (Nat.pow_le_pow_right DBpos (by omega))
  have hgl : Nat.gcd a b < DB ^ K := by
    rcases Nat.eq_zero_or_pos a with h | h
    · rw [h, Nat.gcd_zero_left]; exact hbl
    · exact Nat.lt_of_le_of_lt (Nat.gcd_le_left b h) hal
  have HG := Lib.hid hgl; have HAL := Lib.hid hal; have HBL := Lib.hid hbl
  clear hal hbl hgl hK
  go_enter Tryz.func11, Tryz.ntmps11
  go_wp2_with fail
  go_loopg [0, 1, 5] (a + b) (fun q sa sb st wr => ∃ (X Y : Sl) (x y t : Nat), sa = .slice X.a X.n X.c ∧ sb = .slice Y.a Y.n Y.c ∧ st = .int .i64 t ∧ t ≤ 16 * K ∧ RNS wr X x ∧ RNS wr Y y ∧ Hid (GI a b x y t K ∧ q = x + y) ∧ Below w.heap.size w wr)
  case atStart =>
    exact ⟨⟨ao, n, c⟩, ⟨bo, m, d⟩, a, b, 0, rfl, rfl, rfl, Nat.zero_le _, ha, hb, ⟨⟨HAL.out, HBL.out, by simp⟩, rfl⟩, Below.refl _ _⟩
  case round =>
    obtain ⟨X, Y, x, y, t, rfl, rfl, rfl, ht, hX, hY, hinv, hbel⟩ := hrel
    have hXl : X.n ≤ K := hX.rn.le hinv.out.1.1
    have hYl : Y.n ≤ K := hY.rn.le hinv.out.1.2.1
    have hX0 : X.n = 0 ↔ x = 0 := by rw [hX.rn.len]; exact ⟨Dg.eq_zero_of_len DB2, fun h => by rw [h, Dg.len_zero]⟩
    have hY0 : Y.n = 0 ↔ y = 0 := by rw [hY.rn.len]; exact ⟨Dg.eq_zero_of_len DB2, fun h => by rw [h, Dg.len_zero]⟩
    by_cases hgo : 0 < X.n ∧ 0 < Y.n
    · obtain ⟨hXp, hYp⟩ := hgo
      have hxp : 0 < x := by omega
      have hyp : 0 < y := by omega
      have htb := hinv.out.1.tb hxp hyp HG.out
      have hcx : wr.cell? ⟨blk X.a, off X.a + 0, none⟩ = some (.int .u64 (Dg.dg DB x 0 : Nat)) := hX.rn.rd.cell 0 hXp
      have hcy : wr.cell? ⟨blk Y.a, off Y.a + 0, none⟩ = some (.int .u64 (Dg.dg DB y 0 : Nat)) := hY.rn.rd.cell 0 hYp
      have hsx := hX.rn.rd.sh
      have hsy := hY.rn.rd.sh
      rw [Nat.add_zero] at hcx hcy
      obtain ⟨d1, hd1⟩ : ∃ d, d = Dg.dg DB x 0 := ⟨_, rfl⟩
      obtain ⟨d2, hd2⟩ : ∃ d, d = Dg.dg DB y 0 := ⟨_, rfl⟩
      have hp1 := dg_parity x
      have hp2 := dg_parity y
      rw [← hd1] at hcx hp1
      rw [← hd2] at hcy hp2
      have hl1 : d1 < 65536 := by rw [hd1]; exact Dg.dg_lt DBpos _ _
      have hl2 : d2 < 65536 := by rw [hd2]; exact Dg.dg_lt DBpos _ _
      have HI := Lib.hid hinv.out; have HXY := Lib.hid (And.intro hxp hyp)
      clear hinv hX0 hY0 hd1 hd2
      by_cases h1 : x % 2 = 0
      · have hb1 : (((d1 : Int) % 2) == 0) = true := by rw [beq_iff_eq]; omega
        by_cases h2 : y % 2 = 0
        · have hb2 : (((d2 : Int) % 2) == 0) = true := by rw [beq_iff_eq]; omega
          have HG2 := Lib.hid (gcd_even_even h1 h2)
          clear hp1 hp2 h1 h2
          go_wp2_with fail
          refine (rhalf_any _ _ _ x _ hX.rn (by omega)).mono ?_
          rintro e w2 ⟨ao2, n2, c2, rfl, hx2, hb2'⟩
          go_wp2_with fail
          refine (rhalf_any _ _ _ y _ (hY.below hb2').rn (by omega)).mono ?_
          rintro e w3 ⟨ao3, n3, c3, rfl, hy3, hb3'⟩
          go_wp2_with fail
          have hb3 := hb2'.trans (hb3'.mono hb2'.size)
          go_roundg (x / 2 + y / 2)
          case measure => have := HI.out.2; have := HXY.out; omega
          case rel =>
            refine ⟨⟨ao2, n2, c2⟩, ⟨ao3, n3, c3⟩, x / 2, y / 2, t + 1, rfl, rfl, by go_num, by omega, RN.below hx2 hb3' (Nat.le_refl _), hy3, ⟨⟨Nat.lt_of_le_of_lt (Nat.div_le_self _ _) HI.out.1.1, Nat.lt_of_le_of_lt (Nat.div_le_self _ _) HI.out.1.2.1, ?_⟩, rfl⟩, hbel.trans (hb3.mono hbel.size)⟩
            rw [← HI.out.1.2.2, HG2.out, Nat.pow_succ]
            simp only [Nat.mul_comm, Nat.mul_left_comm, Nat.mul_assoc]
        · have hb2 : (((d2 : Int) % 2) == 0) = false := by rw [beq_eq_false_iff_ne]; omega
          have HG2 := Lib.hid (gcd_even_odd h1 (by omega : y % 2 = 1))
          clear hp1 hp2 h1 h2
          go_wp2_with fail
          refine (rhalf_any _ _ _ x _ hX.rn (by omega)).mono ?_
          rintro e w2 ⟨ao2, n2, c2, rfl, hx2, hb2'⟩
          go_wp2_with fail
          go_roundg (x / 2 + y)
          case measure => have := HI.out.2; have := HXY.out; omega
          case rel => exact ⟨⟨ao2, n2, c2⟩, Y, x / 2, y, t, rfl, rfl, rfl, by omega, hx2, hY.below hb2', ⟨⟨Nat.lt_of_le_of_lt (Nat.div_le_self _ _) HI.out.1.1, HI.out.1.2.1, by rw [HG2.out]; exact HI.out.1.2.2⟩, rfl⟩, hbel.trans (hb2'.mono hbel.size)⟩
      · have hb1 : (((d1 : Int) % 2) == 0) = false := by rw [beq_eq_false_iff_ne]; omega
        by_cases h2 : y % 2 = 0
        · have hb2 : (((d2 : Int) % 2) == 0) = true := by rw [beq_iff_eq]; omega
          have HG2 := Lib.hid (gcd_odd_even (by omega : x % 2 = 1) h2)
          clear hp1 hp2 h1 h2
          go_wp2_with fail
          refine (rhalf_any _ _ _ y _ hY.rn (by omega)).mono ?_
          rintro e w2 ⟨ao2, n2, c2, rfl, hx2, hb2'⟩
          go_wp2_with fail
          go_roundg (x + y / 2)
          case measure => have := HI.out.2; have := HXY.out; omega
          case rel => exact ⟨X, ⟨ao2, n2, c2⟩, x, y / 2, t, rfl, rfl, rfl, by omega, hX.below hb2', hx2, ⟨⟨HI.out.1.1, Nat.lt_of_le_of_lt (Nat.div_le_self _ _) HI.out.1.2.1, by rw [HG2.out]; exact HI.out.1.2.2⟩, rfl⟩, hbel.trans (hb2'.mono hbel.size)⟩
        · have hb2 : (((d2 : Int) % 2) == 0) = false := by rw [beq_eq_false_iff_ne]; omega
          clear hp1 hp2 h1 h2
          by_cases hle : y ≤ x
          · have hcm : 0 ≤ cmpN x y := by unfold cmpN; rw [if_neg (by omega)]; split <;> omega
            obtain ⟨cm, hcmd⟩ : ∃ cm, cm = cmpN x y := ⟨_, rfl⟩
            rw [← hcmd] at hcm
            have HCM := Lib.hid hcmd; have HG2 := Lib.hid (gcd_sub_left' hle); have HLE := Lib.hid hle
            clear hcmd hle
            go_wp2_with fail
            refine (rcmp_any _ _ _ _ _ _ x y _ hX.rn hY.rn).mono ?_
            rintro e w2 ⟨rfl, q, rfl⟩
            rw [← HCM.out]
            go_wp2_with fail
            refine (rminus_any _ _ _ _ _ _ x y _ (hX.rn.drewN q) (hY.rn.drewN q) HLE.out (by omega) (by omega)).mono ?_
            rintro e w3 ⟨ao2, n2, c2, rfl, hx2, hb2'⟩
            have hb3 : Below wr.heap.size wr w3 := (below_drawn (Below.refl _ _) q).trans hb2'
            go_wp2_with fail
            go_roundg (x - y + y)
            case measure => have := HI.out.2; have := HXY.out; have := HLE.out; omega
            case rel => exact ⟨⟨ao2, n2, c2⟩, Y, x - y, y, t, rfl, rfl, rfl, by omega, hx2, hY.below hb3, ⟨⟨Nat.lt_of_le_of_lt (Nat.sub_le _ _) HI.out.1.1, HI.out.1.2.1, by rw [HG2.out]; exact HI.out.1.2.2⟩, rfl⟩, hbel.trans (hb3.mono hbel.size)⟩
          · have hcm : cmpN x y = -1 := cmpN_lt (by omega)
            have HCM := Lib.hid hcm; have HG2 := Lib.hid (gcd_sub_right' (by omega : x ≤ y)); have HLE := Lib.hid (show x ≤ y by omega)
            clear hcm hle
            go_wp2_with fail
            refine (rcmp_any _ _ _ _ _ _ x y _ hX.rn hY.rn).mono ?_
            rintro e w2 ⟨rfl, q, rfl⟩
            rw [HCM.out]
            go_wp2_with fail
            refine (rminus_any _ _ _ _ _ _ y x _ (hY.rn.drewN q) (hX.rn.drewN q) HLE.out (by omega) (by omega)).mono ?_
            rintro e w3 ⟨ao2, n2, c2, rfl, hx2, hb2'⟩
            have hb3 : Below wr.heap.size wr w3 := (below_drawn (Below.refl _ _) q).trans hb2'
            go_wp2_with fail
            go_roundg (x + (y - x))
            case measure => have := HI.out.2; have := HXY.out; have := HLE.out; omega
            case rel => exact ⟨X, ⟨ao2, n2, c2⟩, x, y - x, t, rfl, rfl, rfl, by omega, hX.below hb3, hx2, ⟨⟨HI.out.1.1, Nat.lt_of_le_of_lt (Nat.sub_le _ _) HI.out.1.2.1, by rw [HG2.out]; exact HI.out.1.2.2⟩, rfl⟩, hbel.trans (hb3.mono hbel.size)⟩
    · have hxy : (x + y) * 2 ^ t = Nat.gcd a b := by
        rw [← hinv.out.1.2.2]
        rcases Nat.eq_zero_or_pos x with h | h
        · rw [h, Nat.gcd_zero_left, Nat.zero_add]
        · have : y = 0 := by omega
          rw [this, Nat.gcd_zero_right, Nat.add_zero]
      have hgo2 : ¬ 0 < X.n ∨ ¬ 0 < Y.n := by omega
      have HXY := Lib.hid hxy; clear hxy hinv hX0 hY0
      rcases hgo2 with hz | hz
      all_goals
        clear hgo
        by_cases hXp : 0 < X.n
        all_goals
          go_wp2_with fail
          refine (rplus_any _ _ _ _ _ _ x y _ hX.rn hY.rn (by omega) (by omega)).mono ?_
          rintro e w2 ⟨ao2, n2, c2, rfl, hx2, hb2'⟩
          have hb2 := hbel.trans (hb2'.mono hbel.size)
          go_wp2_with fail
          go_loopw [6, 7] (fun so iv wr2 => ∃ (S : Sl) (i : Nat), i ≤ t ∧ so = .slice S.a S.n S.c ∧ iv = .int .i64 i ∧ RNS wr2 S ((x + y) * 2 ^ i) ∧ Below w.heap.size w wr2) (fun _ iv _ => t - (intOf iv).toNat)
          case atStart => exact ⟨⟨ao2, n2, c2⟩, 0, Nat.zero_le _, rfl, rfl, by rw [Nat.pow_zero, Nat.mul_one]; exact hx2, hb2⟩
          case round =>
            obtain ⟨S, i, hi, rfl, rfl, hS, hbl⟩ := hrel
            have hvl : (x + y) * 2 ^ i < DB ^ K := Nat.lt_of_le_of_lt (Nat.mul_le_mul_left _ (Nat.pow_le_pow_right (by omega) hi)) (by rw [HXY.out]; exact HG.out)
            have hSl : S.n ≤ K := hS.rn.le hvl
            clear hvl
            by_cases hit : i < t
            · go_wp2_with fail
              refine (rplus_any _ _ _ _ _ _ _ _ _ hS.rn hS.rn (by omega) (by omega)).mono ?_
              rintro e w3 ⟨ao3, n3, c3, rfl, hx3, hb3'⟩
              go_wp2_with fail
              go_roundw
              case rel => exact ⟨⟨ao3, n3, c3⟩, i + 1, by omega, rfl, by go_num, (by rw [Nat.pow_succ, ← Nat.mul_assoc, Nat.mul_two]; exact hx3), hbl.trans (hb3'.mono hbl.size)⟩
              case measure => simp [intOf]; omega
            · obtain rfl : t = i := by omega
              go_wp2_with fail
              go_ret
              exact ⟨_, _, _, rfl, (by rw [← HXY.out]; exact hS), hbl⟩

theorem rone_num (w : World) : RN (w.alloc (.cells #[.int .u64 1] 30)) (some ⟨w.heap.size, 0, none⟩) 1 1 1 := by
  have hl : Dg.len DB 1 = 1 := by rw [Dg.len_pos DB2 (by omega), Nat.div_eq_of_lt (by rw [DB_eq]; omega), Dg.len_zero]
  refine ⟨hl.symm, Sh.some _ _ _, Nat.le_refl _, by decide, fun j hj => ?_⟩
  obtain rfl : j = 0 := by omega
  have h := new_cells w #[.int .u64 1] 30 0 (.int .u64 1) rfl
  have hd : Dg.dg DB 1 0 = 1 := by unfold Dg.dg; rw [Nat.pow_zero, Nat.div_one, Nat.mod_eq_of_lt (by rw [DB_eq]; omega)]
  rw [hd]; exact h

/-- One binary digit of a power. -/
theorem pow_bit (a e m k : Nat) {o : Nat} (ho : o = a ^ (e / 2 ^ (k + 1)) % m) :
    (Dg.dg 2 e k = 0 → o * o % m = a ^ (e / 2 ^ k) % m) ∧ (Dg.dg 2 e k = 1 → (o * o % m) * a % m = a ^ (e / 2 ^ k) % m) := by
  have e0 : e / 2 ^ k = 2 * (e / 2 ^ (k + 1)) + Dg.dg 2 e k := by
    unfold Dg.dg
    rw [Nat.pow_succ, ← Nat.div_div_eq_div_mul]
    exact (Nat.div_add_mod _ _).symm
  have e1 : o * o % m = a ^ (2 * (e / 2 ^ (k + 1))) % m := by
    rw [ho, ← Nat.mul_mod, ← Nat.pow_add, Nat.two_mul]
  refine ⟨fun h => by rw [e0, h, Nat.add_zero]; exact e1, fun h => ?_⟩
  rw [e0, h, Nat.pow_succ, e1, Nat.mod_mul_mod]

set_option maxRecDepth 100000 in
set_option maxHeartbeats 3200000 in
theorem rpow_any (ao eo mo : Option Addr) (n c n' c' k d a e m : Nat) (w : World) (ha : RN w ao n c a) (he : RN w eo n' c' e) (hm : RN w mo k d m) (hm0 : 0 < m) (hn : n ≤ 1000) (hn' : n' ≤ 1000) (hk : k ≤ 1000) :
    Calls Tryz.prog 23 #[.slice ao n c, .slice eo n' c', .slice mo k d] w (RetRN w (a ^ e % m)) := by
  have he2 : e < 2 ^ Dg.len 2 e := Dg.lt_pow_len (by omega) e
  have hl16 : Dg.len 2 e ≤ 16 * n' := (Dg.len_le_iff (by omega) e (16 * n')).2 (by have h := he.lt; rwa [show DB = 2 ^ 16 from rfl, ← Nat.pow_mul] at h)
  obtain ⟨L, hL⟩ : ∃ L, L = Dg.len 2 e := ⟨_, rfl⟩
  rw [← hL] at he2 hl16
  have hml : m < DB ^ k := hm.lt
  have hal : a < DB ^ n := ha.lt
  have HL := Lib.hid hL; have HE2 := Lib.hid he2; have HM0 := Lib.hid hm0; have HML := Lib.hid hml; have HAL := Lib.hid hal
  clear hL he2 hm0 hml hal
  go_enter Tryz.func23, Tryz.ntmps23
  go_wp2_with fail
  have hbo : Below w.heap.size w (w.alloc (.cells #[.int .u64 1] 30)) := (Below.refl _ _).alloc (Nat.le_refl _) _
  refine (rleft_any _ _ _ _ _ _ 1 m _ (rone_num w) (hm.below hbo (Nat.le_refl _)) HM0.out (by omega) (by omega)).mono ?_
  rintro e1 w1 ⟨oo, on, oc, rfl, hO, hb1⟩
  have hb1 : Below w.heap.size w w1 := hbo.trans (hb1.mono hbo.size)
  go_wp2_with fail
  refine (bits_any _ _ _ e _ (he.below hb1 (Nat.le_refl _)) (by omega)).mono ?_
  rintro e1 w' ⟨rfl, rfl⟩
  rw [← HL.out]
  go_wp2_with fail
  have hO1 : RN w1 oo on oc (a ^ (e / 2 ^ L) % m) := by rw [Nat.div_eq_of_lt HE2.out, Nat.pow_zero]; exact hO
  clear hO hbo
  go_loopw [7, 8] (fun so iv wr => ∃ (S : Sl) (j : Nat), j ≤ L ∧ so = .slice S.a S.n S.c ∧ iv = .int .i64 ((j : Int) - 1) ∧ RNS wr S (a ^ (e / 2 ^ j) % m) ∧ Below w.heap.size w wr) (fun _ iv _ => (intOf iv + 1).toNat)
  case atStart => exact ⟨⟨oo, on, oc⟩, L, Nat.le_refl _, rfl, rfl, hO1, hb1⟩
  case round =>
    obtain ⟨S, j, hj, rfl, rfl, hS, hbel⟩ := hrel
    clear hO1 hb1
    by_cases hj0 : 0 < j
    · obtain ⟨t, rfl⟩ : ∃ t, j = t + 1 := ⟨j - 1, by omega⟩
      obtain ⟨o, ho⟩ : ∃ o, o = a ^ (e / 2 ^ (t + 1)) % m := ⟨_, rfl⟩
      rw [← ho] at hS
      have hol : o < m := by rw [ho]; exact Nat.mod_lt _ HM0.out
      have PB := pow_bit a e m t ho
      obtain ⟨x, hx⟩ : ∃ x, x = Dg.dg 2 e t := ⟨_, rfl⟩
      rw [← hx] at PB
      have hxl : x < 2 := by rw [hx]; exact Dg.dg_lt (by omega) _ _
      have hSn : S.n ≤ k := hS.rn.le (Nat.lt_trans hol HML.out)
      have HPB := Lib.hid PB; have HX := Lib.hid hx; have HOL := Lib.hid hol
      clear PB hx ho hol
      have hme := hm.below hbel (Nat.le_refl _)
      have hee := he.below hbel (Nat.le_refl _)
      have hae := ha.below hbel (Nat.le_refl _)
      go_wp2_with fail
      refine (rtimes_any _ _ _ _ _ _ o o _ hS.rn hS.rn (by omega) (by omega)).mono ?_
      rintro e1 w2 ⟨po, tn, tc, rfl, hT, hb2⟩
      have hTn : tn ≤ k + k := hT.le (by rw [Nat.pow_add]; exact Nat.mul_lt_mul'' (Nat.lt_trans HOL.out HML.out) (Nat.lt_trans HOL.out HML.out))
      go_wp2_with fail
      refine (rleft_any _ _ _ _ _ _ (o * o) m _ hT (hme.below hb2 (Nat.le_refl _)) HM0.out (by omega) (by omega)).mono ?_
      rintro e1 w3 ⟨uo, un, uc, rfl, hU, hb3⟩
      have hb23 := hb2.trans (hb3.mono hb2.size)
      go_wp2_with fail
      refine (bit_any _ _ _ e t _ (hee.below hb23 (Nat.le_refl _)) (by omega)).mono ?_
      rintro e1 w' ⟨rfl, rfl⟩
      rw [← HX.out]
      by_cases hx1 : x = 1
      · have hxb : ((x : Int) == 1) = true := by rw [beq_iff_eq]; omega
        have HX1 := Lib.hid hx1; clear hx1
        have hUl : o * o % m < m := Nat.mod_lt _ HM0.out
        have hUn : un ≤ k := hU.le (Nat.lt_trans hUl HML.out)
        have HUL := Lib.hid hUl; clear hUl
        go_wp2_with fail
        refine (rtimes_any _ _ _ _ _ _ (o * o % m) a _ hU (hae.below hb23 (Nat.le_refl _)) (by omega) (by omega)).mono ?_
        rintro e1 w4 ⟨vo, vn, vc, rfl, hV, hb4⟩
        have hVn : vn ≤ k + n := hV.le (by rw [Nat.pow_add]; exact Nat.mul_lt_mul'' (Nat.lt_trans HUL.out HML.out) HAL.out)
        have hb24 := hb23.trans (hb4.mono hb23.size)
        go_wp2_with fail
        refine (rleft_any _ _ _ _ _ _ (o * o % m * a) m _ hV (hme.below hb24 (Nat.le_refl _)) HM0.out (by omega) (by omega)).mono ?_
        rintro e1 w5 ⟨xo, xn, xc, rfl, hX5, hb5⟩
        have hb25 := hb24.trans (hb5.mono hb24.size)
        go_wp2_with fail
        go_roundw
        case rel => exact ⟨⟨xo, xn, xc⟩, t, by omega, rfl, by go_num, (by rw [← HPB.out.2 HX1.out]; exact hX5), hbel.trans (hb25.mono hbel.size)⟩
        case measure => simp [intOf]
      · have hxb : ((x : Int) == 1) = false := by rw [beq_eq_false_iff_ne]; omega
        have hx0 : x = 0 := by omega
        have HX0 := Lib.hid hx0; clear hx1 hx0
        go_wp2_with fail
        go_roundw
        case rel => exact ⟨⟨uo, un, uc⟩, t, by omega, rfl, by go_num, (by rw [← HPB.out.1 HX0.out]; exact hU), hbel.trans (hb23.mono hbel.size)⟩
        case measure => simp [intOf]
    · obtain rfl : j = 0 := by omega
      go_wp2_with fail
      go_ret
      exact ⟨_, _, _, rfl, (by rw [Nat.pow_zero, Nat.div_one] at hS; exact hS), hbel⟩
end Go.Proofs.YtbmhiejggkdnkaaGreatDoor
