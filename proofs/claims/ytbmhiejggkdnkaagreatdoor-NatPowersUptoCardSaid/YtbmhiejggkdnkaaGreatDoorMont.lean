/- mont: the walk. -/
import Derived.Test.YtbmhiejggkdnkaaGreatDoorInv
import Derived.Test.YtbmhiejggkdnkaaGreatDoorMontPlain
namespace Go.Proofs.YtbmhiejggkdnkaaGreatDoor
open Go.RowKit

/-- What mont answers for an odd modulus: the number below it that, times that power of 256, leaves what the product leaves. -/
def MontPost (a b m : Nat) (w : World) (e : Ending) (w' : World) : Prop :=
  ∃ x, x < m ∧ x * 256 ^ Dg.len 256 m % m = a * b % m ∧ RetNumE w x e w'

theorem and_one_u32 (x : Nat) (h : x < 4294967296) : bits BinOp.and IntKind.u32 (x : Int) 1 = ((x % 2 : Nat) : Int) := by
  have := u32_and_nat x 1 h (by omega)
  rw [nat_mask1] at this
  exact this

theorem nextK_cast (x kk N : Nat) : ((nextK x kk N : Nat) : Int) = (kk : Int) * ((2 + (x : Int) * (kk : Int)) % (N : Int)) % (N : Int) := by
  unfold nextK
  rw [Int.natCast_emod, Int.natCast_mul, Int.natCast_emod, Int.natCast_add, Int.natCast_mul]; rfl

theorem limb_rd (w : World) (b y : Nat) (hb : b = w.heap.size) (hy : y < LB) : Rd (w.alloc (.cells #[.int .u32 (y : Int)] 74)) .u32 (some ⟨b, 0, none⟩) 1 1 (Dg.dg LB y) := by
  subst hb
  refine ⟨Sh.some _ _ _, Nat.le_refl _, by decide, fun j hj => ?_⟩
  obtain rfl : j = 0 := by omega
  have h := new_cells w #[.int .u32 (y : Int)] 74 0 (.int .u32 (y : Int)) rfl
  have hd : Dg.dg LB y 0 = y := by unfold Dg.dg; rw [Nat.pow_zero, Nat.div_one, Nat.mod_eq_of_lt hy]
  rw [hd]; exact h

theorem len_lt_succ {v k : Nat} (h : v < LB ^ k * LB) : Dg.len LB v ≤ k + 1 := (Dg.len_le_iff LB2 v (k + 1)).2 (by rw [Nat.pow_succ]; exact h)

theorem Own.owns {w : World} {k : IntKind} {e g n B : Nat} {f : Nat → Nat} (h : Own w k e g n f) (hB : B ≤ g) : w.ownsRow B e 1 (.slice (some ⟨g, 0, none⟩) n n) n ((List.range n).map fun j => Value.int k (f j : Nat)) := by
  obtain ⟨cur, hh, hs, hm, hc⟩ := h
  refine ⟨by simp, .inr ⟨g, n, cur, rfl, hB, hh, Nat.le_refl _, by simpa [maxLen] using hm, by omega, ?_⟩⟩
  apply List.ext_getElem?
  intro j
  rw [List.getElem?_take, Nat.mul_one]
  by_cases hj : j < n
  · rw [if_pos hj, Array.getElem?_toList, hc j hj, List.getElem?_map, List.getElem?_range hj]; rfl
  · rw [if_neg hj, List.getElem?_eq_none (by simpa using hj)]

theorem ownsRow_shape {w : World} {B e : Nat} {v : Value} {n : Nat} {xs : List Value} (h : w.ownsRow B e 1 v n xs) (hn : 0 < n) : ∃ g cap, v = .slice (some ⟨g, 0, none⟩) n cap ∧ B ≤ g ∧ n ≤ cap ∧ cap ≤ 9223372036854775807 := by
  rcases h.2 with ⟨_, h0⟩ | ⟨g, cap, cur, hv, hg, _, hc, hm, _⟩
  · omega
  · exact ⟨g, cap, hv, hg, hc, by simpa [maxLen] using hm⟩

theorem len256_le (v k : Nat) (h : v < LB ^ k) : Dg.len 256 v ≤ 4 * k :=
  (Dg.len_le_iff (by omega) v (4 * k)).2 (by rw [Nat.pow_mul]; exact h)

/-- What is added makes the lowest byte 0. -/
theorem mont_clear {t m z x kk y : Nat} (hz : z = Dg.dg LB t 0) (hx : x = Dg.dg LB m 0) (hy : y = z * kk % 4294967296 % 256) (hdv : 256 ∣ x * kk + 1) : 256 ∣ t + m * y := by
  have h1 : z % 256 = t % 256 := by
    rw [hz]; unfold Dg.dg; rw [Nat.pow_zero, Nat.div_one, LB_eq]; omega
  have h2 : x % 256 = m % 256 := by
    rw [hx]; unfold Dg.dg; rw [Nat.pow_zero, Nat.div_one, LB_eq]; omega
  have h3 : y % 256 = z * kk % 256 := by rw [hy]; omega
  apply Nat.dvd_of_mod_eq_zero
  have h4 : (t + m * y) % 256 = (z + x * (z * kk)) % 256 := by
    rw [Nat.add_mod, Nat.mul_mod, ← h1, ← h2, h3, ← Nat.mul_mod, ← Nat.add_mod]
  have h5 : z + x * (z * kk) = z * (x * kk + 1) := by rw [Nat.mul_add, Nat.mul_one, Nat.add_comm, Nat.mul_left_comm]
  rw [h4, h5]
  exact Nat.mod_eq_zero_of_dvd (Nat.dvd_trans hdv (Nat.dvd_mul_left _ _))

theorem and_255_u32 (x : Nat) (h : x < 4294967296) : bits BinOp.and IntKind.u32 (x : Int) 255 = ((x % 256 : Nat) : Int) := by
  have := u32_and_nat x 255 h (by omega)
  rw [nat_mask8] at this
  exact this

set_option maxRecDepth 100000 in
theorem mont_even (ao bo mo : Option Addr) (n c n' c' k d m : Nat) (w : World) (hm : Num w mo k d m) (hm0 : 0 < m) (hev : m % 2 = 0) :
    Calls Tryz.prog 49 #[.slice ao n c, .slice bo n' c', .slice mo k d] w (RetErrE w errEven) := by
  have hk0 : 0 < k := by rw [hm.len]; exact (Dg.len_pos_iff LB2 m).2 hm0
  have hc := hm.rd.cell 0 hk0
  rw [Nat.add_zero] at hc
  have hs := hm.rd.sh
  obtain ⟨x, hx⟩ : ∃ x, x = Dg.dg LB m 0 := ⟨_, rfl⟩
  rw [← hx] at hc
  have hxe : x % 2 = 0 := by
    rw [hx]; unfold Dg.dg; rw [Nat.pow_zero, Nat.div_one, LB_eq]; omega
  have hxl : x < 4294967296 := by rw [hx]; exact Dg.dg_lt LBpos _ _
  have HX := Lib.hid hx; clear hx
  have hand : bits BinOp.and IntKind.u32 (x : Int) 1 = 0 := by rw [and_one_u32 x hxl, hxe]; rfl
  go_enter Tryz.func49, Tryz.ntmps49
  go_wp2_with fail
  go_ret2
  exact ⟨rfl, Below.refl _ _⟩

set_option maxRecDepth 100000 in
set_option maxHeartbeats 1600000 in
theorem mont_odd (ao bo mo : Option Addr) (n c n' c' k d a b m : Nat) (w : World) (ha : Num w ao n c a) (hb : Num w bo n' c' b) (hm : Num w mo k d m) (hod : m % 2 = 1) (hn : n ≤ 128) (hn' : n' ≤ 128) (hk : k ≤ 128) :
    Calls Tryz.prog 49 #[.slice ao n c, .slice bo n' c', .slice mo k d] w (MontPost a b m w) := by
  have hm0 : 0 < m := by omega
  have hk0 : 0 < k := by rw [hm.len]; exact (Dg.len_pos_iff LB2 m).2 hm0
  have hc := hm.rd.cell 0 hk0
  rw [Nat.add_zero] at hc
  have hs := hm.rd.sh
  obtain ⟨x, hx⟩ : ∃ x, x = Dg.dg LB m 0 := ⟨_, rfl⟩
  rw [← hx] at hc
  have hxo : x % 2 = 1 := by
    rw [hx]; unfold Dg.dg; rw [Nat.pow_zero, Nat.div_one, LB_eq]; omega
  have hxl : x < 4294967296 := by rw [hx]; exact Dg.dg_lt LBpos _ _
  have HX := Lib.hid hx; have HXO := Lib.hid hxo; have HM0 := Lib.hid hm0; have HOD := Lib.hid hod
  clear hx hm0 hod
  obtain ⟨i32, hi32, hz0, hz1, hz2⟩ := info_parts info32
  have hand : bits BinOp.and IntKind.u32 (x : Int) 1 = 1 := by rw [and_one_u32 x hxl, hxo]; rfl
  have hal : a < LB ^ 128 := Nat.lt_of_lt_of_le ha.lt (Nat.pow_le_pow_right LBpos hn)
  have hbl : b < LB ^ 128 := Nat.lt_of_lt_of_le hb.lt (Nat.pow_le_pow_right LBpos hn')
  have hml : m < LB ^ 128 := Nat.lt_of_lt_of_le hm.lt (Nat.pow_le_pow_right LBpos hk)
  have HAL := Lib.hid hal; have HBL := Lib.hid hbl; have HML := Lib.hid hml
  clear hal hbl hml
  go_enter Tryz.func49, Tryz.ntmps49
  go_wp2_with fail
  go_loop [8, 17] (fun kv iv => ∃ i kk : Nat, i ≤ 3 ∧ iv = .int .i64 i ∧ kv = .int .u32 kk ∧ kk < 4294967296 ∧ Hid (MM i ∣ x * kk + 1)) (fun _ iv => 3 - (intOf iv).toNat)
  case atStart => exact ⟨0, 1, by omega, rfl, rfl, by omega, odd_dvd hxo⟩
  case round =>
    obtain ⟨i, kk, hi, rfl, rfl, hkl, hdv⟩ := hrel
    by_cases hi3 : i < 3
    · go_wp2_with fail
      go_round
      case rel =>
        refine ⟨i + 1, nextK x kk 4294967296, by omega, by go_num, ?_, Nat.mod_lt _ (by omega), dvd_step (MM_dvd i (by omega)) hdv.out⟩
        rw [nextK_cast]; rfl
      case measure => simp [intOf]; omega
    · obtain rfl : i = 3 := by omega
      go_wp2_with fail
      refine (mul_any _ _ _ _ _ _ a b _ ha hb (by omega) (by omega)).mono ?_
      rintro e w1 ⟨tto, tn, tc, rfl, ht, hb1⟩
      go_wp2_with fail
      refine (form_any _ _ _ m _ (hm.below hb1 (Nat.le_refl _)) (by omega)).mono ?_
      rintro e w2 ⟨rfl, hb2⟩
      have ht2 := ht.below hb2 (Nat.le_refl _)
      have hbel : Below w.heap.size w w2 := hb1.trans (hb2.mono hb1.size)
      obtain ⟨L, hL⟩ : ∃ L, L = Dg.len 256 m := ⟨_, rfl⟩
      have hfl : (fm m).length = L := by rw [fm_length, hL]
      have hLb : L ≤ 4 * 128 := by rw [hL]; exact len256_le m 128 HML.out
      have HL := Lib.hid hL; clear hL
      have hab : a * b < LB ^ 256 := prod_lt HAL.out HBL.out
      have HAB := Lib.hid hab; clear hab
      go_wp2_with fail
      go_loopw [9, 34] (fun tv iv wr => ∃ (i t : Nat) (T : Sl), i ≤ L ∧ iv = .int .i64 i ∧ tv = .slice T.a T.n T.c ∧ NumS wr T t ∧ Hid (t ≤ a * b + m ∧ ∃ j, t * 256 ^ i = a * b + m * j) ∧ Below w.heap.size w wr) (fun _ iv _ => L - (intOf iv).toNat)
      case atStart => exact ⟨0, a * b, ⟨tto, tn, tc⟩, Nat.zero_le _, rfl, rfl, ht2, ⟨Nat.le_add_right _ _, 0, by simp⟩, hbel⟩
      case round =>
        obtain ⟨i, t, T, hi, rfl, rfl, hT, hinv, hbl⟩ := hrel
        clear ht2 hbel
        by_cases hiL : i < L
        · go_upto_if 38 with (fail)
          go_cut [9] (fun tv wx => ∃ (T' : Sl) (t' : Nat), tv = .slice T'.a T'.n T'.c ∧ NumS wx T' t' ∧ Hid (256 ∣ t' ∧ ∃ y, y ≤ 255 ∧ t' = t + m * y) ∧ Below wr.heap.size wr wx)
          case first =>
            by_cases hTn : 0 < T.n
            · have hct := hT.num.rd.cell 0 hTn
              rw [Nat.add_zero] at hct
              have hsT := hT.num.rd.sh
              obtain ⟨z, hz⟩ : ∃ z, z = Dg.dg LB t 0 := ⟨_, rfl⟩
              rw [← hz] at hct
              have hzl : z < 4294967296 := by rw [hz]; exact Dg.dg_lt LBpos _ _
              have HZ := Lib.hid hz; clear hz
              go_wp2_with fail
              obtain ⟨y, hy⟩ : ∃ y, y = z * kk % 4294967296 % 256 := ⟨_, rfl⟩
              have hyi : bits BinOp.and IntKind.u32 ((z : Int) * (kk : Int) % 4294967296) 255 = (y : Int) := by
                have h1 : ((z : Int) * (kk : Int) % 4294967296) = ((z * kk % 4294967296 : Nat) : Int) := by
                  rw [Int.natCast_emod, Int.natCast_mul]; rfl
                rw [h1, and_255_u32 _ (Nat.mod_lt _ (by omega)), hy]
              have hyl : y < LB := by rw [hy, LB_eq]; omega
              have hy255 : y ≤ 255 := by rw [hy]; omega
              have hcl := mont_clear HZ.out HX.out hy (hdv.out)
              have HY := Lib.hid hy; have HCL := Lib.hid hcl; clear hy hcl
              rw [hyi]
              refine (trim_num _ _ _ y _ (limb_rd wr wr.heap.size y rfl hyl) (by simpa using hyl)).mono ?_
              rintro e w3 ⟨yk, rfl, hyn, rfl⟩
              have hbo : Below wr.heap.size wr (wr.alloc (.cells #[.int .u32 (y : Int)] 74)) := (Below.refl _ _).alloc (Nat.le_refl _) _
              have hyk : yk ≤ 1 := num_len_le hyn (by simpa using hyl)
              clear hyi
              go_wp2_with fail
              refine (mul_any _ _ _ _ _ _ m y _ ((hm.below hbl (Nat.le_refl _)).below hbo (Nat.le_refl _)) hyn (by omega) (by omega)).mono ?_
              rintro e w4 ⟨o4, n4, c4, rfl, h4, hb4⟩
              go_wp2_with fail
              have hTb : T.n ≤ 257 := by
                rw [hT.num.len]
                refine len_lt_succ (Nat.lt_of_le_of_lt hinv.out.1 ?_)
                have h1 := HAB.out
                have h2 : m < LB ^ 256 := Nat.lt_of_lt_of_le HML.out (Nat.pow_le_pow_right LBpos (by omega))
                have h3 : LB ^ 256 * 2 ≤ LB ^ 256 * LB := Nat.mul_le_mul_left _ LB2
                omega
              have h4b : n4 ≤ 256 := num_len_le h4 (prod_lt HML.out (Nat.lt_of_lt_of_le hyl (by
                have h5 : LB ^ 1 ≤ LB ^ 128 := Nat.pow_le_pow_right LBpos (by omega)
                rwa [Nat.pow_one] at h5)))
              refine (add_any _ _ _ _ _ _ t (m * y) _ ((hT.below hbo).below hb4).num h4 (by omega) (by omega)).mono ?_
              rintro e w5 ⟨o5, n5, c5, rfl, h5, hb5⟩
              go_wp2_with fail
              go_meet
              exact ⟨⟨o5, n5, c5⟩, t + m * y, rfl, h5, ⟨HCL.out, y, hy255, rfl⟩, (hbo.trans (hb4.mono hbo.size)).trans (hb5.mono (Nat.le_trans hbo.size hb4.size))⟩
            · go_wp2_with fail
              go_meet
              have ht0 : t = 0 := Dg.eq_zero_of_len LB2 (by rw [← hT.num.len]; omega)
              exact ⟨T, t, rfl, hT, ⟨by rw [ht0]; exact Nat.dvd_zero _, 0, by omega, by simp⟩, Below.refl _ _⟩
          case rest =>
            obtain ⟨T', t', rfl, hT', hinv', hb'⟩ := hcut
            have hbl' : Below w.heap.size w _ := hbl.trans (hb'.mono hbl.size)
            have htl' : t' < LB ^ T'.n := hT'.num.lt
            have HTL := Lib.hid htl'; clear htl'
            go_wp2_with fail
            have hT'b : T'.n ≤ 10000 := by
              rw [hT'.num.len]
              obtain ⟨y, hy, he⟩ := hinv'.out.2
              refine Nat.le_trans (len_lt_succ (k := 256) ?_) (by omega)
              have h1 := HAB.out
              have h2 : m < LB ^ 128 := HML.out
              have h4 : m * y ≤ m * 255 := Nat.mul_le_mul_left _ hy
              have h5 := hinv.out.1
              have h6 : LB ^ 128 * 256 ≤ LB ^ 256 := by
                have h7 : LB ^ 128 * LB ^ 128 = LB ^ 256 := by rw [← Nat.pow_add]
                rw [← h7]
                refine Nat.mul_le_mul_left _ (Nat.le_trans (m := LB ^ 1) (by rw [Nat.pow_one, LB_eq]; omega) (Nat.pow_le_pow_right LBpos (by omega)))
              have h8 : LB ^ 256 * 2 ≤ LB ^ 256 * LB := Nat.mul_le_mul_left _ LB2
              omega
            refine (shl_any _ _ _ t' 24 _ hT'.num.rd HTL.out (by omega) (by omega)).mono ?_
            rintro e w6 ⟨g6, rfl, hg6, hown6, hb6⟩
            have hbl6 : Below w.heap.size w w6 := hbl'.trans (hb6.mono hbl'.size)
            have hrow6 := Own.owns (B := w.heap.size) hown6 (Nat.le_trans hbl'.size hg6)
            have hsz6 := hbl6.size
            go_wp2_with (at_builtin; refine wpList_append_own _ rfl (.tmp 52) (.tmp 53) _ rfl w.heap.size 74 i32 (.int .u32 0) 1 4 Tryz.underlying52 hi32 hz0 hz1 hz2 rfl (by decide) _ (T'.n + 1) _ rfl (hrow6.alloc _) ⟨w6.heap.size, 0, none⟩ 1 1 [.int .u32 0] rfl rfl ?h1 (by simp [Value.oneCell']) (by unfold maxLen; omega) (by omega) (by simp; omega) ?_; rotate_left; intro v' w7 hown7 hgr7 hnil7; obtain ⟨g7, cap7, rfl, hg7, hc7, hm7⟩ := ownsRow_shape hown7 (by omega))
            case h1 => exact new_cells _ _ _
            have hrd7 : Rd w7 .u32 (some ⟨g7, 1, none⟩) (T'.n + 1) (cap7 - 1) (Dg.dg LB (t' / 256)) := by
              refine ⟨Sh.some _ _ _, by omega, by omega, fun j hj => ?_⟩
              have h1 := hown7.cellAt (j + 1) (by omega)
              have e1 : (⟨blk (some ⟨g7, 1, none⟩), off (some ⟨g7, 1, none⟩) + j, none⟩ : Addr) = ⟨g7, j + 1, none⟩ := by simp only [blk_some, off_some, Nat.add_comm]
              rw [e1, h1]
              have e2 : Dg.dg LB (t' * 2 ^ 24) (j + 1) = Dg.dg LB (t' / 256) j := by
                rw [Nat.add_comm j 1, ← Dg.dg_div, Nat.pow_one]
                congr 1
                rw [LB_eq]; omega
              by_cases h2 : j + 1 < T'.n + 1
              · rw [List.getElem?_append_left (by simpa using h2), List.getElem?_map, List.getElem?_range h2, ← e2]; rfl
              · obtain rfl : j = T'.n := by omega
                rw [List.getElem?_append_right (by simp)]
                have h3 : Dg.dg LB (t' / 256) T'.n = 0 := Dg.dg_of_lt (Nat.lt_of_le_of_lt (Nat.div_le_self _ _) HTL.out)
                rw [h3]; simp
            have hlt7 : t' / 256 < LB ^ (T'.n + 1) := Nat.lt_of_le_of_lt (Nat.div_le_self _ _) (Nat.lt_of_lt_of_le HTL.out (Nat.pow_le_pow_right LBpos (Nat.le_succ _)))
            refine (trim_num _ _ _ _ _ hrd7 hlt7).mono ?_
            rintro e w8 ⟨k8, rfl, hn8, rfl⟩
            go_wp2_with fail
            go_roundw
            case rel =>
              obtain ⟨hd, y, hy, he⟩ := hinv'.out
              obtain ⟨hle, j, hj⟩ := hinv.out
              refine ⟨i + 1, t' / 256, ⟨some ⟨g7, 1, none⟩, k8, cap7 - 1⟩, by omega, by go_num, rfl, hn8, ⟨?_, j + y * 256 ^ i, ?_⟩, ?_⟩
              · have h1 : m * y ≤ m * 255 := Nat.mul_le_mul_left _ hy
                omega
              · have h1 : t' / 256 * 256 = t' := Nat.div_mul_cancel hd
                rw [Nat.pow_succ, Nat.mul_comm (256 ^ i), ← Nat.mul_assoc, h1, he, Nat.add_mul, hj, Nat.mul_add, Nat.mul_assoc]
                omega
              · refine (hbl6.alloc (by omega) _).grown hgr7 (by simp; omega) (fun q hq => ?_)
                exact (hrow6.lt q hq).1
            case measure => simp [intOf]; omega
        · obtain rfl : i = L := by omega
          have hmr := hm.below hbl (Nat.le_refl _)
          have hTb : T.n ≤ 10000 := by
            rw [hT.num.len]
            refine Nat.le_trans (len_lt_succ (k := 256) (Nat.lt_of_le_of_lt hinv.out.1 ?_)) (by omega)
            have h1 := HAB.out
            have h2 : m < LB ^ 256 := Nat.lt_of_lt_of_le HML.out (Nat.pow_le_pow_right LBpos (by omega))
            have h3 : LB ^ 256 * 2 ≤ LB ^ 256 * LB := Nat.mul_le_mul_left _ LB2
            omega
          go_wp2_with fail
          refine (left_any _ _ _ _ _ _ t m _ hT.num hmr HM0.out (by omega)).mono ?_
          rintro e w9 ⟨o9, n9, c9, rfl, h9, hb9⟩
          go_wp2_with fail
          go_ret2
          obtain ⟨hle, j, hj⟩ := hinv.out
          refine ⟨t % m, Nat.mod_lt _ HM0.out, ?_, _, _, _, rfl, h9, hbl.trans (hb9.mono hbl.size)⟩
          rw [← HL.out, Nat.mod_mul_mod, hj, Nat.add_mul_mod_self_left]
end Go.Proofs.YtbmhiejggkdnkaaGreatDoor
