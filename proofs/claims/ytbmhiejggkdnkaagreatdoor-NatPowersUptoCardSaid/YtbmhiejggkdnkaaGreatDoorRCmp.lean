/- The reference's Cmp, digit, Bit, Bits: the walks. -/
import Derived.Test.YtbmhiejggkdnkaaGreatDoorRBase
namespace Go.Proofs.YtbmhiejggkdnkaaGreatDoor
open Go.RowKit

set_option maxRecDepth 100000 in
theorem rcmp_any (ao bo : Option Addr) (n c m d a b : Nat) (w : World) (ha : RN w ao n c a) (hb : RN w bo m d b) :
    Calls Tryz.prog 10 #[.slice ao n c, .slice bo m d] w fun e w' => e = .returned (.int .i64 (cmpN a b)) ∧ ∃ q, w' = w.drewN q := by
  have hn := Nat.le_trans ha.rd.le ha.rd.cm
  have hm := Nat.le_trans hb.rd.le hb.rd.cm
  by_cases hnm : n < m
  · have hr : cmpN a b = -1 := cmpN_lt (Dg.lt_of_len DB2 (by rw [← ha.len, ← hb.len]; exact hnm))
    have HR := Lib.hid hr; clear hr
    go_enter Tryz.func10, Tryz.ntmps10
    go_wp2
    go_ret
    exact ⟨ret_int (by rw [HR.out]), 0, rfl⟩
  · by_cases hmn : m < n
    · have hr : cmpN a b = 1 := cmpN_gt (Dg.lt_of_len DB2 (by rw [← ha.len, ← hb.len]; exact hmn))
      have HR := Lib.hid hr; clear hr
      go_enter Tryz.func10, Tryz.ntmps10
      go_wp2
      go_ret
      exact ⟨ret_int (by rw [HR.out]), 0, rfl⟩
    · obtain rfl : n = m := by omega
      have hla := ha.lt
      have hlb := hb.lt
      have HLA := Lib.hid hla; clear hla
      have HLB := Lib.hid hlb; clear hlb
      clear hnm hmn
      go_enter Tryz.func10, Tryz.ntmps10
      go_wp2
      go_loopw [5] (fun i wr => ∃ (x : Int) (q : Nat), -1 ≤ x ∧ x < n ∧ i = .int .i64 x ∧ wr = w.drewN q ∧ ∀ j : Nat, x < j → j < n → Dg.dg DB a j = Dg.dg DB b j) (fun i _ => (intOf i + 1).toNat)
      case atStart => exact ⟨_, 0, by omega, by omega, rfl, rfl, fun j h1 h2 => absurd h1 (by omega)⟩
      case round =>
        obtain ⟨x, q, hx1, hx2, rfl, rfl, he⟩ := hrel
        have HE := Lib.hid he; clear he
        by_cases h0 : x < 0
        · go_wp2
          go_ret
          have hab : a = b := Dg.ext n HLA.out HLB.out fun j hj => HE.out j (by omega) hj
          exact ⟨ret_int (by rw [hab, cmpN_eq]), q, rfl⟩
        · obtain ⟨i, rfl⟩ := Int.eq_ofNat_of_zero_le (by omega : 0 ≤ x)
          have hca := ha.rd.cell i (by omega)
          have hcb := hb.rd.cell i (by omega)
          have hsa := ha.rd.sh
          have hsb := hb.rd.sh
          have hi : (i : Int) < n := hx2
          go_wp2
          go_quiet (fail)
          go_wp2
          · have hlt : Dg.dg DB a i < Dg.dg DB b i := by assumption
            go_ret
            have h1 : a < b := Dg.lt_of_dg (n := n) (i := i) DBpos HLA.out HLB.out (by omega) (fun j h1 h2 => HE.out j (by omega) h2) hlt
            exact ⟨ret_int (by rw [cmpN_lt h1]), drawn2 _ _ _⟩
          · have hge : ¬ Dg.dg DB a i < Dg.dg DB b i := by assumption
            go_quiet (fail)
            go_wp2
            · have hlt : Dg.dg DB b i < Dg.dg DB a i := by assumption
              go_ret
              have h1 : b < a := Dg.lt_of_dg (n := n) (i := i) DBpos HLB.out HLA.out (by omega) (fun j h1 h2 => (HE.out j (by omega) h2).symm) hlt
              exact ⟨ret_int (by rw [cmpN_gt h1]), drawn3 _ _ _ _⟩
            · have hgt : ¬ Dg.dg DB b i < Dg.dg DB a i := by assumption
              go_roundw
              case rel =>
                refine ⟨_, _, by omega, by omega, rfl, rfl, fun j h1 h2 => ?_⟩
                by_cases e : j = i
                · rw [e]; omega
                · exact HE.out j (by omega) h2
              case measure => simp [intOf]

theorem digit_any (ao : Option Addr) (n c v i : Nat) (w : World) (ha : RN w ao n c v) (_hi : i ≤ 4000000000000000000) :
    Calls Tryz.prog 52 #[.slice ao n c, .int .i64 i] w fun e w' => e = .returned (.int .u64 (Dg.dg DB v i : Nat)) ∧ w = w' := by
  have hn := Nat.le_trans ha.rd.le ha.rd.cm
  by_cases hin : i < n
  · have hca := ha.rd.cell i hin
    have hsa := ha.rd.sh
    obtain ⟨x, hx⟩ : ∃ x, x = Dg.dg DB v i := ⟨_, rfl⟩
    rw [← hx] at hca ⊢
    clear hx
    go_enter Tryz.func52, Tryz.ntmps52
    go_wp2
    go_ret
    exact ⟨rfl, rfl⟩
  · have hz : Dg.dg DB v i = 0 := Dg.dg_of_lt_le DBpos ha.lt (by omega)
    rw [hz]
    clear hz
    go_enter Tryz.func52, Tryz.ntmps52
    go_wp2
    go_ret
    exact ⟨rfl, rfl⟩

theorem bit_dg (v k : Nat) : Dg.dg DB v (k / 16) / 2 ^ (k % 16) % 2 = Dg.dg 2 v k := by
  unfold Dg.dg
  have e1 : DB ^ (k / 16) = 2 ^ (16 * (k / 16)) := by rw [show DB = 2 ^ 16 from rfl, ← Nat.pow_mul]
  have e2 : v / 2 ^ k = v / DB ^ (k / 16) / 2 ^ (k % 16) := by
    rw [e1, Nat.div_div_eq_div_mul, ← Nat.pow_add, Nat.div_add_mod]
  rw [e2]
  generalize v / DB ^ (k / 16) = y
  have h : k % 16 < 16 := Nat.mod_lt _ (by omega)
  generalize k % 16 = r at *
  obtain ⟨t, ht⟩ : ∃ t, t + 1 + r = 16 := ⟨15 - r, by omega⟩
  have e3 : DB = 2 ^ r * 2 ^ (t + 1) := by rw [← Nat.pow_add, show r + (t + 1) = 16 from by omega]; rfl
  rw [e3, Nat.mod_mul_right_div_self, Nat.mod_mod_of_dvd _ (by rw [Nat.pow_succ]; exact Nat.dvd_mul_left _ _)]

theorem and_one_u64 (x : Nat) (h : x < 18446744073709551616) : bits BinOp.and IntKind.u64 (x : Int) 1 = ((x % 2 : Nat) : Int) := by
  have := u64_and_nat x 1 h (by omega)
  rw [nat_mask1] at this
  exact this

set_option maxRecDepth 100000 in
theorem bit_any (ao : Option Addr) (n c v k : Nat) (w : World) (ha : RN w ao n c v) (hk : k ≤ 4000000000000000000) :
    Calls Tryz.prog 45 #[.slice ao n c, .int .i64 k] w fun e w' => e = .returned (.int .u64 (Dg.dg 2 v k : Nat)) ∧ w = w' := by
  have hd : Dg.dg DB v (k / 16) < 65536 := Dg.dg_lt DBpos _ _
  have hb := bit_dg v k
  obtain ⟨x, hx⟩ : ∃ x, x = Dg.dg DB v (k / 16) := ⟨_, rfl⟩
  rw [← hx] at hd hb
  have HX := Lib.hid hx; have HB := Lib.hid hb; clear hx hb
  go_enter Tryz.func45, Tryz.ntmps45
  go_wp2_with fail
  refine (digit_any ao n c v (k / 16) _ ha (by omega)).mono ?_
  rintro e w' ⟨rfl, rfl⟩
  rw [← HX.out]
  go_wp2_with fail
  go_ret
  refine ⟨ret_int ?_, rfl⟩
  have e : ((x : Int) / 2 ^ (k % 16)) = ((x / 2 ^ (k % 16) : Nat) : Int) := by simp
  rw [e, and_one_u64 _ (Nat.lt_of_le_of_lt (Nat.div_le_self _ _) (by omega)), HB.out]

set_option maxRecDepth 100000 in
theorem bits_any (ao : Option Addr) (n c v : Nat) (w : World) (ha : RN w ao n c v) (hn : n ≤ 100000000) :
    Calls Tryz.prog 44 #[.slice ao n c] w fun e w' => e = .returned (.int .i64 (Dg.len 2 v : Nat)) ∧ w = w' := by
  have hv : v < 2 ^ (16 * n) := by
    have h := ha.lt
    rwa [show DB = 2 ^ 16 from rfl, ← Nat.pow_mul] at h
  have ht := tl_dgB (B := 2) (by omega) v (16 * n) hv
  have HT := Lib.hid ht; clear ht hv
  go_enter Tryz.func44, Tryz.ntmps44
  go_wp2_with fail
  go_loopw [3] (fun x wr => ∃ m : Nat, m ≤ 16 * n ∧ x = .int .i64 m ∧ tl (Dg.dg 2 v) m = tl (Dg.dg 2 v) (16 * n) ∧ wr = w) (fun x _ => (intOf x).toNat)
  case atStart => exact ⟨16 * n, Nat.le_refl _, by go_num, rfl, rfl⟩
  case round =>
    obtain ⟨m, hm, rfl, htl, rfl⟩ := hrel
    have HTL := Lib.hid htl; clear htl
    by_cases h0 : 0 < m
    · obtain ⟨k, rfl⟩ : ∃ k, m = k + 1 := ⟨m - 1, by omega⟩
      have hbl : Dg.dg 2 v k < 2 := Dg.dg_lt (by omega) _ _
      obtain ⟨x, hx⟩ : ∃ x, x = Dg.dg 2 v k := ⟨_, rfl⟩
      rw [← hx] at hbl
      have HX := Lib.hid hx; clear hx
      by_cases hz : x = 0
      · have hzb : ((x : Int) == 0) = true := by rw [beq_iff_eq]; omega
        have HZ := Lib.hid hz; clear hz
        go_wp2_with (go_at_call 45; refine (bit_any ao n c v k _ ha (by omega)).mono ?_; rintro e w' ⟨rfl, rfl⟩; rw [← HX.out])
        go_roundw
        case rel => exact ⟨k, by omega, by go_num, by rw [← HTL.out, tl, if_pos (by rw [← HX.out]; exact HZ.out)], by trivial⟩
        case measure => simp [intOf]
      · have hzb : ((x : Int) == 0) = false := by rw [beq_eq_false_iff_ne]; omega
        have HZ := Lib.hid hz; clear hz
        go_wp2_with (go_at_call 45; refine (bit_any ao n c v k _ ha (by omega)).mono ?_; rintro e w' ⟨rfl, rfl⟩; rw [← HX.out])
        go_ret
        exact ⟨ret_int (by rw [← HT.out, ← HTL.out, tl, if_neg (by rw [← HX.out]; exact HZ.out)]; rfl), by trivial⟩
    · obtain rfl : m = 0 := by omega
      go_wp2_with fail
      go_ret
      exact ⟨ret_int (by rw [← HT.out, ← HTL.out]; rfl), by trivial⟩
end Go.Proofs.YtbmhiejggkdnkaaGreatDoor
