/- NatShifts: the walk. -/
import Derived.Test.YtbmhiejggkdnkaaDoorZeros
import Derived.Test.YtbmhiejggkdnkaaDoorRKit
import Derived.IntWalk
import Derived.Deep.RegionWith
import Derived.Laws.NewBlocks
namespace Go.Proofs.YtbmhiejggkdnkaaDoor
open Go.RowKit

theorem and255_i64 (n : Int) : bits .and .i64 n 255 = n % 256 := by
  have h : (BitVec.ofInt 64 255).toNat = 2 ^ 8 - 1 := by decide
  have key : (BitVec.ofInt 64 n &&& BitVec.ofInt 64 255).toNat = (n % ((2 ^ 64 : Nat) : Int)).toNat % 2 ^ 8 := by
    rw [BitVec.toNat_and, BitVec.toNat_ofInt, h, Nat.and_two_pow_sub_one_eq_mod]
  show IntKind.i64.wrap ((BitVec.ofInt 64 n &&& BitVec.ofInt 64 255).toNat : Nat) = n % 256
  rw [key, IntKind.wrap_i64]
  omega
theorem len_shift (A n : Nat) (h : 0 < A) : Dg.len 2 (A * 256 ^ n) = Dg.len 2 A + 8 * n := by
  have e : 256 ^ n = 2 ^ (8 * n) := by rw [show (256 : Nat) = 2 ^ 8 from rfl, ← Nat.pow_mul]
  have hp : 0 < 2 ^ (8 * n) := Nat.pow_pos (by omega)
  have h7 := (Dg.len_pos_iff (B := 2) (by omega) A).2 h
  rw [e]
  apply Dg.len_unique (B := 2) (by omega)
  · rw [Nat.pow_add]
    exact Nat.mul_lt_mul_of_pos_right (Dg.lt_pow_len (by omega) A) hp
  · right
    rw [show Dg.len 2 A + 8 * n - 1 = 8 * n + (Dg.len 2 A - 1) from by omega, ← Dg.dg_div, Nat.mul_div_cancel _ hp]
    exact Dg.dg_top (B := 2) (by omega) h

theorem pow_small {b n : Nat} (h : b < 8 * n) : 2 ^ b < 256 ^ n := by
  rw [show (256 : Nat) = 2 ^ 8 from rfl, ← Nat.pow_mul]
  exact Nat.pow_lt_pow_right (by omega) h
theorem tx_two (b : Nat) (hb : b < 2400) : (tx (2 ^ b)).size ≤ 400 := by
  obtain ⟨n, hn⟩ : ∃ n, n = 400 := ⟨_, rfl⟩
  have h := tx_le (pow_small (b := b) (n := n) (by omega))
  omega
theorem pow_two (q : ByteArray) (b : Nat) (w : World) (hq : q.size ≤ 2) (hn : nv q = b) (hb : b < 2400) :
    Calls Tryd.prog 22 #[.string ⟨#[2]⟩, .string q, .string (⟨#[1]⟩ ++ zs 400)] w fun e w' => e = okT (2 ^ b) ∧ Below w.heap.size w w' := by
  obtain ⟨n, hn4⟩ : ∃ n, n = 400 := ⟨_, rfl⟩
  rw [← hn4]
  have hz : (⟨#[1]⟩ ++ zs n : ByteArray).size ≤ 512 := by rw [app_size, zs_size]; show 1 + n ≤ 512; omega
  refine (pow_ok ⟨#[2]⟩ q _ 2 b (256 ^ n) w (by decide) (by omega) hz rfl hn (nv_one_zs n) (Nat.pow_pos (by omega))).mono ?_
  rintro e w' ⟨rfl, hb'⟩
  rw [Nat.mod_eq_of_lt (pow_small (by omega))]
  exact ⟨rfl, hb'⟩

/-- The row of the two bytes of a number below 65536. -/
theorem nv_two (x : Nat) (h : x < 65536) : nv ⟨#[UInt8.ofNat (x / 256), UInt8.ofNat (x % 256)]⟩ = x := by
  show bv [UInt8.ofNat (x / 256), UInt8.ofNat (x % 256)] = x
  rw [bv_cons, bv_cons]
  have e0 : bv [] = 0 := rfl
  rw [e0, toNat_ofNat8 _ (by omega), toNat_ofNat8 _ (by omega)]
  simp; omega

set_option maxRecDepth 100000 in
set_option maxHeartbeats 6400000 in
theorem law_any (a : ByteArray) (n : Int) (w : World) (ha : a.size ≤ 140737488351232) (hn1 : -9223372036854775808 ≤ n) (hn2 : n ≤ 9223372036854775807) :
    Calls Tryd.prog 9 #[.string a, .int .i64 n] w fun e w' => e = .returned (.bool true) ∧ Below w.heap.size w w' := by
  by_cases h0 : n < 0
  · go_enter Tryd.func9, Tryd.ntmps9
    go_wp2_with fail
    refine (fixed_any _).mono ?_
    rintro e w1 ⟨rfl, hb1⟩
    go_wp2_with fail
    go_ret
    exact ⟨rfl, hb1⟩
  · by_cases h1 : 200 < n
    · go_enter Tryd.func9, Tryd.ntmps9
      go_wp2_with fail
      refine (fixed_any _).mono ?_
      rintro e w1 ⟨rfl, hb1⟩
      go_wp2_with fail
      go_ret
      exact ⟨rfl, hb1⟩
    · by_cases h2 : 300 < a.size
      · go_enter Tryd.func9, Tryd.ntmps9
        go_wp2_with fail
        refine (fixed_any _).mono ?_
        rintro e w1 ⟨rfl, hb1⟩
        go_wp2_with fail
        go_ret
        exact ⟨rfl, hb1⟩
      · obtain ⟨m, rfl⟩ : ∃ m : Nat, n = (m : Int) := ⟨n.toNat, by omega⟩
        obtain ⟨A, hA⟩ : ∃ A, A = nv a := ⟨_, rfl⟩
        have hAl : A < 256 ^ a.size := by rw [hA]; exact nv_size a
        obtain ⟨pw, hpw⟩ : ∃ pw, pw = (⟨#[1]⟩ ++ zs m : ByteArray) := ⟨_, rfl⟩
        obtain ⟨up, hup⟩ : ∃ up, up = a ++ zs m := ⟨_, rfl⟩
        have hpn : nv pw = 256 ^ m := by rw [hpw]; exact nv_one_zs m
        have hun : nv up = A * 256 ^ m := by rw [hup, hA]; exact nv_zs a m
        have hps : pw.size ≤ 201 := by rw [hpw, app_size, zs_size]; show 1 + m ≤ 201; omega
        have hus : up.size ≤ 500 := by rw [hup, app_size, zs_size]; omega
        have HA := Lib.hid hA.symm; have HAl := Lib.hid hAl; have HPW := Lib.hid hpw.symm; have HUP := Lib.hid hup.symm; have HPN := Lib.hid hpn; have HUN := Lib.hid hun
        clear hA hAl hpw hup hpn hun
        have hz : 0 < 256 ^ m := Nat.pow_pos (by omega)
        have HZ := Lib.hid hz; clear hz
        have hss : a.size ≤ 300 := by omega
        have hzs : (zs m).size ≤ 200 := by rw [zs_size]; omega
        go_enter Tryd.func9, Tryd.ntmps9
        go_wp2_with fail
        refine (fixed_any _).mono ?_
        rintro e w1 ⟨rfl, hb1⟩
        go_wp2_with (first | (refine wpList_make_row _ rfl (.tmp 30) (.tmp 30) _ rfl 5 .u8 1 Tryd.underlying31 info8 .i64 .i64 _ _ m rfl rfl (by omega) (by omega) (by omega) (by omega) ?_; intro g2 w2 hg2 hown2 hb2; have hcv2 := run_string_zeros hown2) | (refine wpList_make_row _ rfl (.tmp 35) (.tmp 35) _ rfl 5 .u8 1 Tryd.underlying31 info8 .i64 .i64 _ _ m rfl rfl (by omega) (by omega) (by omega) (by omega) ?_; intro g3 w3 hg3 hown3 hb3; have hcv3 := run_string_zeros hown3))
        rw [HPW.out, HUP.out]
        have hb3 : Below w.heap.size w w3 := by
          have h2 := hb1.trans (hb2.mono hb1.size)
          exact h2.trans (hb3.mono h2.size)
        clear hb1 hb2 hown2 hown3 hcv2 hcv3
        refine (mul_ok a pw A (256 ^ m) _ (by omega) (by omega) HA.out HPN.out).mono ?_
        rintro e w4 ⟨rfl, hb4⟩
        have hb4 := hb3.trans (hb4.mono hb3.size); clear hb3
        unfold okT
        go_wp2_with fail
        refine (div_ok up pw (A * 256 ^ m) (256 ^ m) _ (by omega) (by omega) HUN.out HPN.out HZ.out).mono ?_
        rintro e w5 ⟨rfl, hb5⟩
        have hb5 := hb4.trans (hb5.mono hb4.size); clear hb4
        rw [Nat.mul_div_cancel _ HZ.out, Nat.mul_mod_left, tx_zero]
        go_wp2_with fail
        refine (trim_ok up (A * 256 ^ m) _ HUN.out).mono ?_
        rintro e wt ⟨rfl, rfl⟩
        go_wp2_with fail
        refine (trim_ok a A _ HA.out).mono ?_
        rintro e wt ⟨rfl, rfl⟩
        go_wp2_with fail
        by_cases hA0 : A = 0
        · subst hA0
          refine (trim_ok a 0 _ HA.out).mono ?_
          rintro e wt ⟨rfl, rfl⟩
          rw [tx_zero]
          go_wp2_with fail
          refine (bits_okB up 0 _ (by omega) (by rw [HUN.out, Nat.zero_mul])).mono ?_
          rintro e w6 ⟨rfl, hb6⟩
          have hb6 := hb5.trans (hb6.mono hb5.size); clear hb5
          rw [Dg.len_zero]
          go_wp2_with fail
          go_ret
          exact ⟨rfl, hb6⟩
        · have hAp : 0 < A := by omega
          have HAP := Lib.hid hAp; clear hAp hA0
          have htp := tx_pos HAP.out
          refine (trim_ok a A _ HA.out).mono ?_
          rintro e wt ⟨rfl, rfl⟩
          go_wp2_with fail
          clear htp
          obtain ⟨b, hb⟩ : ∃ b, b = Dg.len 2 A - 1 := ⟨_, rfl⟩
          have hlp := (Dg.len_pos_iff (B := 2) (by omega) A).2 HAP.out
          have hl2 : Dg.len 2 A = b + 1 := by omega
          have hbl : b + 1 ≤ 8 * a.size := by rw [← hl2]; refine (Dg.len_le_iff (by omega) A _).2 ?_; rw [Nat.pow_mul]; exact HAl.out
          have HL2 := Lib.hid hl2; clear hb hlp hl2
          refine (bits_okB a A _ (by omega) HA.out).mono ?_
          rintro e w6 ⟨rfl, hb6⟩
          have hb6 := hb5.trans (hb6.mono hb5.size); clear hb5
          rw [HL2.out]
          go_wp2_with fail
          have hb24 : b < 2400 := by omega
          clear hbl
          obtain ⟨h1c, hh1⟩ : ∃ c, c = UInt8.ofNat (b / 256) := ⟨_, rfl⟩
          obtain ⟨h2c, hh2⟩ : ∃ c, c = UInt8.ofNat (b % 256) := ⟨_, rfl⟩
          have hn1 : ((h1c.toNat : Nat) : Int) = (b : Int) / 256 := by rw [hh1, toNat_ofNat8 _ (by omega)]; omega
          have hn2 : ((h2c.toNat : Nat) : Int) = (b : Int) % 256 := by rw [hh2, toNat_ofNat8 _ (by omega)]; omega
          have hnb : nv ⟨#[h1c, h2c]⟩ = b := by rw [hh1, hh2]; exact nv_two b (by omega)
          have HN1 := Lib.hid hn1; have HN2 := Lib.hid hn2; have HNB := Lib.hid hnb; clear hh1 hh2 hn1 hn2 hnb
          have E1 : IntKind.i64.wrap (b : Int) = b := IntWalk.i64_in _ (by omega)
          have E2 : IntKind.u8.wrap ((b : Int) / 256) = (b : Int) / 256 := IntWalk.u8_in _ (by omega)
          have E3 : bits BinOp.and IntKind.i64 (b : Int) 255 = (b : Int) % 256 := and255_i64 _
          have E4 : IntKind.u8.wrap ((b : Int) % 256) = (b : Int) % 256 := IntWalk.u8_in _ (by omega)
          have kc2 := fun u g => run_string2 u g h1c h2c _ _ HN1.out HN2.out
          have kcA : ∀ X : Obj, (convert 31 9 (.slice (some ⟨w6.heap.size + 1, 0, none⟩) 400 400)).run Tryd.prog ((w6.alloc X).alloc (.cells z400 5)).drew = .ok (.string (zs 400)) ((w6.alloc X).alloc (.cells z400 5)).drew := fun X => run_string400 _ _ (heap_alloc2_new w6 X _)
          have kcB : (convert 31 9 (.slice (some ⟨w6.heap.size, 0, none⟩) 400 400)).run Tryd.prog (w6.alloc (.cells z400 5)).drew = .ok (.string (zs 400)) (w6.alloc (.cells z400 5)).drew := run_string400 _ _ (heap_alloc_new w6 _)
          have kcC : ∀ X : Obj, (convert 31 9 (.slice (some ⟨w6.heap.size, 0, none⟩) 400 400)).run Tryd.prog ((w6.alloc (.cells z400 5)).alloc X).drew = .ok (.string (zs 400)) ((w6.alloc (.cells z400 5)).alloc X).drew := fun X => run_string400 _ _ (heap_alloc2_old w6 _ X)
          have hz4 : (zs 400).size = 400 := zs_size 400
          have hmk := run_make400
          have hqs : (ByteArray.mk #[h1c, h2c]).size ≤ 2 := Nat.le_refl 2
          go_cut [13, 14] (fun s13 s14 wx => s13 = .string (tx (2 ^ b)) ∧ s14 = .int .i64 0 ∧ Below w.heap.size w wx)
          case first =>
            go_region_with (first
              | (go_at_call 22; refine (pow_two _ b _ hqs HNB.out hb24).mono ?_; rintro e wp ⟨rfl, hbp⟩; unfold okT))
            all_goals
              go_wp2_with fail
              go_meet
              exact ⟨rfl, rfl, (((hb6.alloc hb6.size _).alloc (by have := hb6.size; simp; omega) _).drew).trans (hbp.mono (by have := hb6.size; simp; omega))⟩
          case rest =>
            obtain ⟨rfl, rfl, hbc⟩ := hcut
            clear E1 E2 E3 E4 kc2 kcA kcB kcC hmk hb6
            have hts := tx_two b hb24
            have hle : 2 ^ b ≤ A := by have h := Dg.pow_len_le (B := 2) (by omega) A HAP.out; rw [HL2.out, Nat.add_sub_cancel] at h; exact h
            have hlt : A < 2 ^ b + 2 ^ b := by have h := Dg.lt_pow_len (B := 2) (by omega) A; rw [HL2.out, Nat.pow_succ] at h; omega
            have hz1 : cmpN (2 ^ b) A ≤ 0 := by unfold cmpN; split; omega; split <;> omega
            have hz2 : cmpN A (2 ^ b + 2 ^ b) = -1 := cmpN_lt hlt
            obtain ⟨z, hz⟩ : ∃ z, z = cmpN (2 ^ b) A := ⟨_, rfl⟩
            rw [← hz] at hz1
            have HZ1 := Lib.hid hz; have HZ2 := Lib.hid hz2; clear hz hz2 hle hlt
            go_wp2_with fail
            refine (add_ok _ _ (2 ^ b) (2 ^ b) _ (by omega) (by omega) (nv_tx _) (nv_tx _)).mono ?_
            rintro e wa ⟨rfl, hba⟩
            have hba := hbc.trans (hba.mono hbc.size); clear hbc
            unfold okT
            go_wp2_with fail
            refine (bits_okB up (A * 256 ^ m) _ (by omega) HUN.out).mono ?_
            rintro e wb ⟨rfl, hbb⟩
            have hbb := hba.trans (hbb.mono hba.size); clear hba
            rw [len_shift A m HAP.out, HL2.out]
            have hsum : ((b + 1 + 8 * m : Nat) : Int) = (b : Int) + 1 + 8 * (m : Int) := by omega
            rw [hsum]
            clear hsum
            go_wp2_with fail
            refine (cmp_okB _ a (2 ^ b) A _ (nv_tx _) HA.out).mono ?_
            rintro e wc ⟨rfl, hbd⟩
            have hbd := hbb.trans (hbd.mono hbb.size); clear hbb
            rw [← HZ1.out]
            go_wp2_with fail
            refine (cmp_okB a _ A (2 ^ b + 2 ^ b) _ HA.out (nv_tx _)).mono ?_
            rintro e we ⟨rfl, hbe⟩
            have hbe := hbd.trans (hbe.mono hbd.size); clear hbd
            rw [HZ2.out]
            go_wp2_with fail
            go_ret
            exact ⟨rfl, hbe⟩
end Go.Proofs.YtbmhiejggkdnkaaDoor
