/- QOps QHalf QInv QRead, in one text. -/
import Derived.Test.YtaggpodckafbgaaGreatDoorZQ2
import Derived.Test.YtaggpodckafbgaaGreatDoorZQ1
import Derived.Test.YtaggpodckafbgaaGreatDoorZF
import Derived.Test.YtaggpodckafbgaaGreatDoorZN2
/- The reference's numbers modulo P and N (layer 5): the walks. -/
namespace Go.Proofs.YtaggpodckafbgaaGreatDoor
open Go.RowKit
theorem QN.lit {w : World} {cs : Array Value} {v n : Nat} (h : cs.toList = (dl v n).map fun c => Value.int .u32 (c : Nat)) (hl : n = Dg.len DB v) (hn : n ≤ 9223372036854775807) :
    QN (w.alloc (.cells cs 64)) (some ⟨w.heap.size, 0, none⟩) n n v := by
  refine ⟨hl, Sh.some _ _ _, Nat.le_refl _, hn, fun j hj => ?_⟩
  rw [blk_some, off_some, Nat.zero_add]
  have hc : cs.toList[j]? = some (.int .u32 (Dg.dg DB v j : Nat)) := by rw [h]; simp [dl, hj]
  simpa using hc
theorem QN.size {w : World} {ao : Option Addr} {n c v : Nat} (h : QN w ao n c v) (hv : v < 115792089237316195423570985008687907853269984665640564039457584007913129639936) : n ≤ 16 := h.le (Nat.lt_of_lt_of_le hv (by decide))
theorem QN.size2 {w : World} {ao : Option Addr} {n c v : Nat} (h : QN w ao n c v) (hv : v < 13407807929942597099574024998205846127479365820592393377723561443721764030073546976801874298166903427690031858186486050853753882811946569946433649006084096) : n ≤ 32 := h.le (Nat.lt_of_lt_of_le hv (by decide))
theorem len_P : 16 = Dg.len DB Ec.P := by decide +kernel
theorem len_N : 16 = Dg.len DB Ec.N := by decide +kernel
theorem dl_P : (#[.int .u32 65535, .int .u32 65535, .int .u32 65535, .int .u32 65535, .int .u32 65535, .int .u32 65535, .int .u32 0, .int .u32 0, .int .u32 0, .int .u32 0, .int .u32 0, .int .u32 0, .int .u32 1, .int .u32 0, .int .u32 65535, .int .u32 65535] : Array Value).toList = (dl Ec.P 16).map fun c => Value.int .u32 (c : Nat) := by
  have h : dl Ec.P 16 = [65535, 65535, 65535, 65535, 65535, 65535, 0, 0, 0, 0, 0, 0, 1, 0, 65535, 65535] := by decide +kernel
  rw [h]; rfl
theorem dl_N : (#[.int .u32 9553, .int .u32 64611, .int .u32 51906, .int .u32 62393, .int .u32 40580, .int .u32 42775, .int .u32 64173, .int .u32 48358, .int .u32 65535, .int .u32 65535, .int .u32 65535, .int .u32 65535, .int .u32 0, .int .u32 0, .int .u32 65535, .int .u32 65535] : Array Value).toList = (dl Ec.N 16).map fun c => Value.int .u32 (c : Nat) := by
  have h : dl Ec.N 16 = [9553, 64611, 51906, 62393, 40580, 42775, 64173, 48358, 65535, 65535, 65535, 65535, 0, 0, 65535, 65535] := by decide +kernel
  rw [h]; rfl
set_option maxRecDepth 100000 in
theorem qmod_any (m : Int) (w : World) : Calls Tryz.prog 36 #[.int .i64 m] w (RetQN w (pp m)) := by
  have HP := Lib.hid (show ∀ w : World, QN (w.alloc (.cells #[.int .u32 65535, .int .u32 65535, .int .u32 65535, .int .u32 65535, .int .u32 65535, .int .u32 65535, .int .u32 0, .int .u32 0, .int .u32 0, .int .u32 0, .int .u32 0, .int .u32 0, .int .u32 1, .int .u32 0, .int .u32 65535, .int .u32 65535] 64)) (some ⟨w.heap.size, 0, none⟩) 16 16 Ec.P from fun w => QN.lit dl_P len_P (by decide))
  have HN := Lib.hid (show ∀ w : World, QN (w.alloc (.cells #[.int .u32 9553, .int .u32 64611, .int .u32 51906, .int .u32 62393, .int .u32 40580, .int .u32 42775, .int .u32 64173, .int .u32 48358, .int .u32 65535, .int .u32 65535, .int .u32 65535, .int .u32 65535, .int .u32 0, .int .u32 0, .int .u32 65535, .int .u32 65535] 64)) (some ⟨w.heap.size, 0, none⟩) 16 16 Ec.N from fun w => QN.lit dl_N len_N (by decide))
  by_cases h0 : m = 0
  · have hp : pp m = Ec.P := if_pos h0
    rw [hp]
    have hb : (m == 0) = true := by rw [beq_iff_eq]; exact h0
    clear h0 hp
    go_enter Tryz.func36, Tryz.ntmps36
    go_wp2_with fail
    go_ret
    exact ⟨_, _, _, rfl, HP.out _, (Below.refl _ _).alloc (Nat.le_refl _) _⟩
  · have hp : pp m = Ec.N := if_neg h0
    rw [hp]
    have hb : (m == 0) = false := by rw [beq_eq_false_iff_ne]; exact h0
    clear h0 hp
    go_enter Tryz.func36, Tryz.ntmps36
    go_wp2_with fail
    go_ret
    exact ⟨_, _, _, rfl, HN.out _, (Below.refl _ _).alloc (Nat.le_refl _) _⟩
theorem pp_size {w : World} {ao : Option Addr} {n c : Nat} {m : Int} (h : QN w ao n c (pp m)) : n ≤ 16 := h.size (pp_big m).1
theorem pp_pos (m : Int) : 0 < pp m := by have h := (pp_big m).2; omega
set_option maxRecDepth 100000 in
theorem qsum_any (m : Int) (ao bo : Option Addr) (n c k d a b : Nat) (w : World) (ha : QN w ao n c a) (hb : QN w bo k d b) (ha4 : a < 115792089237316195423570985008687907853269984665640564039457584007913129639936) (hb4 : b < 115792089237316195423570985008687907853269984665640564039457584007913129639936) :
    Calls Tryz.prog 75 #[.int .i64 m, .slice ao n c, .slice bo k d] w (RetQN w ((a + b) % pp m)) := by
  have hn := ha.size ha4
  have hk := hb.size hb4
  have hv : a + b < 13407807929942597099574024998205846127479365820592393377723561443721764030073546976801874298166903427690031858186486050853753882811946569946433649006084096 := by
    omega
  have HV := Lib.hid hv; clear hv
  go_enter Tryz.func75, Tryz.ntmps75
  go_wp2_with fail
  refine (qadd_any _ _ _ _ _ _ _ _ _ ha hb (by omega) (by omega)).mono ?_
  rintro e w1 ⟨ro, n1, c1, rfl, h1, hb1⟩
  have hn1 := h1.size2 HV.out
  go_wp2_with fail
  refine (qmod_any m _).mono ?_
  rintro e w2 ⟨mo, n2, c2, rfl, h2, hb2⟩
  have h1' := h1.below hb2 (Nat.le_refl _)
  have hn2 := pp_size h2
  go_wp2_with fail
  refine (qleft_any _ _ _ _ _ _ _ _ _ h1' h2 (pp_pos m) (by omega) (by omega)).mono ?_
  rintro e w3 ⟨ro3, n3, c3, rfl, h3, hb3⟩
  go_wp2_with fail
  go_ret
  exact ⟨_, _, _, rfl, h3, (hb1.trans (hb2.mono hb1.size)).trans (hb3.mono (Nat.le_trans hb1.size hb2.size))⟩
set_option maxRecDepth 100000 in
theorem qprod_any (m : Int) (ao bo : Option Addr) (n c k d a b : Nat) (w : World) (ha : QN w ao n c a) (hb : QN w bo k d b) (ha4 : a < 115792089237316195423570985008687907853269984665640564039457584007913129639936) (hb4 : b < 115792089237316195423570985008687907853269984665640564039457584007913129639936) :
    Calls Tryz.prog 54 #[.int .i64 m, .slice ao n c, .slice bo k d] w (RetQN w ((a * b) % pp m)) := by
  have hn := ha.size ha4
  have hk := hb.size hb4
  have hv : a * b < 13407807929942597099574024998205846127479365820592393377723561443721764030073546976801874298166903427690031858186486050853753882811946569946433649006084096 := by
    have h := Nat.mul_lt_mul'' ha4 hb4
    exact h
  have HV := Lib.hid hv; clear hv
  go_enter Tryz.func54, Tryz.ntmps54
  go_wp2_with fail
  refine (qmul_any _ _ _ _ _ _ _ _ _ ha hb (by omega) (by omega)).mono ?_
  rintro e w1 ⟨ro, n1, c1, rfl, h1, hb1⟩
  have hn1 := h1.size2 HV.out
  go_wp2_with fail
  refine (qmod_any m _).mono ?_
  rintro e w2 ⟨mo, n2, c2, rfl, h2, hb2⟩
  have h1' := h1.below hb2 (Nat.le_refl _)
  have hn2 := pp_size h2
  go_wp2_with fail
  refine (qleft_any _ _ _ _ _ _ _ _ _ h1' h2 (pp_pos m) (by omega) (by omega)).mono ?_
  rintro e w3 ⟨ro3, n3, c3, rfl, h3, hb3⟩
  go_wp2_with fail
  go_ret
  exact ⟨_, _, _, rfl, h3, (hb1.trans (hb2.mono hb1.size)).trans (hb3.mono (Nat.le_trans hb1.size hb2.size))⟩
set_option maxRecDepth 100000 in
theorem qopp_any (m : Int) (ao : Option Addr) (n c a : Nat) (w : World) (ha : QN w ao n c a) (ha4 : a < 115792089237316195423570985008687907853269984665640564039457584007913129639936) :
    Calls Tryz.prog 76 #[.int .i64 m, .slice ao n c] w (RetQN w ((pp m - a % pp m) % pp m)) := by
  have hn := ha.size ha4
  go_enter Tryz.func76, Tryz.ntmps76
  go_wp2_with fail
  refine (qmod_any m _).mono ?_
  rintro e w1 ⟨mo, n1, c1, rfl, h1, hb1⟩
  have hn1 := pp_size h1
  have ha := ha.below hb1 (Nat.le_refl _)
  go_wp2_with fail
  refine (qmod_any m _).mono ?_
  rintro e w2 ⟨mo2, n2, c2, rfl, h2, hb2⟩
  have hn2 := pp_size h2
  have ha := ha.below hb2 (Nat.le_refl _)
  have h1 := h1.below hb2 (Nat.le_refl _)
  have hb2 := hb1.trans (hb2.mono hb1.size)
  go_wp2_with fail
  refine (qleft_any _ _ _ _ _ _ _ _ _ ha h2 (pp_pos m) (by omega) (by omega)).mono ?_
  rintro e w3 ⟨ro3, n3, c3, rfl, h3, hb3⟩
  have h1 := h1.below hb3 (Nat.le_refl _)
  have hb3 := hb2.trans (hb3.mono hb2.size)
  have hlt : a % pp m < pp m := Nat.mod_lt _ (pp_pos m)
  have hn3 := h3.size (Nat.lt_trans hlt (pp_big m).1)
  go_wp2_with fail
  refine (qsub_any _ _ _ _ _ _ _ _ _ h1 h3 (Nat.le_of_lt hlt) (by omega) (by omega)).mono ?_
  rintro e w4 ⟨ro4, n4, c4, rfl, h4, hb4⟩
  have hb4 := hb3.trans (hb4.mono hb3.size)
  have hn4 := h4.size (Nat.lt_of_le_of_lt (Nat.sub_le _ _) (pp_big m).1)
  go_wp2_with fail
  refine (qmod_any m _).mono ?_
  rintro e w5 ⟨mo5, n5, c5, rfl, h5, hb5⟩
  have hn5 := pp_size h5
  have h4 := h4.below hb5 (Nat.le_refl _)
  have hb5 := hb4.trans (hb5.mono hb4.size)
  go_wp2_with fail
  refine (qleft_any _ _ _ _ _ _ _ _ _ h4 h5 (pp_pos m) (by omega) (by omega)).mono ?_
  rintro e w6 ⟨ro6, n6, c6, rfl, h6, hb6⟩
  have hb6 := hb5.trans (hb6.mono hb5.size)
  go_wp2_with fail
  go_ret
  exact ⟨_, _, _, rfl, h6, hb6⟩
theorem pp0 : pp 0 = Ec.P := if_pos rfl
abbrev QF (w : World) (ao : Option Addr) (n c : Nat) (a : Ec.F) : Prop := QN w ao n c a.val
set_option maxRecDepth 100000 in
theorem qtimes_any (ao bo : Option Addr) (n c k d : Nat) (a b : Ec.F) (w : World) (ha : QF w ao n c a) (hb : QF w bo k d b) :
    Calls Tryz.prog 39 #[.slice ao n c, .slice bo k d] w (RetQN w (a * b).val) := by
  have HE := Lib.hid (show (a * b).val = a.val * b.val % pp 0 from by rw [pp0]; exact Fin.val_mul a b)
  rw [HE.out]
  go_enter Tryz.func39, Tryz.ntmps39
  go_wp2_with fail
  refine (qprod_any 0 _ _ _ _ _ _ _ _ _ ha hb (F_lt a) (F_lt b)).mono ?_
  rintro e w1 ⟨ro, n1, c1, rfl, h1, hb1⟩
  go_wp2_with fail
  go_ret
  exact ⟨_, _, _, rfl, h1, hb1⟩
set_option maxRecDepth 100000 in
theorem qplus_any (ao bo : Option Addr) (n c k d : Nat) (a b : Ec.F) (w : World) (ha : QF w ao n c a) (hb : QF w bo k d b) :
    Calls Tryz.prog 37 #[.slice ao n c, .slice bo k d] w (RetQN w (a + b).val) := by
  have HE := Lib.hid (show (a + b).val = (a.val + b.val) % pp 0 from by rw [pp0]; exact Fin.val_add a b)
  rw [HE.out]
  go_enter Tryz.func37, Tryz.ntmps37
  go_wp2_with fail
  refine (qsum_any 0 _ _ _ _ _ _ _ _ _ ha hb (F_lt a) (F_lt b)).mono ?_
  rintro e w1 ⟨ro, n1, c1, rfl, h1, hb1⟩
  go_wp2_with fail
  go_ret
  exact ⟨_, _, _, rfl, h1, hb1⟩
set_option maxRecDepth 100000 in
theorem qminus_any (ao bo : Option Addr) (n c k d : Nat) (a b : Ec.F) (w : World) (ha : QF w ao n c a) (hb : QF w bo k d b) :
    Calls Tryz.prog 38 #[.slice ao n c, .slice bo k d] w (RetQN w (a - b).val) := by
  have HE := Lib.hid (show (a - b).val = (a.val + (pp 0 - b.val % pp 0) % pp 0) % pp 0 from by
    rw [pp0, Fin.sub_def]
    show (Ec.P - b.val + a.val) % Ec.P = _
    rw [Nat.mod_eq_of_lt b.isLt, Nat.add_mod_mod, Nat.add_comm])
  rw [HE.out]
  go_enter Tryz.func38, Tryz.ntmps38
  go_wp2_with fail
  refine (qopp_any 0 _ _ _ _ _ hb (F_lt b)).mono ?_
  rintro e w0 ⟨ro0, n0, c0, rfl, h0, hb0⟩
  have ha := ha.below hb0 (Nat.le_refl _)
  go_wp2_with fail
  refine (qsum_any 0 _ _ _ _ _ _ _ _ _ ha h0 (F_lt a) (Nat.lt_trans (Nat.mod_lt _ (pp_pos 0)) (pp_big 0).1)).mono ?_
  rintro e w1 ⟨ro, n1, c1, rfl, h1, hb1⟩
  have hb1 := hb0.trans (hb1.mono hb0.size)
  go_wp2_with fail
  go_ret
  exact ⟨_, _, _, rfl, h1, hb1⟩
theorem dl_b : (#[.int .u32 24651, .int .u32 10194, .int .u32 15422, .int .u32 15310, .int .u32 45302, .int .u32 52307, .int .u32 1712, .int .u32 25885, .int .u32 34492, .int .u32 30360, .int .u32 48469, .int .u32 46059, .int .u32 37863, .int .u32 43578, .int .u32 13784, .int .u32 23238] : Array Value).toList = (dl Ec.cb.val 16).map fun c => Value.int .u32 (c : Nat) := by
  have h : dl Ec.cb.val 16 = [24651, 10194, 15422, 15310, 45302, 52307, 1712, 25885, 34492, 30360, 48469, 46059, 37863, 43578, 13784, 23238] := by decide +kernel
  rw [h]; rfl
theorem len_b : 16 = Dg.len DB Ec.cb.val := by decide +kernel
set_option maxRecDepth 100000 in
theorem qb_any (w : World) : Calls Tryz.prog 40 #[] w (RetQN w Ec.cb.val) := by
  have HP := Lib.hid (show ∀ w : World, QN (w.alloc (.cells #[.int .u32 24651, .int .u32 10194, .int .u32 15422, .int .u32 15310, .int .u32 45302, .int .u32 52307, .int .u32 1712, .int .u32 25885, .int .u32 34492, .int .u32 30360, .int .u32 48469, .int .u32 46059, .int .u32 37863, .int .u32 43578, .int .u32 13784, .int .u32 23238] 64)) (some ⟨w.heap.size, 0, none⟩) 16 16 Ec.cb.val from fun w => QN.lit dl_b len_b (by decide))
  generalize Ec.cb.val = cbv at *
  go_enter Tryz.func40, Tryz.ntmps40
  go_wp2_with fail
  go_ret
  exact ⟨_, _, _, rfl, HP.out _, (Below.refl _ _).alloc (Nat.le_refl _) _⟩
end Go.Proofs.YtaggpodckafbgaaGreatDoor
/- The reference's half, odd, halved, less (layer 5): the walks. -/
namespace Go.Proofs.YtaggpodckafbgaaGreatDoor
open Go.RowKit
theorem half_dg (a i : Nat) : Dg.dg DB (a / 2) i = Dg.dg DB a i / 2 + 32768 * (Dg.dg DB a (i + 1) % 2) := by
  unfold Dg.dg
  rw [Nat.div_div_eq_div_mul, Nat.mul_comm 2, ← Nat.div_div_eq_div_mul, Nat.pow_succ, ← Nat.div_div_eq_div_mul, DB_eq]
  generalize a / 65536 ^ i = x
  omega
theorem or_top (c d : Nat) (hc : c ≤ 1) (hd : d < 65536) : bits BinOp.or IntKind.u32 ((c : Int) * 65536) (d : Int) = ((c * 65536 + d : Nat) : Int) := by
  have h := u32_or_nat (c * 65536) d (by omega) (by omega)
  have e : (c * 65536) ||| d = c * 65536 + d := by
    have h2 := Nat.two_pow_add_eq_or_of_lt (i := 16) (show d < 2 ^ 16 by omega) c
    rw [show c * 65536 = 2 ^ 16 * c by omega]; exact h2.symm
  rw [e] at h
  rw [Int.natCast_mul] at h
  exact h
theorem and_one (x : Nat) (h : x < 4294967296) : bits BinOp.and IntKind.u32 (x : Int) 1 = ((x % 2 : Nat) : Int) := by
  have := u32_and_nat x 1 h (by omega)
  rw [nat_mask1] at this
  exact this
set_option maxRecDepth 100000 in
set_option maxHeartbeats 1600000 in
theorem qhalf_any (ao : Option Addr) (n c a : Nat) (w : World) (ha : QN w ao n c a) (hn : n ≤ 10000000) :
    Calls Tryz.prog 89 #[.slice ao n c] w (RetQN w (a / 2)) := by
  have hal : a < DB ^ n := ha.lt
  have HAL := Lib.hid hal; clear hal
  go_enter Tryz.func89, Tryz.ntmps89
  go_wp2_with (refine wpList_make_row _ rfl (.tmp 8) (.tmp 8) _ rfl 64 .u32 4 Tryz.underlying29 qinfo32 .i64 .i64 _ _ n rfl rfl (by omega) (by omega) (by omega) (by omega) ?_; intro g w1 hg hown1 hb1)
  have hown2 : Own w1 .u32 64 g n (fun j => if n ≤ j then Dg.dg DB (a / 2) j else 0) := hown1.congr fun j hj => by rw [if_neg (by omega)]
  clear hown1
  go_loopw [4, 5] (fun cv iv wr => ∃ (x : Int) (k cr : Nat), x = (k : Int) - 1 ∧ k ≤ n ∧ iv = .int .i64 x ∧ cv = .int .u32 cr ∧ Hid (cr = Dg.dg DB a k % 2) ∧ Own wr .u32 64 g n (fun j => if k ≤ j then Dg.dg DB (a / 2) j else 0) ∧ Below w.heap.size w wr) (fun _ iv _ => (intOf iv + 1).toNat)
  case atStart => exact ⟨_, n, 0, rfl, Nat.le_refl _, rfl, rfl, by show 0 = _; rw [Dg.dg_of_lt HAL.out], hown2, hb1⟩
  case round =>
    obtain ⟨x, k, cr, hxk, hk, rfl, rfl, hcr, hown, hbel⟩ := hrel
    clear hown2 hb1
    by_cases h0 : x < 0
    · obtain rfl : k = 0 := by omega
      have hrd : Rd wr .u32 (some ⟨g, 0, none⟩) n n (Dg.dg DB (a / 2)) := (hown.congr fun j hj => by rw [if_pos (by omega)]).rd
      have hlt : a / 2 < DB ^ n := Nat.lt_of_le_of_lt (Nat.div_le_self _ _) HAL.out
      have HLT := Lib.hid hlt; clear hlt hxk
      go_wp2_with (go_at_call 74; refine (qtrim_num _ _ _ _ _ hrd HLT.out).mono ?_; rintro e w' ⟨k, rfl, hnum, rfl⟩)
      go_ret
      exact ⟨_, _, _, rfl, hnum, hbel⟩
    · obtain ⟨i, rfl⟩ : ∃ i, k = i + 1 := ⟨k - 1, by omega⟩
      obtain rfl : x = (i : Int) := by omega
      obtain ⟨d, hd⟩ : ∃ d, d = Dg.dg DB a i := ⟨_, rfl⟩
      have hdl : d < 65536 := by rw [hd]; exact Dg.dg_lt DBpos _ _
      have hcl : wr.cell? ⟨blk ao, off ao + i, none⟩ = some (.int .u32 (d : Nat)) := by rw [hd]; exact (ha.rd.below hbel (Nat.le_refl _)).cell i (by omega)
      have hsa := ha.rd.sh
      have hc1 : cr ≤ 1 := by rw [hcr.out]; omega
      have S := half_dg a i
      rw [← hd, ← hcr.out] at S
      have hor := or_top cr d hc1 hdl
      have hand : bits BinOp.and IntKind.u32 ((cr : Int) * 65536 + (d : Int)) 1 = ((d % 2 : Nat) : Int) := by
        have h := and_one (cr * 65536 + d) (by omega)
        have e : ((cr * 65536 + d : Nat) : Int) = (cr : Int) * 65536 + (d : Int) := by omega
        rw [e] at h; rw [h]; congr 1; omega
      have hfr := hown.frozen i
      have hco : wr.cell? ⟨g, i, none⟩ = some (.int .u32 0) := by have h := hown.cell i (by omega); rw [if_neg (by omega)] at h; exact h
      have HS := Lib.hid S; have HD := Lib.hid hd; have HOR := Lib.hid hor; have HAND := Lib.hid hand
      clear S hd hxk h0 hor hand
      have hor := HOR.out
      go_wp2_with fail
      go_roundw
      case rel =>
        refine ⟨_, i, d % 2, rfl, by omega, by go_num, ?_, by show d % 2 = _; rw [HD.out], own_set_int hown (s := (cr * 65536 + d) / 2) (by omega) (by rw [if_pos (Nat.le_refl _), HS.out]; omega) (fun j hj hne => by
          by_cases h1 : i + 1 ≤ j
          · rw [if_pos h1, if_pos (by omega)]
          · rw [if_neg h1, if_neg (by omega)]), hbel.setCell hg _⟩
        first | (congr 1; done) | (congr 1; exact HAND.out)
      case measure => simp [intOf]
def oddB (a : Nat) : Bool := decide (a % 2 = 1)
set_option maxRecDepth 100000 in
theorem qodd_any (ao : Option Addr) (n c a : Nat) (w : World) (ha : QN w ao n c a) :
    Calls Tryz.prog 88 #[.slice ao n c] w fun e w' => e = .returned (.bool (oddB a)) ∧ w = w' := by
  by_cases h0 : 0 < n
  · obtain ⟨d, hd⟩ : ∃ d, d = Dg.dg DB a 0 := ⟨_, rfl⟩
    have hcl : w.cell? ⟨blk ao, off ao + 0, none⟩ = some (.int .u32 (d : Nat)) := by rw [hd]; exact ha.rd.cell 0 h0
    have hcl2 : w.cell? ⟨blk ao, off ao, none⟩ = some (.int .u32 (d : Nat)) := by rw [hd]; exact ha.rd.cell 0 h0
    have hsa := ha.rd.sh
    have ho : oddB a = decide (d % 2 = 1) := by
      unfold oddB
      have : d % 2 = a % 2 := by rw [hd]; unfold Dg.dg; rw [Nat.pow_zero, Nat.div_one, DB_eq]; omega
      rw [this]
    have hdl : d < 65536 := by rw [hd]; exact Dg.dg_lt DBpos _ _
    rw [ho]
    clear ho hd
    by_cases h2 : d % 2 = 1
    · rw [decide_eq_true h2]
      have hb : (((d : Int) % 2) == 1) = true := by rw [beq_iff_eq]; omega
      clear h2
      go_enter Tryz.func88, Tryz.ntmps88
      go_wp2_with fail
      go_ret
      exact ⟨rfl, rfl⟩
    · rw [decide_eq_false h2]
      have hb : (((d : Int) % 2) == 1) = false := by rw [beq_eq_false_iff_ne]; omega
      clear h2
      go_enter Tryz.func88, Tryz.ntmps88
      go_wp2_with fail
      go_ret
      exact ⟨rfl, rfl⟩
  · obtain rfl : n = 0 := by omega
    have ho : oddB a = false := by
      unfold oddB
      have := ha.lt
      rw [show a = 0 by simpa using this]; rfl
    rw [ho]
    clear ho
    go_enter Tryz.func88, Tryz.ntmps88
    go_wp2_with fail
    go_ret
    exact ⟨rfl, rfl⟩
set_option maxRecDepth 100000 in
theorem qhalved_any (ao mo : Option Addr) (n c k d a m : Nat) (w : World) (ha : QN w ao n c a) (hm : QN w mo k d m) (hn : n ≤ 1000) (hk : k ≤ 1000) :
    Calls Tryz.prog 90 #[.slice ao n c, .slice mo k d] w (RetQN w (Bin.hv m a)) := by
  by_cases h2 : a % 2 = 1
  · have ho : oddB a = true := decide_eq_true h2
    have hh : Bin.hv m a = (a + m) / 2 := if_pos h2
    rw [hh]
    have HO := Lib.hid ho
    clear ho hh h2
    have hs : a + m < DB ^ (n + k + 1) := by
      have h1 := Nat.lt_of_lt_of_le ha.lt (Nat.pow_le_pow_right DBpos (show n ≤ n + k by omega))
      have h2 := Nat.lt_of_lt_of_le hm.lt (Nat.pow_le_pow_right DBpos (show k ≤ n + k by omega))
      rw [Nat.pow_succ, DB_eq] at *; omega
    have HS := Lib.hid hs; clear hs
    go_enter Tryz.func90, Tryz.ntmps90
    go_wp2_with (go_at_call 88; refine (qodd_any _ _ _ _ _ ha).mono ?_; rintro e w' ⟨rfl, rfl⟩; rw [HO.out])
    refine (qadd_any _ _ _ _ _ _ _ _ _ ha hm (by omega) (by omega)).mono ?_
    rintro e w1 ⟨ro, n1, c1, rfl, h1, hb1⟩
    have hn1 := h1.le HS.out
    go_wp2_with fail
    refine (qhalf_any _ _ _ _ _ h1 (by omega)).mono ?_
    rintro e w2 ⟨ro2, n2, c2, rfl, h2, hb2⟩
    go_wp2_with fail
    go_ret
    exact ⟨_, _, _, rfl, h2, hb1.trans (hb2.mono hb1.size)⟩
  · have ho : oddB a = false := decide_eq_false h2
    have hh : Bin.hv m a = a / 2 := if_neg h2
    rw [hh]
    have HO := Lib.hid ho
    clear ho hh h2
    go_enter Tryz.func90, Tryz.ntmps90
    go_wp2_with (go_at_call 88; refine (qodd_any _ _ _ _ _ ha).mono ?_; rintro e w' ⟨rfl, rfl⟩; rw [HO.out])
    refine (qhalf_any _ _ _ _ _ ha (by omega)).mono ?_
    rintro e w2 ⟨ro2, n2, c2, rfl, h2, hb2⟩
    go_wp2_with fail
    go_ret
    exact ⟨_, _, _, rfl, h2, hb2⟩
set_option maxRecDepth 100000 in
theorem qless_any (ao bo mo : Option Addr) (n c l f k d a b m : Nat) (w : World) (ha : QN w ao n c a) (hb : QN w bo l f b) (hm : QN w mo k d m) (hn : n ≤ 1000) (hl : l ≤ 1000) (hk : k ≤ 1000) (hbm : b < m) :
    Calls Tryz.prog 92 #[.slice ao n c, .slice bo l f, .slice mo k d] w (RetQN w (Bin.ls m a b)) := by
  have HBM := Lib.hid hbm
  clear hbm
  by_cases h2 : a < b
  · have hh : Bin.ls m a b = a + m - b := if_pos h2
    rw [hh]
    have HL := Lib.hid h2
    have hc := cmpN_lt h2
    have HC := Lib.hid hc
    clear hh h2 hc
    have hs : a + m < DB ^ (n + k + 1) := by
      have h1 := Nat.lt_of_lt_of_le ha.lt (Nat.pow_le_pow_right DBpos (show n ≤ n + k by omega))
      have h2 := Nat.lt_of_lt_of_le hm.lt (Nat.pow_le_pow_right DBpos (show k ≤ n + k by omega))
      rw [Nat.pow_succ, DB_eq] at *; omega
    have HS := Lib.hid hs; clear hs
    go_enter Tryz.func92, Tryz.ntmps92
    go_wp2_with (go_at_call 35; refine (qcmp_any _ _ _ _ _ _ _ _ _ ha hb).mono ?_; rintro e w' ⟨rfl, q, rfl⟩; rw [HC.out])
    refine (qadd_any _ _ _ _ _ _ _ _ _ (ha.drewN q) (hm.drewN q) (by omega) (by omega)).mono ?_
    rintro e w1 ⟨ro, n1, c1, rfl, h1, hb1⟩
    have hn1 := h1.le HS.out
    have hb' := (hb.drewN q).below hb1 (Nat.le_refl _)
    go_wp2_with fail
    refine (qsub_any _ _ _ _ _ _ _ _ _ h1 hb' (by have := HBM.out; omega) (by omega) (by omega)).mono ?_
    rintro e w2 ⟨ro2, n2, c2, rfl, h2, hb2⟩
    go_wp2_with fail
    go_ret
    exact ⟨_, _, _, rfl, h2, (below_drawn (Below.refl _ _) q).trans (hb1.trans (hb2.mono hb1.size))⟩
  · have hh : Bin.ls m a b = a - b := if_neg h2
    rw [hh]
    have hle : b ≤ a := by omega
    have HL := Lib.hid hle
    have hcge : 0 ≤ cmpN a b := by
      rcases Nat.lt_or_ge b a with h | h
      · rw [cmpN_gt h]; decide
      · rw [show a = b by omega, cmpN_eq]; decide
    obtain ⟨cc, hcc⟩ : ∃ cc, cc = cmpN a b := ⟨_, rfl⟩
    rw [← hcc] at hcge
    have HC := Lib.hid hcc.symm
    clear hh h2 hcc hle
    go_enter Tryz.func92, Tryz.ntmps92
    go_wp2_with (go_at_call 35; refine (qcmp_any _ _ _ _ _ _ _ _ _ ha hb).mono ?_; rintro e w' ⟨rfl, q, rfl⟩; rw [HC.out])
    refine (qsub_any _ _ _ _ _ _ _ _ _ (ha.drewN q) (hb.drewN q) HL.out (by omega) (by omega)).mono ?_
    rintro e w2 ⟨ro2, n2, c2, rfl, h2, hb2⟩
    go_wp2_with fail
    go_ret
    exact ⟨_, _, _, rfl, h2, (below_drawn (Below.refl _ _) q).trans hb2⟩
end Go.Proofs.YtaggpodckafbgaaGreatDoor
/- The reference's Inverse (layer 5): the walk. -/
namespace Go.Proofs.YtaggpodckafbgaaGreatDoor
open Go.RowKit
def valQ (w : World) : Value → Nat
  | .slice ao n _ => Dg.vf DB (fun j => match w.cell? ⟨blk ao, off ao + j, none⟩ with | some v => (intOf v).toNat | none => 0) n
  | _ => 0
theorem valQ_num {w : World} {ao : Option Addr} {n c v : Nat} (h : QN w ao n c v) : valQ w (.slice ao n c) = v := by
  unfold valQ
  simp only []
  rw [← Dg.vf_dg_of_lt h.lt]
  refine Dg.vf_congr fun j hj => ?_
  rw [h.rd.cell j hj]
  simp [intOf]
def QV (w : World) (x : Value) (u : Nat) : Prop := ∃ ao n c, x = .slice ao n c ∧ QN w ao n c u ∧ n ≤ 16
theorem QV.mk {w : World} {ao : Option Addr} {n c u : Nat} (h : QN w ao n c u) (hu : u < 115792089237316195423570985008687907853269984665640564039457584007913129639936) : QV w (.slice ao n c) u := ⟨_, _, _, rfl, h, h.size hu⟩
theorem QV.below {w w' : World} {x : Value} {u : Nat} (h : QV w x u) (hb : Below w.heap.size w w') : QV w' x u := by
  obtain ⟨ao, n, c, rfl, hq, hn⟩ := h
  exact ⟨_, _, _, rfl, hq.below hb (Nat.le_refl _), hn⟩
theorem QV.val {w : World} {x : Value} {u : Nat} (h : QV w x u) : valQ w x = u := by
  obtain ⟨ao, n, c, rfl, hq, hn⟩ := h
  exact valQ_num hq
theorem cmp_one (u : Nat) : (u = 1 → ((cmpN u 1) != 0) = false) ∧ (u ≠ 1 → ((cmpN u 1) != 0) = true) := by
  refine ⟨fun h => by rw [h, cmpN_eq]; rfl, fun h => ?_⟩
  rcases Nat.lt_or_gt_of_ne h with h | h
  · rw [cmpN_lt h]; rfl
  · rw [cmpN_gt h]; rfl
theorem one_lit (w : World) : QN (w.alloc (.cells #[.int .u32 1] 64)) (some ⟨w.heap.size, 0, none⟩) 1 1 1 := QN.lit (by rw [show dl 1 1 = [1] by decide +kernel]; rfl) (by decide +kernel) (by decide)
theorem nil_lit (w : World) : QN (w.alloc (.cells #[] 64)) (some ⟨w.heap.size, 0, none⟩) 0 0 0 := QN.lit rfl (by decide +kernel) (by decide)
theorem cmp1_any (x : Value) (u : Nat) (w : World) (h : QV w x u) : Calls Tryz.prog 35 #[x, .slice (some ⟨w.heap.size, 0, none⟩) 1 1] (w.alloc (.cells #[.int .u32 1] 64)) fun e w' => e = .returned (.int .i64 (cmpN u 1)) ∧ Below w.heap.size w w' := by
  have hb : Below w.heap.size w (w.alloc (.cells #[.int .u32 1] 64)) := (Below.refl _ _).alloc (Nat.le_refl _) _
  obtain ⟨ao, n, c, rfl, hq, hn⟩ := h
  refine (qcmp_any _ _ _ _ _ _ _ _ _ (hq.below hb (Nat.le_refl _)) (one_lit w)).mono ?_
  rintro e w' ⟨he, q, rfl⟩
  exact ⟨he, below_drawn hb q⟩
theorem odd_v (x : Value) (u : Nat) (w : World) (h : QV w x u) : Calls Tryz.prog 88 #[x] w fun e w' => e = .returned (.bool (oddB u)) ∧ w = w' := by
  obtain ⟨ao, n, c, rfl, hq, hn⟩ := h
  exact qodd_any _ _ _ _ _ hq
def RetQV (w : World) (v : Nat) (e : Ending) (w' : World) : Prop := ∃ x, e = .returned x ∧ QV w' x v ∧ Below w.heap.size w w'
theorem RetQN.v {w : World} {v : Nat} {e : Ending} {w' : World} (h : RetQN w v e w') (hv : v < 115792089237316195423570985008687907853269984665640564039457584007913129639936) : RetQV w v e w' := by
  obtain ⟨ro, k, c, rfl, hq, hb⟩ := h
  exact ⟨_, rfl, QV.mk hq hv, hb⟩
theorem half_v (x : Value) (u : Nat) (w : World) (h : QV w x u) (hu : u < 115792089237316195423570985008687907853269984665640564039457584007913129639936) : Calls Tryz.prog 89 #[x] w (RetQV w (u / 2)) := by
  obtain ⟨ao, n, c, rfl, hq, hn⟩ := h
  exact (qhalf_any _ _ _ _ _ hq (by omega)).mono fun _ _ h => h.v (by omega)
theorem halved_v (x y : Value) (u p : Nat) (w : World) (h : QV w x u) (h' : QV w y p) (hu : u < p) (hp : p < 115792089237316195423570985008687907853269984665640564039457584007913129639936) : Calls Tryz.prog 90 #[x, y] w (RetQV w (Bin.hv p u)) := by
  obtain ⟨ao, n, c, rfl, hq, hn⟩ := h
  obtain ⟨bo, m, d, rfl, hq', hm⟩ := h'
  exact (qhalved_any _ _ _ _ _ _ _ _ _ hq hq' (by omega) (by omega)).mono fun _ _ h => h.v (by unfold Bin.hv; split <;> omega)
theorem less_v (x y z : Value) (u v p : Nat) (w : World) (h : QV w x u) (h' : QV w y v) (h2 : QV w z p) (hu : u < p) (hv : v < p) (hp : p < 115792089237316195423570985008687907853269984665640564039457584007913129639936) : Calls Tryz.prog 92 #[x, y, z] w (RetQV w (Bin.ls p u v)) := by
  obtain ⟨ao, n, c, rfl, hq, hn⟩ := h
  obtain ⟨bo, m, d, rfl, hq', hm⟩ := h'
  obtain ⟨co, l, f, rfl, hq2, hl⟩ := h2
  exact (qless_any _ _ _ _ _ _ _ _ _ _ _ _ _ hq hq' hq2 (by omega) (by omega) (by omega) hv).mono fun _ _ h => h.v (by unfold Bin.ls; split <;> omega)
theorem sub_v (x y : Value) (u v : Nat) (w : World) (h : QV w x u) (h' : QV w y v) (hvu : v ≤ u) (hu : u < 115792089237316195423570985008687907853269984665640564039457584007913129639936) : Calls Tryz.prog 91 #[x, y] w (RetQV w (u - v)) := by
  obtain ⟨ao, n, c, rfl, hq, hn⟩ := h
  obtain ⟨bo, m, d, rfl, hq', hm⟩ := h'
  exact (qsub_any _ _ _ _ _ _ _ _ _ hq hq' hvu (by omega) (by omega)).mono fun _ _ h => h.v (by omega)
theorem cmp_v (x y : Value) (u v : Nat) (w : World) (h : QV w x u) (h' : QV w y v) : Calls Tryz.prog 35 #[x, y] w fun e w' => e = .returned (.int .i64 (cmpN u v)) ∧ Below w.heap.size w w' := by
  obtain ⟨ao, n, c, rfl, hq, hn⟩ := h
  obtain ⟨bo, m, d, rfl, hq', hm⟩ := h'
  refine (qcmp_any _ _ _ _ _ _ _ _ _ hq hq').mono ?_
  rintro e w' ⟨he, q, rfl⟩
  exact ⟨he, below_drawn (Below.refl _ _) q⟩
theorem cmp_ge {u v : Nat} (h : v ≤ u) : (0 ≤ cmpN u v) := by
  rcases Nat.lt_or_ge v u with h1 | h1
  · rw [cmpN_gt h1]; decide
  · rw [show u = v by omega, cmpN_eq]; decide
theorem cmp1_yes (x : Value) (u : Nat) (w : World) (h : QV w x u) (hu : u = 1) : Calls Tryz.prog 35 #[x, .slice (some ⟨w.heap.size, 0, none⟩) 1 1] (w.alloc (.cells #[.int .u32 1] 64)) fun e w' => e = .returned (.int .i64 0) ∧ Below w.heap.size w w' :=
  (cmp1_any x u w h).mono fun e w' ⟨he, hb⟩ => ⟨by rw [he, hu, cmpN_eq], hb⟩
theorem cmp1_no (x : Value) (u : Nat) (w : World) (h : QV w x u) (hu : u ≠ 1) : Calls Tryz.prog 35 #[x, .slice (some ⟨w.heap.size, 0, none⟩) 1 1] (w.alloc (.cells #[.int .u32 1] 64)) fun e w' => ∃ cu : Int, cu ≠ 0 ∧ e = .returned (.int .i64 cu) ∧ Below w.heap.size w w' :=
  (cmp1_any x u w h).mono fun _ _ ⟨he, hb⟩ => ⟨_, fun h0 => by have := (cmp_one u).2 hu; rw [h0] at this; exact absurd this (by decide), he, hb⟩
theorem odd_yes (x : Value) (u : Nat) (w : World) (h : QV w x u) (hu : u % 2 = 1) : Calls Tryz.prog 88 #[x] w fun e w' => e = .returned (.bool true) ∧ w = w' :=
  (odd_v x u w h).mono fun e w' ⟨he, hw⟩ => ⟨by rw [he, show oddB u = true from decide_eq_true hu], hw⟩
theorem odd_no (x : Value) (u : Nat) (w : World) (h : QV w x u) (hu : ¬ u % 2 = 1) : Calls Tryz.prog 88 #[x] w fun e w' => e = .returned (.bool false) ∧ w = w' :=
  (odd_v x u w h).mono fun e w' ⟨he, hw⟩ => ⟨by rw [he, show oddB u = false from decide_eq_false hu], hw⟩
theorem cmp_yes (x y : Value) (u v : Nat) (w : World) (h : QV w x u) (h' : QV w y v) (hvu : v ≤ u) : Calls Tryz.prog 35 #[x, y] w fun e w' => ∃ cu : Int, 0 ≤ cu ∧ e = .returned (.int .i64 cu) ∧ Below w.heap.size w w' :=
  (cmp_v x y u v w h h').mono fun _ _ ⟨he, hb⟩ => ⟨_, cmp_ge hvu, he, hb⟩
theorem cmp_no (x y : Value) (u v : Nat) (w : World) (h : QV w x u) (h' : QV w y v) (hvu : ¬ v ≤ u) : Calls Tryz.prog 35 #[x, y] w fun e w' => ∃ cu : Int, cu < 0 ∧ e = .returned (.int .i64 cu) ∧ Below w.heap.size w w' :=
  (cmp_v x y u v w h h').mono fun _ _ ⟨he, hb⟩ => ⟨_, by rw [cmpN_lt (by omega)]; decide, he, hb⟩
structure Inb (w : World) (p a : Nat) (U V X Y : Value) (u v x y : Nat) : Prop where
  qu : QV w U u
  qv : QV w V v
  qx : QV w X x
  qy : QV w Y y
  ix : Bin.IsX p a x u
  iy : Bin.IsX p a y v
  cop : Nat.gcd u v = 1
  lu : u ≤ p
  lv : v ≤ p
theorem Inb.below {w w' : World} {p a : Nat} {U V X Y : Value} {u v x y : Nat} (h : Inb w p a U V X Y u v x y) (hb : Below w.heap.size w w') : Inb w' p a U V X Y u v x y :=
  ⟨h.qu.below hb, h.qv.below hb, h.qx.below hb, h.qy.below hb, h.ix, h.iy, h.cop, h.lu, h.lv⟩
def RetInv (w : World) (p a : Nat) (e : Ending) (w' : World) : Prop := ∃ z x, e = .returned z ∧ QV w' z x ∧ x < p ∧ x * a % p = 1 ∧ Below w.heap.size w w'
theorem pp_odd (m : Int) : pp m % 2 = 1 := by unfold pp; split <;> decide
theorem pp_gt (m : Int) : 1 < pp m := by unfold pp; split <;> decide
set_option maxRecDepth 100000 in
set_option maxHeartbeats 6400000 in
theorem qinv_any (m : Int) (A0 : Value) (a : Nat) (w : World) (ha : QV w A0 a) (hc : Nat.gcd (a % pp m) (pp m) = 1) :
    Calls Tryz.prog 52 #[.int .i64 m, A0] w (RetInv w (pp m) a) := by
  have hpl := (pp_big m).1
  have hpo := pp_odd m
  have hp1 := pp_gt m
  have hM := fun w => qmod_any m w
  generalize hp : pp m = p at *
  obtain ⟨ao, n, c, rfl, hqa, hn⟩ := ha
  have HM := Lib.hid hM; have HC := Lib.hid hc; have HPO := Lib.hid hpo
  have hp0 : 0 < p := by omega
  have HPL := Lib.hid hpl
  clear hM hc hpo hp hpl
  go_enter Tryz.func52, Tryz.ntmps52
  go_wp2_with fail
  refine (HM.out _).mono ?_
  rintro e w1 ⟨po, pn, pc, rfl, hqp, hb1⟩
  have hqa := hqa.below hb1 (Nat.le_refl _)
  have hpn := hqp.size HPL.out
  go_wp2_with fail
  refine (qleft_any _ _ _ _ _ _ _ _ _ hqa hqp hp0 (by omega) (by omega)).mono ?_
  rintro e w2 ⟨uo, un, uc, rfl, hqu, hb2⟩
  have hqp := hqp.below hb2 (Nat.le_refl _)
  have hb2 := hb1.trans (hb2.mono hb1.size)
  clear hb1
  have hup : a % p < p := Nat.mod_lt _ hp0
  have hu16 := hqu.size (Nat.lt_trans hup HPL.out)
  go_wp2_with fail
  have hbA : Below w2.heap.size w2 (w2.alloc (.cells #[.int .u32 1] 64)) := (Below.refl _ _).alloc (Nat.le_refl _) _
  have hbB : Below w2.heap.size w2 ((w2.alloc (.cells #[.int .u32 1] 64)).alloc (.cells #[] 64)) := hbA.alloc (by simp) _
  have hI0 : Inb ((w2.alloc (.cells #[.int .u32 1] 64)).alloc (.cells #[] 64)) p a (.slice uo un uc) (.slice po pn pc) (.slice (some ⟨w2.heap.size, 0, none⟩) 1 1) (.slice (some ⟨(w2.alloc (.cells #[.int .u32 1] 64)).heap.size, 0, none⟩) 0 0) (a % p) p 1 0 :=
    ⟨(QV.mk hqu (Nat.lt_trans hup HPL.out)).below hbB, (QV.mk hqp HPL.out).below hbB, (QV.mk (one_lit w2) (by decide)).below ((Below.refl _ _).alloc (Nat.le_refl _) _), QV.mk (nil_lit _) (by decide), Bin.IsX.start hp1, Bin.IsX.p hp1, HC.out, Nat.le_of_lt hup, Nat.le_refl _⟩
  have hP0 : QV ((w2.alloc (.cells #[.int .u32 1] 64)).alloc (.cells #[] 64)) (.slice po pn pc) p := (QV.mk hqp HPL.out).below hbB
  have hbl0 := hb2.trans (hbB.mono hb2.size)
  simp only [World.size_alloc] at hI0
  generalize ((w2.alloc (.cells #[.int .u32 1] 64)).alloc (.cells #[] 64)) = w3 at *
  clear hbA hbB
  go_loopw [6, 7, 8, 9] (fun U V X Y wr => ∃ u v x y : Nat, Inb wr p a U V X Y u v x y ∧ QV wr (.slice po pn pc) p ∧ Below w.heap.size w wr) (fun U V _ _ wr => valQ wr U + valQ wr V)
  case atStart => exact ⟨_, _, _, _, hI0, hP0, hbl0⟩
  case round =>
    obtain ⟨u, v, x, y, hI, hP, hbel⟩ := hrel
    clear hI0 hP0 hbl0
    have hmeas : valQ wr u6 + valQ wr u7 = u + v := by rw [hI.qu.val, hI.qv.val]
    have HME := Lib.hid hmeas
    clear hmeas
    by_cases hu1 : u = 1
    · have HX1 := Lib.hid (show x * a % p = 1 from by have h := hI.ix; rw [hu1] at h; exact h.one hp1)
      have hxp := hI.ix.1
      have HU := Lib.hid hu1
      clear hu1
      go_wp2_with fail
      refine (cmp1_yes _ _ _ hI.qu HU.out).mono ?_
      rintro e w4 ⟨rfl, hb4⟩
      have hI := hI.below hb4
      have hbel := hbel.trans (hb4.mono hbel.size)
      go_wp2_with fail
      refine (cmp1_yes _ _ _ hI.qu HU.out).mono ?_
      rintro e w5 ⟨rfl, hb5⟩
      have hI := hI.below hb5
      have hbel := hbel.trans (hb5.mono hbel.size)
      go_wp2_with fail
      go_ret
      exact ⟨_, x, rfl, hI.qx, hxp, HX1.out, hbel⟩
    · have HU := Lib.hid hu1
      by_cases hv1 : v = 1
      · have HX1 := Lib.hid (show y * a % p = 1 from by have h := hI.iy; rw [hv1] at h; exact h.one hp1)
        have hyp := hI.iy.1
        have HV := Lib.hid hv1
        clear hu1 hv1
        go_wp2_with fail
        refine (cmp1_no _ _ _ hI.qu HU.out).mono ?_
        rintro e w4 ⟨cu, hcu, rfl, hb4⟩
        have hI := hI.below hb4
        have hbel := hbel.trans (hb4.mono hbel.size)
        have hcb : (cu != 0) = true := by simpa using hcu
        clear hcu
        go_wp2_with fail
        refine (cmp1_yes _ _ _ hI.qv HV.out).mono ?_
        rintro e w5 ⟨rfl, hb5⟩
        have hI := hI.below hb5
        have hbel := hbel.trans (hb5.mono hbel.size)
        go_wp2_with fail
        refine (cmp1_no _ _ _ hI.qu HU.out).mono ?_
        rintro e w6 ⟨cu2, hcu2, rfl, hb6⟩
        have hI := hI.below hb6
        have hbel := hbel.trans (hb6.mono hbel.size)
        have hcb2 : (cu2 == 0) = false := by simpa using hcu2
        clear hcu2
        go_wp2_with fail
        go_ret
        exact ⟨_, y, rfl, hI.qy, hyp, HX1.out, hbel⟩
      · have HV := Lib.hid hv1
        have hu0 : 0 < u := Bin.pos_of_cop hI.cop hv1
        have hv0 : 0 < v := Bin.pos_of_cop (by rw [Nat.gcd_comm]; exact hI.cop) hu1
        clear hu1 hv1
        go_wp2_with fail
        refine (cmp1_no _ _ _ hI.qu HU.out).mono ?_
        rintro e w4 ⟨cu, hcu, rfl, hb4⟩
        have hI := hI.below hb4
        have hP := hP.below hb4
        have hbel := hbel.trans (hb4.mono hbel.size)
        have hcb : (cu != 0) = true := by simpa using hcu
        clear hcu
        go_wp2_with fail
        refine (cmp1_no _ _ _ hI.qv HV.out).mono ?_
        rintro e w5 ⟨cu2, hcu2, rfl, hb5⟩
        have hI := hI.below hb5
        have hP := hP.below hb5
        have hbel := hbel.trans (hb5.mono hbel.size)
        have hcb2 : (cu2 != 0) = true := by simpa using hcu2
        clear hcu2
        go_wp2_with fail
        go_loopw [6, 8] (fun U X wr => ∃ u' x' : Nat, Inb wr p a U u7 X u9 u' v x' y ∧ QV wr (.slice po pn pc) p ∧ 0 < u' ∧ u' ≤ u ∧ Below w.heap.size w wr) (fun U _ wr => valQ wr U)
        case atStart => exact ⟨u, x, hI, hP, hu0, Nat.le_refl _, hbel⟩
        case round =>
          obtain ⟨u', x', hI, hP, hu0', hle, hbel⟩ := hrel
          have HMU := Lib.hid hI.qu.val
          by_cases ho : u' % 2 = 1
          · have HO := Lib.hid ho
            clear ho
            go_wp2_with (go_at_call 88; refine (odd_yes _ _ _ hI.qu HO.out).mono ?_; rintro e w' ⟨rfl, rfl⟩)
            obtain ⟨wo, rfl⟩ : ∃ wo : World, wo = wr := ⟨_, rfl⟩
            go_loopw [7, 9] (fun V Y wr => ∃ v' y' : Nat, Inb wr p a u6 V u8 Y u' v' x' y' ∧ QV wr (.slice po pn pc) p ∧ 0 < v' ∧ v' ≤ v ∧ Below w.heap.size w wr) (fun V _ wr => valQ wr V)
            case atStart => exact ⟨v, y, hI, hP, hv0, Nat.le_refl _, hbel⟩
            case round =>
              obtain ⟨v', y', hI, hP, hv0', hle2, hbel⟩ := hrel
              have HMV := Lib.hid hI.qv.val
              by_cases ho2 : v' % 2 = 1
              · have HO2 := Lib.hid ho2
                clear ho2
                go_wp2_with (go_at_call 88; refine (odd_yes _ _ _ hI.qv HO2.out).mono ?_; rintro e w' ⟨rfl, rfl⟩)
                by_cases hge : v' ≤ u'
                · refine (cmp_yes _ _ _ _ _ hI.qu hI.qv hge).mono ?_
                  rintro e w6 ⟨cc, hcc, rfl, hb6⟩
                  have hI := hI.below hb6
                  have hP := hP.below hb6
                  have hbel := hbel.trans (hb6.mono hbel.size)
                  go_wp2_with fail
                  refine (sub_v _ _ _ _ _ hI.qu hI.qv hge (Nat.lt_of_le_of_lt hI.lu HPL.out)).mono ?_
                  rintro e w7 ⟨U2, rfl, hU2, hb7⟩
                  have hI := hI.below hb7
                  have hP := hP.below hb7
                  have hbel := hbel.trans (hb7.mono hbel.size)
                  go_wp2_with fail
                  refine (less_v _ _ _ _ _ _ _ hI.qx hI.qy hP hI.ix.1 hI.iy.1 HPL.out).mono ?_
                  rintro e w8 ⟨X2, rfl, hX2, hb8⟩
                  have hI := hI.below hb8
                  have hP := hP.below hb8
                  have hU2 := hU2.below hb8
                  have hbel := hbel.trans (hb8.mono hbel.size)
                  go_wp2_with fail
                  have hI2 : Inb w8 p a U2 u7 X2 u9 (u' - v') v' (Bin.ls p x' y') y' := ⟨hU2, hI.qv, hX2, hI.qy, hI.ix.less hI.iy hge, hI.iy, Bin.cop_sub hI.cop hge, Nat.le_trans (Nat.sub_le _ _) hI.lu, hI.lv⟩
                  have HM2 := Lib.hid (show valQ w8 U2 + valQ w8 u7 = (u' - v') + v' by rw [hI2.qu.val, hI2.qv.val])
                  go_roundw
                  case rel => exact ⟨_, _, _, _, hI2, hP, hbel⟩
                  case measure => rw [HM2.out, HME.out]; omega
                · refine (cmp_no _ _ _ _ _ hI.qu hI.qv hge).mono ?_
                  rintro e w6 ⟨cc, hcc, rfl, hb6⟩
                  have hlt : u' ≤ v' := by omega
                  have hI := hI.below hb6
                  have hP := hP.below hb6
                  have hbel := hbel.trans (hb6.mono hbel.size)
                  go_wp2_with fail
                  refine (sub_v _ _ _ _ _ hI.qv hI.qu hlt (Nat.lt_of_le_of_lt hI.lv HPL.out)).mono ?_
                  rintro e w7 ⟨U2, rfl, hU2, hb7⟩
                  have hI := hI.below hb7
                  have hP := hP.below hb7
                  have hbel := hbel.trans (hb7.mono hbel.size)
                  go_wp2_with fail
                  refine (less_v _ _ _ _ _ _ _ hI.qy hI.qx hP hI.iy.1 hI.ix.1 HPL.out).mono ?_
                  rintro e w8 ⟨X2, rfl, hX2, hb8⟩
                  have hI := hI.below hb8
                  have hP := hP.below hb8
                  have hU2 := hU2.below hb8
                  have hbel := hbel.trans (hb8.mono hbel.size)
                  go_wp2_with fail
                  have hI2 : Inb w8 p a u6 U2 u8 X2 u' (v' - u') x' (Bin.ls p y' x') := ⟨hI.qu, hU2, hI.qx, hX2, hI.ix, hI.iy.less hI.ix hlt, by rw [Nat.gcd_comm]; exact Bin.cop_sub (by rw [Nat.gcd_comm]; exact hI.cop) hlt, hI.lu, Nat.le_trans (Nat.sub_le _ _) hI.lv⟩
                  have HM2 := Lib.hid (show valQ w8 u6 + valQ w8 U2 = u' + (v' - u') by rw [hI2.qu.val, hI2.qv.val])
                  go_roundw
                  case rel => exact ⟨_, _, _, _, hI2, hP, hbel⟩
                  case measure => rw [HM2.out, HME.out]; omega
              · have HO2 := Lib.hid ho2
                have hev : v' % 2 = 0 := by omega
                clear ho2
                have HEV := Lib.hid hev
                clear hev
                go_wp2_with (go_at_call 88; refine (odd_no _ _ _ hI.qv HO2.out).mono ?_; rintro e w' ⟨rfl, rfl⟩)
                refine (half_v _ _ _ hI.qv (Nat.lt_of_le_of_lt hI.lv HPL.out)).mono ?_
                rintro e w6 ⟨U2, rfl, hU2, hb6⟩
                have hI := hI.below hb6
                have hP := hP.below hb6
                have hbel := hbel.trans (hb6.mono hbel.size)
                go_wp2_with fail
                refine (halved_v _ _ _ _ _ hI.qy hP hI.iy.1 HPL.out).mono ?_
                rintro e w7 ⟨X2, rfl, hX2, hb7⟩
                have hI := hI.below hb7
                have hP := hP.below hb7
                have hU2 := hU2.below hb7
                have hbel := hbel.trans (hb7.mono hbel.size)
                go_wp2_with fail
                have hI2 : Inb w7 p a u6 U2 u8 X2 u' (v' / 2) x' (Bin.hv p y') := ⟨hI.qu, hU2, hI.qx, hX2, hI.ix, hI.iy.half HPO.out HEV.out, by rw [Nat.gcd_comm]; exact Bin.cop_half (by rw [Nat.gcd_comm]; exact hI.cop) HEV.out, hI.lu, Nat.le_trans (Nat.div_le_self _ _) hI.lv⟩
                have HM2 := Lib.hid hI2.qv.val
                have hd : v' / 2 < v' ∧ 0 < v' / 2 := by have := HEV.out; omega
                go_roundw
                case rel => exact ⟨_, _, hI2, hP, hd.2, by omega, hbel⟩
                case measure => rw [HM2.out, HMV.out]; exact hd.1
          · have HO := Lib.hid ho
            have hev : u' % 2 = 0 := by omega
            clear ho
            have HEV := Lib.hid hev
            clear hev
            go_wp2_with (go_at_call 88; refine (odd_no _ _ _ hI.qu HO.out).mono ?_; rintro e w' ⟨rfl, rfl⟩)
            refine (half_v _ _ _ hI.qu (Nat.lt_of_le_of_lt hI.lu HPL.out)).mono ?_
            rintro e w6 ⟨U2, rfl, hU2, hb6⟩
            have hI := hI.below hb6
            have hP := hP.below hb6
            have hbel := hbel.trans (hb6.mono hbel.size)
            go_wp2_with fail
            refine (halved_v _ _ _ _ _ hI.qx hP hI.ix.1 HPL.out).mono ?_
            rintro e w7 ⟨X2, rfl, hX2, hb7⟩
            have hI := hI.below hb7
            have hP := hP.below hb7
            have hU2 := hU2.below hb7
            have hbel := hbel.trans (hb7.mono hbel.size)
            go_wp2_with fail
            have hI2 : Inb w7 p a U2 u7 X2 u9 (u' / 2) v (Bin.hv p x') y := ⟨hU2, hI.qv, hX2, hI.qy, hI.ix.half HPO.out HEV.out, hI.iy, Bin.cop_half hI.cop HEV.out, Nat.le_trans (Nat.div_le_self _ _) hI.lu, hI.lv⟩
            have HM2 := Lib.hid hI2.qu.val
            have hd : u' / 2 < u' ∧ 0 < u' / 2 := by have := HEV.out; omega
            go_roundw
            case rel => exact ⟨_, _, hI2, hP, hd.2, by omega, hbel⟩
            case measure => rw [HM2.out, HMU.out]; exact hd.1
end Go.Proofs.YtaggpodckafbgaaGreatDoor
/- The reference's Read (layer 5): the walk. -/
namespace Go.Proofs.YtaggpodckafbgaaGreatDoor
open Go.RowKit
theorem of_step {T c i d x : Nat} (hT : T < 256 ^ i) (hc : c < 256) (hd : d = Dg.dg DB T (i / 2)) (hx : x = if i % 2 = 1 then c * 256 else c) :
    d + x < 65536 ∧ (i % 2 = 0 → d = 0) ∧ (i % 2 = 1 → d < 256) ∧ ∀ j, Dg.dg DB (T + c * 256 ^ i) j = if j = i / 2 then d + x else Dg.dg DB T j := by
  have hDB : DB = 256 ^ 2 := rfl
  have e1 : 256 ^ i = DB ^ (i / 2) * 256 ^ (i % 2) := by rw [hDB, ← Nat.pow_mul, ← Nat.pow_add, Nat.div_add_mod]
  have hp : 0 < DB ^ (i / 2) := Nat.pow_pos DBpos
  have hdl : T / DB ^ (i / 2) < 256 ^ (i % 2) := by rw [Nat.div_lt_iff_lt_mul hp, Nat.mul_comm, ← e1]; exact hT
  have hd2 : d ≤ T / DB ^ (i / 2) := by rw [hd]; unfold Dg.dg; exact Nat.mod_le _ _
  have hcx : c * 256 ^ i = x * DB ^ (i / 2) := by
    rw [e1, hx]
    rcases Nat.mod_two_eq_zero_or_one i with h | h
    · rw [h, if_neg (by omega), Nat.pow_zero, Nat.mul_one]
    · rw [h, if_pos rfl, Nat.pow_one]; simp only [Nat.mul_comm, Nat.mul_left_comm]
  have h0 : i % 2 = 0 → d = 0 := fun h => by rw [h, Nat.pow_zero] at hdl; omega
  have h1 : i % 2 = 1 → d < 256 := fun h => by rw [h, Nat.pow_one] at hdl; omega
  have hlt : d + x < 65536 := by
    rw [hx]
    rcases Nat.mod_two_eq_zero_or_one i with h | h
    · have := h0 h; rw [if_neg (by omega)]; omega
    · have := h1 h; rw [if_pos h]; omega
  refine ⟨hlt, h0, h1, fun j => ?_⟩
  rw [hcx, dg_add_at DBpos (by rw [← hd]; exact hlt), ← hd]
theorem QBuf.parts {w : World} {B : Nat} {v : Value} {l : List Nat} (h : QBuf w B v l) (hl : 0 < l.length) : ∃ g cap, v = .slice (some ⟨g, 0, none⟩) l.length cap ∧ B ≤ g ∧ l.length ≤ cap ∧ cap ≤ 9223372036854775807 ∧ (∀ j, w.frozen? ⟨g, j, none⟩ = false) ∧ (∀ j x, l[j]? = some x → w.cell? ⟨g, j, none⟩ = some (.int .u32 (x : Nat))) ∧
    ∀ j x, j < l.length → QBuf (w.setCell ⟨g, j, none⟩ (.int .u32 (x : Nat))) B v (l.set j x) := by
  obtain ⟨h1, ⟨h2, h3⟩ | ⟨g, cap, cur, hv, hg, hh, hnc, hcm, hcs, ht⟩⟩ := h
  · omega
  · have hmax : cap ≤ 9223372036854775807 := by simpa [maxLen] using hcm
    have hcell : ∀ j x, l[j]? = some x → cur[j]? = some (Value.int .u32 (x : Nat)) := fun j x hj => by
      have hjl := (List.getElem?_eq_some_iff.1 hj).1
      have e : (cur.toList.take (l.length * 1))[j]? = some (Value.int .u32 (x : Nat)) := by rw [ht]; simp [hj]
      rw [List.getElem?_take, if_pos (by omega)] at e
      simpa using e
    refine ⟨g, cap, hv, hg, hnc, hmax, fun j => by simp [World.frozen?, hh], fun j x hj => by simp [World.cell?, hh, hcell j x hj], fun j x hj => ?_⟩
    refine ⟨by simp, Or.inr ⟨g, cap, cur.setIfInBounds j (.int .u32 (x : Nat)), by rw [List.length_set]; exact hv, hg, heap_setCell_same w g j cur _ _ hh, by rw [List.length_set]; exact hnc, hcm, by simpa using hcs, ?_⟩⟩
    rw [Array.toList_setIfInBounds, List.length_set, List.take_set, ht, List.map_set]
theorem dl_set {v u k i x : Nat} (hi : i < k) (h : ∀ j, Dg.dg DB u j = if j = i then x else Dg.dg DB v j) : dl u k = (dl v k).set i x := by
  apply List.ext_getElem?
  intro j
  by_cases hj : j < k
  · by_cases e : j = i
    · subst e
      rw [List.getElem?_set_self (by rw [dl_length]; exact hj)]
      simp [dl, hj, h]
    · rw [List.getElem?_set_ne (fun h => e h.symm)]
      simp [dl, hj, h, e]
  · rw [List.getElem?_eq_none (by rw [dl_length]; omega), List.getElem?_eq_none (by rw [List.length_set, dl_length]; omega)]
set_option maxRecDepth 100000 in
set_option maxHeartbeats 1600000 in
theorem qread_any (s : ByteArray) (w : World) (hs : s.size ≤ 10000000) :
    Calls Tryz.prog 34 #[.string s] w (RetQN w (bv s.data.toList)) := by
  go_enter Tryz.func34, Tryz.ntmps34
  go_wp2_with fail
  have hbuf1 : QBuf (w.alloc (.cells #[] 64)) w.heap.size (.slice (some ⟨w.heap.size, 0, none⟩) 0 0) (dl (tailv s 0) ((0 + 1) / 2)) :=
    ⟨rfl, Or.inr ⟨w.heap.size, 0, #[], rfl, Nat.le_refl _, by simpa using heap_alloc_new w (.cells #[] 64), Nat.le_refl _, by decide, rfl, rfl⟩⟩
  have hb1 : Below w.heap.size w (w.alloc (.cells #[] 64)) := (Below.refl _ _).alloc (Nat.le_refl _) _
  go_loopw [3, 4] (fun bv iv wr => ∃ (x : Int) (k : Nat), x = (s.size : Int) - 1 - (k : Int) ∧ k ≤ s.size ∧ iv = .int .i64 x ∧ QBuf wr w.heap.size bv (dl (tailv s k) ((k + 1) / 2)) ∧ Below w.heap.size w wr) (fun _ iv _ => (intOf iv + 1).toNat)
  case atStart => exact ⟨_, 0, by omega, Nat.zero_le _, rfl, hbuf1, hb1⟩
  case round =>
    obtain ⟨x, k, hxk, hk, rfl, hbuf, hbel⟩ := hrel
    clear hbuf1 hb1
    have hsz := hbel.size
    by_cases h0 : x < 0
    · obtain rfl : k = s.size := by omega
      obtain ⟨so, cap, rfl, hrd⟩ := hbuf.rd
      have hlt : tailv s s.size < DB ^ ((s.size + 1) / 2) := by
        refine Nat.lt_of_lt_of_le (tailv_lt s _ (Nat.le_refl _)) ?_
        rw [show DB = 256 ^ 2 from rfl, ← Nat.pow_mul]
        exact Nat.pow_le_pow_right (by omega) (by omega)
      have HLT := Lib.hid hlt; clear hlt hxk
      go_wp2_with (go_at_call 74; refine (qtrim_num _ _ _ _ _ hrd HLT.out).mono ?_; rintro e w' ⟨k, rfl, hnum, rfl⟩)
      go_ret
      rw [tailv_all] at hnum
      exact ⟨_, _, _, rfl, hnum, hbel⟩
    · have hkl : k < s.size := by omega
      have hi : s.size - 1 - k < s.size := by omega
      obtain ⟨c, hc⟩ : ∃ c, c = (s[s.size - 1 - k]'hi).toNat := ⟨_, rfl⟩
      have hcl : c < 256 := by rw [hc]; exact UInt8.toNat_lt _
      have hix : ∀ W : World, (Instr.index 9 (.string s) (.int .i64 x)).run Tryz.prog W = .ok (.int .u8 (c : Nat)) W := fun W => by
        have e : x.toNat = s.size - 1 - k := by omega
        have e0 : 0 ≤ x := by omega
        simp [Instr.index, asIntOf, run_underlying Tryz.underlying9, e, e0, hc, getElem?_pos s (s.size - 1 - k) hi]
      obtain ⟨T, hT⟩ : ∃ T, T = tailv s k := ⟨_, rfl⟩
      rw [← hT] at hbuf
      have hTl : T < 256 ^ k := by rw [hT]; exact tailv_lt s k hk
      obtain ⟨d, hd⟩ : ∃ d, d = Dg.dg DB T (k / 2) := ⟨_, rfl⟩
      obtain ⟨y, hy⟩ : ∃ y, y = if k % 2 = 1 then c * 256 else c := ⟨_, rfl⟩
      have R := of_step hTl hcl hd hy
      have hT2 : tailv s (k + 1) = T + c * 256 ^ k := by rw [hT, hc]; exact tailv_succ s k hkl
      rw [← hT2] at R
      have hkx : ((s.size : Int) - 1 - x) = (k : Int) := by omega
      have HR := Lib.hid R; have HD := Lib.hid hd; have HC := Lib.hid hc; have HXK := Lib.hid hxk
      have hln : (dl T ((k + 1) / 2)).length + 1 ≤ 17592186044416 := by rw [dl_length]; omega
      have HLN := Lib.hid hln
      clear R hd hT hT2 hc hxk hln
      have hx0 : 0 ≤ x := by omega
      have hx1 : x < 10000000 := by have := HXK.out; omega
      clear h0
      rcases Nat.mod_two_eq_zero_or_one k with h2 | h2
      · have ht : (((k : Int) % 2) == 0) = true := by rw [beq_iff_eq]; omega
        have hdl : dl T (k / 2 + 1) = dl T ((k + 1) / 2) ++ [0] := by
          rw [show (k + 1) / 2 = k / 2 by omega, dl_succ, ← HD.out, HR.out.2.1 h2]
        have HDL := Lib.hid hdl
        clear hdl
        go_upto_region 7 with (fail)
        clear hkx ht
        go_upto_region 8 with (at_builtin; refine wpList_append_q _ rfl (.tmp 22) (.tmp 23) _ rfl Tryz.underlying29 w.heap.size _ (dl T ((k + 1) / 2)) rfl (hbuf.below ((Below.refl _ _).alloc (Nat.le_refl _) _)) ⟨wr.heap.size, 0, none⟩ 0 1 rfl (newq rfl) HLN.out (by simp; omega) w (hbel.alloc (by omega) _) ?_; intro v2 w2 hbuf2 hbel2)
        rw [← HDL.out] at hbuf2
        obtain ⟨g, cap, rfl, hgw, hcap, hcm, hfr, hcell, hset⟩ := hbuf2.parts (by rw [dl_length]; omega)
        rw [dl_length] at hcap hset ⊢
        have hco := hcell (k / 2) d (by simp [dl]; exact HD.out.symm)
        have hfro := hfr (k / 2)
        have hset2 := hset (k / 2) (d + y) (by omega)
        rw [← dl_set (show k / 2 < k / 2 + 1 by omega) HR.out.2.2.2] at hset2
        have hsv : bits BinOp.or IntKind.u32 (d : Int) ((c : Int) % 4294967296) = ((d + y : Nat) : Int) := by
          have e : ((c : Int) % 4294967296) = (c : Nat) := by omega
          rw [e, u32_or_nat d c (by have := HR.out.2.1 h2; omega) (by omega), HR.out.2.1 h2, hy, if_neg (by omega)]
          simp
        have HSV := Lib.hid hsv; have H2 := Lib.hid h2; have HSET := Lib.hid hset2
        clear hcell hfr hsv hset2 hset
        go_region
        go_wp2_with fail
        go_roundw
        case rel =>
          refine ⟨_, k + 1, ?_, by omega, rfl, ?_, (hbel2.setCell hgw _).drew⟩
          · have := HXK.out; omega
          · rw [HSV.out, show (k + 1 + 1) / 2 = k / 2 + 1 by have := H2.out; omega]
            exact HSET.out
        case measure => simp [intOf]; omega
      · have ht : (((k : Int) % 2) == 0) = false := by rw [beq_eq_false_iff_ne]; omega
        have ht1 : ((k : Int) % 2) = 1 := by omega
        have HT1 := Lib.hid ht1
        clear ht1
        rw [show (k + 1) / 2 = k / 2 + 1 by omega] at hbuf HLN
        go_upto_region 8 with (fail)
        clear hkx ht
        have ht1 := HT1.out
        obtain ⟨g, cap, rfl, hgw, hcap, hcm, hfr, hcell, hset⟩ := hbuf.parts (by rw [dl_length]; omega)
        rw [dl_length] at hcap hset ⊢
        have hco := hcell (k / 2) d (by simp [dl]; exact HD.out.symm)
        have hfro := hfr (k / 2)
        have hset2 := hset (k / 2) (d + y) (by omega)
        rw [← dl_set (show k / 2 < k / 2 + 1 by omega) HR.out.2.2.2] at hset2
        have hsv : bits BinOp.or IntKind.u32 (d : Int) ((c : Int) * 256) = ((d + y : Nat) : Int) := by
          have e : ((c : Int) * 256) = ((c * 256 : Nat) : Int) := by omega
          have hd2 := HR.out.2.2.1 h2
          rw [e, u32_or_nat d (c * 256) (by omega) (by omega), hy, if_pos h2]
          congr 1
          have h3 := Nat.two_pow_add_eq_or_of_lt (i := 8) (show d < 2 ^ 8 by omega) c
          rw [Nat.or_comm, show c * 256 = 2 ^ 8 * c by omega, ← h3]; omega
        have HSV := Lib.hid hsv; have H2 := Lib.hid h2; have HSET := Lib.hid hset2
        clear hcell hfr hsv hset2 hset
        go_region
        go_wp2_with fail
        go_roundw
        case rel =>
          refine ⟨_, k + 1, ?_, by omega, rfl, ?_, (hbel.setCell hgw _).drew⟩
          · have := HXK.out; omega
          · rw [HSV.out, show (k + 1 + 1) / 2 = k / 2 + 1 by have := H2.out; omega]
            exact HSET.out
        case measure => simp [intOf]; omega
end Go.Proofs.YtaggpodckafbgaaGreatDoor
