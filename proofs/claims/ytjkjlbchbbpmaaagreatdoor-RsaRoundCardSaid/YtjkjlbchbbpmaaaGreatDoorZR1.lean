/- R2Mul R2Above R2Root, in one text. -/
import Derived.Test.YtjkjlbchbbpmaaaGreatDoorZQ0
import Derived.Test.YtjkjlbchbbpmaaaGreatDoorZH3
/- The reference of hash (layer 2): times: the walk. -/
namespace Go.Proofs.YtjkjlbchbbpmaaaGreatDoor
open Go.RowKit

theorem r2info64 : (Tryz.prog.info? 51).map (fun i => (i.zero, i.size, i.bytes)) = some (some (.int .u64 0), 1, 8) := by kernel_rfl
theorem mask6464 {x : Nat} (h : x < 18446744073709551616) : bits BinOp.and IntKind.u64 (x : Int) 65535 = ((x % DB : Nat) : Int) := by
  have := u64_and_nat x 65535 h (by omega)
  rw [show (65535 : Nat) = 2 ^ 16 - 1 from rfl, Nat.and_two_pow_sub_one_eq_mod] at this
  exact this

set_option maxRecDepth 100000 in
set_option maxHeartbeats 1600000 in
theorem r2times_any (ao bo : Option Addr) (n c m d a b : Nat) (w : World) (ha : Rd w .u64 ao n c (Dg.dg DB a)) (hb : Rd w .u64 bo m d (Dg.dg DB b)) (ha0 : a < DB ^ n) (hb0 : b < DB ^ m) (hn : n ≤ 10000000) (hm : m ≤ 10000000) :
    Calls Tryz.prog 131 #[.slice ao n c, .slice bo m d] w fun e w' => ∃ g, w.heap.size ≤ g ∧ e = .returned (.slice (some ⟨g, 0, none⟩) (n + m) (n + m)) ∧ Own w' .u64 51 g (n + m) (Dg.dg DB (a * b)) ∧ Below w.heap.size w w' := by
  have HA0 := Lib.hid ha0; have HB0 := Lib.hid hb0
  clear ha0 hb0
  go_enter Tryz.func131, Tryz.ntmps131
  go_wp2_with (refine wpList_make_row _ rfl (.tmp 13) (.tmp 13) _ rfl 51 .u64 8 Tryz.underlying47 r2info64 .i64 .i64 _ _ (n + m) rfl rfl (by omega) (by omega) (by omega) (by omega) ?_; intro g w1 hg hown1 hb1)
  have hown2 : Own w1 .u64 51 g (n + m) (Dg.dg DB (a % DB ^ 0 * b)) := hown1.congr fun j _ => by simp [Nat.mod_one, Dg.dg_zero]
  clear hown1
  go_loopw [6] (fun i wr => ∃ k : Nat, k ≤ n ∧ i = .int .i64 k ∧ Own wr .u64 51 g (n + m) (Dg.dg DB (a % DB ^ k * b)) ∧ Below w.heap.size w wr) (fun i _ => n - (intOf i).toNat)
  case atStart => exact ⟨0, Nat.zero_le _, rfl, hown2, hb1⟩
  case round =>
    obtain ⟨i, hi, rfl, hown, hbel⟩ := hrel
    clear hown2
    by_cases hin : i < n
    · obtain ⟨x, hx⟩ : ∃ x, x = Dg.dg DB a i := ⟨_, rfl⟩
      have hxl : x < 65536 := by rw [hx]; exact Dg.dg_lt DBpos a i
      have HX := Lib.hid hx; clear hx
      have hsa := ha.sh
      obtain ⟨X, hX⟩ : ∃ X, X = a % DB ^ i * b := ⟨_, rfl⟩
      rw [← hX] at hown
      have HXX := Lib.hid hX; clear hX
      go_wp2_with fail
      obtain ⟨wo, rfl⟩ : ∃ wo : World, wo = wr := ⟨_, rfl⟩
      go_loopw [7, 8] (fun cv i2 wr => ∃ k cr : Nat, k ≤ m ∧ i2 = .int .i64 k ∧ cv = .int .u64 cr ∧ cr < DB ∧ Hid ((X + x * (b % DB ^ k) * DB ^ i) / DB ^ (i + k) = X / DB ^ (i + k) + cr) ∧ Own wr .u64 51 g (n + m) (fun j => if j < i + k then Dg.dg DB (X + x * (b % DB ^ k) * DB ^ i) j else Dg.dg DB X j) ∧ Below w.heap.size w wr) (fun _ i2 _ => m - (intOf i2).toNat)
      case atStart => exact ⟨0, 0, Nat.zero_le _, rfl, rfl, DBpos, by simp [Nat.mod_one, Hid], hown.congr fun j _ => by simp [Nat.mod_one], hbel⟩
      case round =>
        obtain ⟨k, cr, hk, rfl, rfl, hcr, hcq, hown, hbel⟩ := hrel
        have hcr' : cr < 65536 := hcr
        clear hcr
        by_cases hkm : k < m
        · have hca : wr.cell? ⟨blk ao, off ao + i, none⟩ = some (.int .u64 (x : Nat)) := by rw [HX.out]; exact (ha.below hbel (Nat.le_refl _)).cell i hin
          have hcb : wr.cell? ⟨blk bo, off bo + k, none⟩ = some (.int .u64 (Dg.dg DB b k : Nat)) := (hb.below hbel (Nat.le_refl _)).cell k hkm
          have hsb := hb.sh
          obtain ⟨y, hy⟩ : ∃ y, y = Dg.dg DB b k := ⟨_, rfl⟩
          rw [← hy] at hcb
          have hyl : y < 65536 := by rw [hy]; exact Dg.dg_lt DBpos b k
          have HY := Lib.hid hy; clear hy
          have hco : wr.cell? ⟨g, i + k, none⟩ = some (.int .u64 (Dg.dg DB X (i + k) : Nat)) := by simpa using hown.cell (i + k) (by omega)
          obtain ⟨z, hz⟩ : ∃ z, z = Dg.dg DB X (i + k) := ⟨_, rfl⟩
          rw [← hz] at hco
          have hzl : z < 65536 := by rw [hz]; exact Dg.dg_lt DBpos X _
          have HZ := Lib.hid hz; clear hz
          have hfr := hown.frozen (i + k)
          have hxy1 : x * y ≤ 65535 * 65535 := Nat.mul_le_mul (by omega) (by omega)
          have hxy : (x : Int) * (y : Int) ≤ 4294836225 := by
            have h2 : ((x * y : Nat) : Int) = (x : Int) * (y : Int) := Int.natCast_mul _ _
            omega
          have hxy0 : 0 ≤ (x : Int) * (y : Int) := by
            have h2 : ((x * y : Nat) : Int) = (x : Int) * (y : Int) := Int.natCast_mul _ _
            omega
          go_wp2_with fail
          go_quiet (fail)
          go_wp2_with fail
          obtain ⟨nw, hnw⟩ : ∃ nw, nw = cr + (z + x * y) := ⟨_, rfl⟩
          have hnwi : ((cr : Int) + ((z : Int) + (x : Int) * (y : Int))) = (nw : Nat) := by rw [hnw]; simp
          have hS' : X + x * (b % DB ^ (k + 1)) * DB ^ i = X + x * (b % DB ^ k) * DB ^ i + x * y * DB ^ (i + k) := by
            rw [Dg.mod_succ, ← HY.out, Nat.mul_add, Nat.add_mul, Nat.pow_add]
            have : x * (DB ^ k * y) * DB ^ i = x * y * (DB ^ i * DB ^ k) := by simp only [Nat.mul_comm, Nat.mul_left_comm, Nat.mul_assoc]
            omega
          have R := mul_stepB (i := i + k) DBpos hS' hcq.out (hnw.trans (by rw [HZ.out]))
          have hnw64 : nw < 18446744073709551616 := by omega
          have hnl : nw / DB < DB := by
            rw [DB_eq]; omega
          go_roundw
          case rel => exact ⟨k + 1, nw / DB, by omega, by go_num, by rw [hnwi]; rfl, hnl, R.2.1, own_set_int (hown.drewN _) (s := nw % DB) (by rw [hnwi]; exact mask6464 hnw64) (by rw [if_pos (by omega)]; exact R.1) (fun j hj hne => by
            by_cases h1 : j < i + k
            · rw [if_pos h1, if_pos (by omega)]; exact (R.2.2 j h1).symm
            · rw [if_neg h1, if_neg (by omega)]), (below_drawn hbel _).setCell hg _⟩
          case measure => simp [intOf]; omega
        · obtain rfl : k = m := by omega
          have hS : X + x * (b % DB ^ k) * DB ^ i = a % DB ^ (i + 1) * b := by
            rw [Nat.mod_eq_of_lt HB0.out, Dg.mod_succ, ← HX.out, Nat.add_mul, ← HXX.out]
            have : x * b * DB ^ i = DB ^ i * x * b := by simp only [Nat.mul_comm, Nat.mul_assoc]
            omega
          have hXlt : X < DB ^ (i + k) := by
            rw [HXX.out, Nat.pow_add]
            exact Nat.mul_lt_mul'' (Nat.mod_lt _ (Nat.pow_pos DBpos)) HB0.out
          have hSlt : a % DB ^ (i + 1) * b < DB ^ (i + 1 + k) := by
            rw [Nat.pow_add DB (i + 1) k]
            exact Nat.mul_lt_mul'' (Nat.mod_lt _ (Nat.pow_pos DBpos)) HB0.out
          have hcrd : cr = Dg.dg DB (a % DB ^ (i + 1) * b) (i + k) := by
            have h1 := hcq.out
            rw [hS, Nat.div_eq_of_lt hXlt, Nat.zero_add] at h1
            unfold Dg.dg
            rw [h1, Nat.mod_eq_of_lt (by rw [DB_eq]; exact hcr')]
          have hco : wr.cell? ⟨g, i + k, none⟩ = some (.int .u64 (0 : Nat)) := by
            have h := hown.cell (i + k) (by omega)
            rw [if_neg (by omega), Dg.dg_of_lt_le DBpos hXlt (Nat.le_refl _)] at h
            exact h
          have hfr := hown.frozen (i + k)
          have HS := Lib.hid hS; have HXL := Lib.hid hXlt; have HSL := Lib.hid hSlt; have HCR := Lib.hid hcrd
          clear hS hXlt hSlt hcrd
          go_wp2_with fail
          go_roundw
          case rel => exact ⟨i + 1, by omega, by go_num, own_set_int hown (s := cr) (by simp) HCR.out (fun j hj hne => by
            rw [HS.out]
            by_cases h1 : j < i + k
            · rw [if_pos h1]
            · rw [if_neg h1, Dg.dg_of_lt_le DBpos HXL.out (by omega), Dg.dg_of_lt_le DBpos HSL.out (by omega)]), hbel.setCell hg _⟩
          case measure => simp [intOf]; omega
    · obtain rfl : i = n := by omega
      have hlt : a * b < DB ^ (i + m) := by rw [Nat.pow_add]; exact Nat.mul_lt_mul'' HA0.out HB0.out
      have hown2 : Own wr .u64 51 g (i + m) (Dg.dg DB (a * b)) := by rw [Nat.mod_eq_of_lt HA0.out] at hown; exact hown
      go_wp2_with fail
      go_ret
      exact ⟨g, hg, rfl, hown2, hbel⟩
end Go.Proofs.YtjkjlbchbbpmaaaGreatDoor
/- The reference of hash (layer 2): above: the walk. -/
namespace Go.Proofs.YtjkjlbchbbpmaaaGreatDoor
open Go.RowKit

theorem dg_at {p o : Nat} (hp : p < DB) (j : Nat) : Dg.dg DB (p * DB ^ o) j = if j = o then p else 0 := by
  have h := dg_add_at (B := DB) (V := 0) (k := o) (x := p) DBpos (by rw [Dg.dg_zero]; omega) j
  rw [Nat.zero_add, Dg.dg_zero, Dg.dg_zero, Nat.zero_add] at h
  exact h

set_option maxRecDepth 100000 in
set_option maxHeartbeats 1600000 in
theorem r2above_any (ao : Option Addr) (n c a p o : Nat) (w : World) (ha : Rd w .u64 ao n c (Dg.dg DB a)) (ha0 : a < DB ^ n) (hp : p < 65536) (ho : o < n) (hn : n ≤ 10000000) :
    Calls Tryz.prog 132 #[.slice ao n c, .int .u64 (p : Int), .int .i64 (o : Int)] w fun e w' => e = .returned (.bool (decide (p * DB ^ o < a))) ∧ w = w' := by
  obtain ⟨T, hT⟩ : ∃ T, T = p * DB ^ o := ⟨_, rfl⟩
  have hT0 : T < DB ^ n := by
    rw [hT]
    exact Nat.lt_of_lt_of_le (Nat.mul_lt_mul_of_pos_right (show p < DB from hp) (Nat.pow_pos DBpos)) (by rw [← Nat.pow_succ']; exact Nat.pow_le_pow_right DBpos ho)
  have hdg : ∀ j, Dg.dg DB T j = if j = o then p else 0 := fun j => by rw [hT]; exact dg_at hp j
  rw [← hT]
  have HA0 := Lib.hid ha0; have HT0 := Lib.hid hT0; have HD := Lib.hid hdg
  clear ha0 hT0 hdg hT
  go_enter Tryz.func132, Tryz.ntmps132
  go_wp2_with fail
  go_loop [7] (fun iv => ∃ t : Nat, t ≤ n ∧ iv = .int .i64 ((t : Int) - 1) ∧ Hid (∀ j, t ≤ j → j < n → Dg.dg DB a j = Dg.dg DB T j)) (fun iv => (intOf iv + 1).toNat)
  case atStart => exact ⟨n, Nat.le_refl _, rfl, fun j h1 h2 => absurd h2 (by omega)⟩
  case round =>
    obtain ⟨t, ht, rfl, heq⟩ := hrel
    by_cases ht0 : t = 0
    · subst ht0
      have e : a = T := Dg.ext n HA0.out HT0.out fun j hj => heq.out j (Nat.zero_le _) hj
      have E := Lib.hid e
      clear e
      go_wp2_with fail
      go_ret
      exact ⟨by rw [E.out, decide_eq_false (Nat.lt_irrefl _)]; rfl, rfl⟩
    · obtain ⟨i, rfl⟩ : ∃ i, t = i + 1 := ⟨t - 1, by omega⟩
      have es : ((i + 1 : Nat) : Int) - 1 = (i : Int) := by omega
      rw [es]
      have hsa := ha.sh
      have hca : w.cell? ⟨blk ao, off ao + i, none⟩ = some (.int .u64 (Dg.dg DB a i : Nat)) := ha.cell i (by omega)
      obtain ⟨x, hx⟩ : ∃ x, x = Dg.dg DB a i := ⟨_, rfl⟩
      rw [← hx] at hca
      have hxl : x < 65536 := by rw [hx]; exact Dg.dg_lt DBpos a i
      have hdi := HD.out i
      have HX := Lib.hid hx
      clear hx es
      by_cases hio : i = o
      · rw [if_pos hio] at hdi
        have h1 : ((i : Int) == (o : Int)) = true := by rw [hio]; exact beq_self_eq_true _
        have HDI := Lib.hid hdi
        clear hdi hio
        have hsame : x = p → ∀ j, i ≤ j → j < n → Dg.dg DB a j = Dg.dg DB T j := fun h j h1 h2 => by
          by_cases e : j = i
          · rw [e, ← HX.out, h, HDI.out]
          · exact heq.out j (by omega) h2
        have hgt : ¬ x = p → decide (p < x) = decide (T < a) := fun h => by
          by_cases h2 : p < x
          · rw [decide_eq_true (by omega), decide_eq_true (Dg.lt_of_dg DBpos HT0.out HA0.out (show i < n by omega) (fun j h3 h4 => (heq.out j (by omega) h4).symm) (by rw [HDI.out, ← HX.out]; exact h2))]
          · have h3 := Dg.lt_of_dg DBpos HA0.out HT0.out (show i < n by omega) (fun j h3 h4 => heq.out j (by omega) h4) (by rw [HDI.out, ← HX.out]; omega)
            rw [decide_eq_false (by omega), decide_eq_false (by omega)]
        have HSAME := Lib.hid hsame; have HGT := Lib.hid hgt
        clear hsame hgt
        by_cases hxy : x = p
        · have g1 : ((x : Int) == (p : Int)) = true := by rw [hxy]; exact beq_self_eq_true _
          have g2 : ((x : Int) != (p : Int)) = false := by rw [bne, g1]; rfl
          have HXY := Lib.hid hxy
          clear hxy
          go_wp2_with fail
          go_round
          case rel => exact ⟨i, by omega, rfl, HSAME.out HXY.out⟩
          case measure => simp [intOf]
        · have g1 : ((x : Int) == (p : Int)) = false := by rw [beq_eq_false_iff_ne]; omega
          have g2 : ((x : Int) != (p : Int)) = true := by rw [bne, g1]; rfl
          have HXY := Lib.hid hxy
          clear hxy
          go_wp2_with fail
          go_ret
          exact ⟨by rw [← HGT.out HXY.out]; rfl, rfl⟩
      · rw [if_neg hio] at hdi
        have h1 : ((i : Int) == (o : Int)) = false := by rw [beq_eq_false_iff_ne]; omega
        have HDI := Lib.hid hdi
        clear hdi hio
        have hsame : x = 0 → ∀ j, i ≤ j → j < n → Dg.dg DB a j = Dg.dg DB T j := fun h j h1 h2 => by
          by_cases e : j = i
          · rw [e, ← HX.out, h, HDI.out]
          · exact heq.out j (by omega) h2
        have hgt : ¬ x = 0 → decide (0 < x) = decide (T < a) := fun h => by
          by_cases h2 : 0 < x
          · rw [decide_eq_true (by omega), decide_eq_true (Dg.lt_of_dg DBpos HT0.out HA0.out (show i < n by omega) (fun j h3 h4 => (heq.out j (by omega) h4).symm) (by rw [HDI.out, ← HX.out]; exact h2))]
          · have h3 := Dg.lt_of_dg DBpos HA0.out HT0.out (show i < n by omega) (fun j h3 h4 => heq.out j (by omega) h4) (by rw [HDI.out, ← HX.out]; omega)
            rw [decide_eq_false (by omega), decide_eq_false (by omega)]
        have HSAME := Lib.hid hsame; have HGT := Lib.hid hgt
        clear hsame hgt
        by_cases hxy : x = 0
        · have g1 : ((x : Int) == (0 : Int)) = true := by rw [hxy]; exact beq_self_eq_true _
          have g2 : ((x : Int) != (0 : Int)) = false := by rw [bne, g1]; rfl
          have HXY := Lib.hid hxy
          clear hxy
          go_wp2_with fail
          go_round
          case rel => exact ⟨i, by omega, rfl, HSAME.out HXY.out⟩
          case measure => simp [intOf]
        · have g1 : ((x : Int) == (0 : Int)) = false := by rw [beq_eq_false_iff_ne]; omega
          have g2 : ((x : Int) != (0 : Int)) = true := by rw [bne, g1]; rfl
          have HXY := Lib.hid hxy
          clear hxy
          go_wp2_with fail
          go_ret
          exact ⟨by rw [← HGT.out HXY.out]; rfl, rfl⟩
end Go.Proofs.YtjkjlbchbbpmaaaGreatDoor
/- The reference of hash (layer 2): Root: the walk. -/
namespace Go.Proofs.YtjkjlbchbbpmaaaGreatDoor
open Go.RowKit

theorem run_quo16 {P : Program} {t : TypeId} {n : Nat} (hn : n ≤ 4611686018427387904) (w : World) : (binOp .quo t (.int .i64 (n : Int)) (.int .i64 16)).run P w = .ok (.int .i64 ((n / 16 : Nat) : Int)) w := by
  have e : IntKind.i64.wrap ((n : Int) / 16) = (n : Int) / 16 := IntWalk.i64_in _ (by omega)
  simp [binOp, Op.intDiv, e]
theorem run_rem16 {P : Program} {t : TypeId} {n : Nat} (w : World) : (binOp .rem t (.int .i64 (n : Int)) (.int .i64 16)).run P w = .ok (.int .i64 ((n % 16 : Nat) : Int)) w := by
  have e : Int.tmod (n : Int) 16 = (n : Int) % 16 := Int.tmod_eq_emod_of_nonneg (by omega)
  simp [binOp, Op.intDiv, e]
theorem run_shl1 {P : Program} {t : TypeId} {r : Nat} (hr : r < 16) (w : World) : (binOp .shl t (.int .u64 1) (.int .i64 (r : Int))).run P w = .ok (.int .u64 ((2 ^ r : Nat) : Int)) w := by
  rcases (by omega : r = 0 ∨ r = 1 ∨ r = 2 ∨ r = 3 ∨ r = 4 ∨ r = 5 ∨ r = 6 ∨ r = 7 ∨ r = 8 ∨ r = 9 ∨ r = 10 ∨ r = 11 ∨ r = 12 ∨ r = 13 ∨ r = 14 ∨ r = 15) with rfl | rfl | rfl | rfl | rfl | rfl | rfl | rfl | rfl | rfl | rfl | rfl | rfl | rfl | rfl | rfl <;> rfl
theorem run_add64s {P : Program} {t : TypeId} {x y : Nat} (h : x + y < 18446744073709551616) (w : World) : (binOp .add t (.int .u64 (x : Int)) (.int .u64 (y : Int))).run P w = .ok (.int .u64 ((x + y : Nat) : Int)) w := by
  have e : ((x + y : Nat) : Int) = IntKind.u64.wrap ((x : Int) + (y : Int)) := by rw [Int.natCast_add, IntWalk.u64_in _ (by omega)]
  rw [e]; rfl
theorem run_sub64s {P : Program} {t : TypeId} {x y z : Nat} (h : z + y = x) (hx : x < 18446744073709551616) (w : World) : (binOp .sub t (.int .u64 (x : Int)) (.int .u64 (y : Int))).run P w = .ok (.int .u64 (z : Int)) w := by
  have e : (z : Int) = IntKind.u64.wrap ((x : Int) - (y : Int)) := by rw [show (x : Int) - (y : Int) = (z : Int) by omega, IntWalk.u64_in _ (by omega)]
  rw [e]; rfl

/-- A bit more, where it and those below are 0. -/
theorem bit_pow (k : Nat) : 2 ^ k = 2 ^ (k % 16) * DB ^ (k / 16) := by
  rw [show DB = 2 ^ 16 from rfl, ← Nat.pow_mul, ← Nat.pow_add]
  congr 1; omega
theorem bit_room {X k : Nat} (h : X % 2 ^ (k + 1) = 0) : Dg.dg DB X (k / 16) + 2 ^ (k % 16) < DB := by
  obtain ⟨c, hc⟩ := Nat.dvd_of_mod_eq_zero h
  have e : X = (2 ^ (k % 16 + 1) * c) * DB ^ (k / 16) := by
    rw [hc, Nat.pow_succ, bit_pow k, Nat.pow_succ]
    simp only [Nat.mul_comm, Nat.mul_left_comm]
  have e2 : Dg.dg DB X (k / 16) = 2 ^ (k % 16 + 1) * c % DB := by
    unfold Dg.dg
    rw [e, Nat.mul_div_cancel _ (Nat.pow_pos DBpos)]
  have hr : k % 16 < 16 := Nat.mod_lt _ (by omega)
  generalize k % 16 = r at *
  rw [e2, show DB = 2 ^ (r + 1) * 2 ^ (15 - r) by rw [← Nat.pow_add, show r + 1 + (15 - r) = 16 by omega]; rfl, Nat.mul_mod_mul_left]
  have h1 : c % 2 ^ (15 - r) < 2 ^ (15 - r) := Nat.mod_lt _ (Nat.pow_pos (by omega))
  have h2 : 2 ^ (r + 1) * (c % 2 ^ (15 - r)) + 2 ^ (r + 1) ≤ 2 ^ (r + 1) * 2 ^ (15 - r) := by
    rw [← Nat.mul_succ]; exact Nat.mul_le_mul_left _ h1
  have h3 : 2 ^ r < 2 ^ (r + 1) := Nat.pow_lt_pow_right (by omega) (by omega)
  omega
theorem bit_add {X k : Nat} (h : X % 2 ^ (k + 1) = 0) (j : Nat) : Dg.dg DB (X + 2 ^ k) j = if j = k / 16 then Dg.dg DB X (k / 16) + 2 ^ (k % 16) else Dg.dg DB X j := by
  rw [bit_pow k]
  exact dg_add_at DBpos (bit_room h) j
theorem bit_mod {X k : Nat} (h : X % 2 ^ (k + 1) = 0) : X % 2 ^ k = 0 ∧ (X + 2 ^ k) % 2 ^ k = 0 := by
  have h1 : X % 2 ^ k = 0 := by
    obtain ⟨c, hc⟩ := Nat.dvd_of_mod_eq_zero h
    rw [hc, Nat.pow_succ, Nat.mul_assoc, Nat.mul_mod_right]
  exact ⟨h1, by rw [Nat.add_mod_right, h1]⟩
theorem bit_lt {X k b : Nat} (h : X % 2 ^ (k + 1) = 0) (hk : k < b) (hX : X < 2 ^ b) : X + 2 ^ k < 2 ^ b := by
  obtain ⟨c, hc⟩ := Nat.dvd_of_mod_eq_zero h
  have e : 2 ^ b = 2 ^ (k + 1) * 2 ^ (b - (k + 1)) := by rw [← Nat.pow_add]; congr 1; omega
  rw [hc, e] at hX
  have h1 : c < 2 ^ (b - (k + 1)) := Nat.lt_of_mul_lt_mul_left hX
  have h2 : 2 ^ (k + 1) * c + 2 ^ (k + 1) ≤ 2 ^ (k + 1) * 2 ^ (b - (k + 1)) := by
    rw [← Nat.mul_succ]; exact Nat.mul_le_mul_left _ h1
  have h3 : 2 ^ k < 2 ^ (k + 1) := Nat.pow_lt_pow_right (by omega) (by omega)
  rw [hc, e]; omega
/- walk -/
set_option maxRecDepth 100000 in
set_option maxHeartbeats 3200000 in
theorem r2root_any (p n : Nat) (w : World) (hp : p < 512) (hn0 : 0 < n) (hn : n ≤ 3) :
    Calls Tryz.prog 105 #[.int .u64 (p : Int), .int .i64 (n : Int), .int .i64 32] w fun e w' => e = .returned (.int .u64 ((rootF p n 32 : Nat) : Int)) ∧ Below w.heap.size w w' := by
  obtain ⟨T, hT⟩ : ∃ T, T = p * 2 ^ (n * 32) := ⟨_, rfl⟩
  obtain ⟨o, ho⟩ : ∃ o, o = 2 * n := ⟨_, rfl⟩
  have hTo : T = p * DB ^ o := by
    rw [hT, ho, show DB = 2 ^ 16 from rfl, ← Nat.pow_mul]
    congr 2; omega
  have hroot : rootF p n 32 = rootB n T 41 0 % 2 ^ 32 := by rw [hT]; rfl
  have HT := Lib.hid hT; have HO := Lib.hid ho; have HTO := Lib.hid hTo; have HROOT := Lib.hid hroot
  clear hT ho hTo hroot
  go_enter Tryz.func105, Tryz.ntmps105
  go_wp2_with (refine wpList_make_row _ rfl _ _ _ rfl 51 .u64 8 Tryz.underlying47 r2info64 .i64 .i64 _ _ 5 rfl rfl rfl rfl (by omega) (by omega) ?_; intro gx w1 hgB hown1 hb1)
  have hown2 : Own w1 .u64 51 gx 5 (Dg.dg DB 0) := hown1.congr fun j _ => by rw [Dg.dg_zero]
  clear hown1
  go_loopw [8] (fun iv wr => ∃ t X : Nat, t ≤ 41 ∧ iv = .int .i64 ((t : Int) - 1) ∧ Own wr .u64 51 gx 5 (Dg.dg DB X) ∧ Below w.heap.size w wr ∧ Hid (X % 2 ^ t = 0) ∧ Hid (X < 2 ^ 41) ∧ Hid (rootB n T t X = rootB n T 41 0)) (fun iv _ => (intOf iv + 1).toNat)
  case atStart => exact ⟨41, 0, Nat.le_refl _, rfl, hown2, hb1, Nat.zero_mod _, Nat.pow_pos (by omega), rfl⟩
  case round =>
    clear hown2 hb1
    obtain ⟨t, X, ht, rfl, hown, hbel, hmod, hXl, hrt⟩ := hrel
    by_cases ht0 : t = 0
    · subst ht0
      have hx2 : X % 2 ^ 32 = rootF p n 32 := by rw [HROOT.out, ← hrt.out]; rfl
      have hdg1 : Hid (X % 2 ^ 32 = Dg.dg DB X 1 * 65536 + Dg.dg DB X 0) := by
        show _ = X / 65536 ^ 1 % 65536 * 65536 + X / 65536 ^ 0 % 65536
        omega
      have HX2 := Lib.hid hx2
      clear hx2 hmod hrt hXl
      go_wp2_with fail
      go_loopw [11, 12] (fun yv iv wr => ∃ s y : Nat, s ≤ 2 ∧ iv = .int .i64 ((s : Int) - 1) ∧ yv = .int .u64 y ∧ Hid (y = if s = 2 then 0 else if s = 1 then Dg.dg DB X 1 else X % 2 ^ 32) ∧ Own wr .u64 51 gx 5 (Dg.dg DB X) ∧ Below w.heap.size w wr) (fun _ iv _ => (intOf iv + 1).toNat)
      case atStart => exact ⟨2, 0, Nat.le_refl _, rfl, rfl, rfl, hown, hbel⟩
      case round =>
        clear hown hbel
        obtain ⟨s, y, hs, rfl, rfl, hy, hown, hbel⟩ := hrel
        by_cases hs0 : s = 0
        · subst hs0
          go_wp2_with fail
          go_ret
          exact ⟨by rw [← HX2.out]; have h := hy.out; rw [if_neg (by omega), if_neg (by omega)] at h; rw [← h]; rfl, hbel⟩
        · obtain ⟨i, rfl⟩ : ∃ i, s = i + 1 := ⟨s - 1, by omega⟩
          have es : ((i + 1 : Nat) : Int) - 1 = (i : Int) := by omega
          rw [es]
          obtain ⟨x, hx⟩ : ∃ x, x = Dg.dg DB X i := ⟨_, rfl⟩
          have hcx : wr.cell? ⟨gx, i, none⟩ = some (.int .u64 (x : Int)) := by rw [hx]; exact hown.cell i (by omega)
          have hxl : x < 65536 := by rw [hx]; exact Dg.dg_lt DBpos X i
          have hyl : y < 65536 := by
            rw [hy.out]
            rcases (by omega : i = 0 ∨ i = 1) with rfl | rfl
            · rw [if_neg (by omega), if_pos rfl]; exact Dg.dg_lt DBpos X 1
            · rw [if_pos rfl]; omega
          have hny : Hid (y * 65536 + x = if i = 2 then 0 else if i = 1 then Dg.dg DB X 1 else X % 2 ^ 32) := by
            show _ = _
            rcases (by omega : i = 0 ∨ i = 1) with rfl | rfl
            · rw [hy.out, if_neg (by omega), if_pos rfl, if_neg (by omega), if_neg (by omega), hdg1.out, hx]
            · rw [hy.out, if_pos rfl, if_neg (by omega), if_pos rfl, hx]; omega
          clear es hx
          go_wp2_with fail
          have hv : bits .or .u64 ((y : Int) * 65536) (x : Int) = ((y * 65536 + x : Nat) : Int) := by
            have h := u64_or_nat (y * 65536) x (by omega) (by omega)
            have e : y * 65536 ||| x = y * 65536 + x := by
              have h2 := Nat.two_pow_add_eq_or_of_lt (i := 16) (b := x) hxl y
              rw [Nat.mul_comm y 65536]
              exact h2.symm
            rw [e] at h
            rw [← h]
            simp
          go_roundw
          case rel => exact ⟨i, y * 65536 + x, by omega, rfl, by rw [hv], hny, hown, hbel⟩
          case measure => simp [intOf]
    · obtain ⟨k, rfl⟩ : ∃ k, t = k + 1 := ⟨t - 1, by omega⟩
      have es : ((k + 1 : Nat) : Int) - 1 = (k : Int) := by omega
      rw [es]
      obtain ⟨q, hq⟩ : ∃ q, q = k / 16 := ⟨_, rfl⟩
      obtain ⟨r, hr⟩ : ∃ r, r = k % 16 := ⟨_, rfl⟩
      obtain ⟨pw, hpw⟩ : ∃ pw, pw = 2 ^ r := ⟨_, rfl⟩
      obtain ⟨d, hd⟩ : ∃ d, d = Dg.dg DB X q := ⟨_, rfl⟩
      obtain ⟨Y, hY⟩ : ∃ Y, Y = X + 2 ^ k := ⟨_, rfl⟩
      have hq5 : q < 5 := by omega
      have hroom := bit_room hmod.out
      rw [← hq, ← hr, ← hd, ← hpw] at hroom
      have hroom' : d + pw < 65536 := hroom
      have hadd := bit_add hmod.out
      rw [← hY, ← hq, ← hr, ← hd, ← hpw] at hadd
      have hYl : Y < 2 ^ 41 := by rw [hY]; exact bit_lt hmod.out (by omega) hXl.out
      have hmods := bit_mod hmod.out
      rw [← hY] at hmods
      have hstep : rootB n T (k + 1) X = rootB n T k (if Y ^ n ≤ T then Y else X) := by rw [hY]; rfl
      have HQ : Hid (∀ w : World, (binOp .quo 3 (.int .i64 (k : Int)) (.int .i64 16)).run Tryz.prog w = .ok (.int .i64 (q : Int)) w) := by rw [hq]; exact run_quo16 (by omega)
      have HRR : Hid (∀ w : World, (binOp .rem 3 (.int .i64 (k : Int)) (.int .i64 16)).run Tryz.prog w = .ok (.int .i64 (r : Int)) w) := by rw [hr]; exact run_rem16
      have HPW : Hid (∀ w : World, (binOp .shl 51 (.int .u64 1) (.int .i64 (r : Int))).run Tryz.prog w = .ok (.int .u64 (pw : Int)) w) := by rw [hpw]; exact run_shl1 (by omega)
      have HSUM : Hid (∀ w : World, (binOp .add 51 (.int .u64 (d : Int)) (.int .u64 (pw : Int))).run Tryz.prog w = .ok (.int .u64 ((d + pw : Nat) : Int)) w) := run_add64s (by omega)
      have hcd : wr.cell? ⟨gx, q, none⟩ = some (.int .u64 (d : Int)) := by rw [hd]; exact hown.cell q hq5
      have hgx : gx < wr.heap.size := hown.lt
      have HY := Lib.hid hY; have HADD := Lib.hid hadd; have HYL := Lib.hid hYl; have HMODS := Lib.hid hmods; have HSTEP := Lib.hid hstep; have HD := Lib.hid hd; have HPW2 := Lib.hid hpw
      clear hq hr hpw hd hY hroom hadd hYl hmods hstep es
      go_upto_region 5 with (fail)
      refine wp_region_calm 10 (by rfl) (by kernel_rfl) (Rws.start wr) ?_
      refine lexC_move (v := .slice (some ⟨gx, 0, none⟩) 5 5) rfl rfl ?_
      simp only [Act.put, List.setIfInBounds_toArray, List.set_cons_succ, List.set_cons_zero]
      refine lexC_move (v := .int .i64 (k : Int)) rfl rfl ?_
      simp only [Act.put, List.setIfInBounds_toArray, List.set_cons_succ, List.set_cons_zero]
      refine lexC_bin (u := .int .i64 (k : Int)) (v := .int .i64 16) (r := .int .i64 (q : Int)) rfl rfl rfl HQ.out (fun _ => rfl) ?_
      simp only [Act.put, List.setIfInBounds_toArray, List.set_cons_succ, List.set_cons_zero]
      refine lexC_ixs (g := gx) (off := 0) (k := q) (len := 5) (cap := 5) rfl rfl rfl Tryz.underlying47 (by kernel_rfl) hq5 ?_
      simp only [Act.put, List.setIfInBounds_toArray, List.set_cons_succ, List.set_cons_zero]
      refine lexC_old (v := .int .u64 (d : Int)) rfl (by simp only [Nat.zero_add]; rfl) hgx hcd isAgg_word ?_
      simp only [Act.put, List.setIfInBounds_toArray, List.set_cons_succ, List.set_cons_zero]
      refine lexC_move (v := .int .i64 (k : Int)) rfl rfl ?_
      simp only [Act.put, List.setIfInBounds_toArray, List.set_cons_succ, List.set_cons_zero]
      refine lexC_bin (u := .int .i64 (k : Int)) (v := .int .i64 16) (r := .int .i64 (r : Int)) rfl rfl rfl HRR.out (fun _ => rfl) ?_
      simp only [Act.put, List.setIfInBounds_toArray, List.set_cons_succ, List.set_cons_zero]
      refine lexC_bin (r := .int .u64 (pw : Int)) rfl rfl rfl HPW.out (fun _ => rfl) ?_
      simp only [Act.put, List.setIfInBounds_toArray, List.set_cons_succ, List.set_cons_zero]
      refine lexC_bin (u := .int .u64 (d : Int)) (v := .int .u64 (pw : Int)) (r := .int .u64 ((d + pw : Nat) : Int)) rfl rfl rfl HSUM.out (fun _ => rfl) ?_
      simp only [Act.put, List.setIfInBounds_toArray, List.set_cons_succ, List.set_cons_zero]
      refine lexC_ixs (g := gx) (off := 0) (k := q) (len := 5) (cap := 5) rfl rfl rfl Tryz.underlying47 (by kernel_rfl) hq5 ?_
      simp only [Act.put, List.setIfInBounds_toArray, List.set_cons_succ, List.set_cons_zero]
      refine lexC_zero ?_; simp only [List.take_succ_cons, List.take_zero, List.drop_succ_cons, List.drop_zero]; (repeat (first | (refine aN_cons (by rfl) ?_; intro g; simp only [Act.put, List.setIfInBounds_toArray, List.set_cons_succ, List.set_cons_zero]) | (refine afterAl_skip (by rfl) ?_))); refine afterAl_nil ?_; intro w3 hR; simp only [Nat.zero_add, Int.natCast_add]
      have hb2 := hR.below
      have hbel2 := hbel.trans (hb2.mono hbel.size)
      have hown3 := hown.below hb2 (Nat.le_refl _)
      have hfr := hown3.frozen q
      clear hR hown hbel hcd hgx hb2
      have hcd3 := hown3.cell q hq5
      have hown4 : Own (w3.setCell ⟨gx, q, none⟩ (.int .u64 ((d : Int) + (pw : Int)))) .u64 51 gx 5 (Dg.dg DB Y) :=
        own_put_int hown3 (s := d + pw) (by simp) (by rw [HADD.out, if_pos rfl]) (fun j hj hne => by rw [HADD.out, if_neg hne])
      have hbel4 : Below w.heap.size w (w3.setCell ⟨gx, q, none⟩ (.int .u64 ((d : Int) + (pw : Int)))) := hbel2.setCell hgB _
      go_upto_region 6 with (fail)
      clear hcd3
      generalize w3.setCell ⟨gx, q, none⟩ (.int .u64 ((d : Int) + (pw : Int))) = w4 at *
      clear hfr hown3 hbel2
      have hr0 : Rd (w4.alloc (.cells #[Value.int .u64 1] 51)) .u64 (some ⟨w4.heap.size, 0, none⟩) 1 1 (Dg.dg DB (Y ^ 0)) := ⟨Sh.some _ _ _, Nat.le_refl _, by omega, fun j hj => by
        obtain rfl : j = 0 := by omega
        exact (cell_of_row _ w4.heap.size 0 _ _ _ (heap_alloc_new w4 _)).trans (by rw [Nat.pow_zero]; rfl)⟩
      have hown5 := hown4.below ((Below.refl _ _).alloc (Nat.le_refl _) (.cells #[Value.int .u64 1] 51)) (Nat.le_refl _)
      have hbel5 := hbel4.alloc hbel4.size (.cells #[Value.int .u64 1] 51)
      clear hown4 hbel4
      go_wp2_with fail
      have hY1 : Hid (Y ^ 0 < DB ^ 1) := by show Y ^ 0 < DB ^ 1; rw [Nat.pow_zero, Nat.pow_one, DB_eq]; omega
      have HY5 : Hid (Y < DB ^ 5) := Nat.lt_of_lt_of_le HYL.out (by decide)
      go_loopw [9, 10] (fun av iv wr => ∃ i ga len cap : Nat, i ≤ n ∧ iv = .int .i64 i ∧ av = .slice (some ⟨ga, 0, none⟩) len cap ∧ Hid (len = 1 + 5 * i) ∧ Rd wr .u64 (some ⟨ga, 0, none⟩) len cap (Dg.dg DB (Y ^ i)) ∧ Own wr .u64 51 gx 5 (Dg.dg DB Y) ∧ Below w.heap.size w wr ∧ Hid (Y ^ i < DB ^ len)) (fun _ iv _ => n - (intOf iv).toNat)
      case atStart => exact ⟨0, _, 1, 1, Nat.zero_le _, rfl, rfl, rfl, hr0, hown5, hbel5, hY1⟩
      case round =>
        clear hr0 hown5 hbel5 hY1
        obtain ⟨i, ga, len, cap, hi, rfl, rfl, hlen, hrd, hown, hbel, hlt⟩ := hrel
        by_cases hin : i < n
        · have hl16 : len ≤ 16 := by have := hlen.out; omega
          go_wp2_with fail
          refine (r2times_any (some ⟨ga, 0, none⟩) (some ⟨gx, 0, none⟩) len cap 5 5 (Y ^ i) Y _ hrd hown.rd hlt.out HY5.out (by omega) (by omega)).mono ?_
          rintro e w5 ⟨g5, hg5, rfl, hown5, hb5⟩
          have hown6 := hown.below hb5 (Nat.le_refl _)
          have hbel6 := hbel.trans (hb5.mono hbel.size)
          have hlt6 : Hid (Y ^ (i + 1) < DB ^ (len + 5)) := by
            show Y ^ (i + 1) < DB ^ (len + 5)
            rw [Nat.pow_succ, Nat.pow_add]
            exact Nat.mul_lt_mul_of_lt_of_lt hlt.out HY5.out
          have hlen6 : Hid (len + 5 = 1 + 5 * (i + 1)) := by show len + 5 = 1 + 5 * (i + 1); rw [hlen.out]; omega
          clear hown hbel hrd hb5
          go_wp2_with fail
          go_roundw
          case rel => exact ⟨i + 1, g5, len + 5, len + 5, by omega, by go_num, rfl, hlen6, hown5.rd, hown6, hbel6, hlt6⟩
          case measure => simp [intOf]; omega
        · obtain rfl : i = n := by omega
          have hol : o < len := by have := hlen.out; have := HO.out; omega
          have hl16 : len ≤ 16 := by have := hlen.out; omega
          have e44 : (i : Int) * 32 / 16 = (o : Int) := by have := HO.out; omega
          have hab := fun w hrd => r2above_any (some ⟨ga, 0, none⟩) len cap (Y ^ i) p o w hrd hlt.out (by omega) hol (by omega)
          rw [← HTO.out] at hab
          by_cases hle : Y ^ i ≤ T
          · rw [decide_eq_false (by omega)] at hab
            have hrt2 : Hid (rootB i T k Y = rootB i T 41 0) := by
              show rootB i T k Y = _
              rw [← hrt.out, HSTEP.out, if_pos hle]
            have HAB := Lib.hid hab
            clear hab hle
            go_wp2_with fail
            refine (HAB.out _ hrd).mono ?_
            rintro e w5 ⟨rfl, rfl⟩
            clear e44
            go_wp2_with fail
            go_roundw
            case rel => exact ⟨k, Y, by omega, rfl, hown, hbel, HMODS.out.2, HYL, hrt2⟩
            case measure => simp [intOf]
          · rw [decide_eq_true (by omega)] at hab
            have hrt2 : Hid (rootB i T k X = rootB i T 41 0) := by
              show rootB i T k X = _
              rw [← hrt.out, HSTEP.out, if_neg hle]
            have HAB := Lib.hid hab
            clear hab hle
            have HSUB : Hid (∀ w : World, (binOp .sub 51 (.int .u64 ((d + pw : Nat) : Int)) (.int .u64 (pw : Int))).run Tryz.prog w = .ok (.int .u64 (d : Int)) w) := run_sub64s rfl (by omega)
            go_wp2_with fail
            refine (HAB.out _ hrd).mono ?_
            rintro e w5 ⟨rfl, rfl⟩
            clear e44
            go_upto_region 12 with (fail)
            have hcd : wr.cell? ⟨gx, q, none⟩ = some (.int .u64 ((d + pw : Nat) : Int)) := by
              have h := hown.cell q hq5
              rw [HADD.out, if_pos rfl] at h
              exact h
            have hgx : gx < wr.heap.size := hown.lt
            refine wp_region_calm 10 (by rfl) (by kernel_rfl) (Rws.start wr) ?_
            refine lexC_move (v := .slice (some ⟨gx, 0, none⟩) 5 5) rfl rfl ?_
            simp only [Act.put, List.setIfInBounds_toArray, List.set_cons_succ, List.set_cons_zero]
            refine lexC_move (v := .int .i64 (k : Int)) rfl rfl ?_
            simp only [Act.put, List.setIfInBounds_toArray, List.set_cons_succ, List.set_cons_zero]
            refine lexC_bin (u := .int .i64 (k : Int)) (v := .int .i64 16) (r := .int .i64 (q : Int)) rfl rfl rfl HQ.out (fun _ => rfl) ?_
            simp only [Act.put, List.setIfInBounds_toArray, List.set_cons_succ, List.set_cons_zero]
            refine lexC_ixs (g := gx) (off := 0) (k := q) (len := 5) (cap := 5) rfl rfl rfl Tryz.underlying47 (by kernel_rfl) hq5 ?_
            simp only [Act.put, List.setIfInBounds_toArray, List.set_cons_succ, List.set_cons_zero]
            refine lexC_old (v := .int .u64 ((d + pw : Nat) : Int)) rfl (by simp only [Nat.zero_add]; rfl) hgx hcd isAgg_word ?_
            simp only [Act.put, List.setIfInBounds_toArray, List.set_cons_succ, List.set_cons_zero]
            refine lexC_move (v := .int .i64 (k : Int)) rfl rfl ?_
            simp only [Act.put, List.setIfInBounds_toArray, List.set_cons_succ, List.set_cons_zero]
            refine lexC_bin (u := .int .i64 (k : Int)) (v := .int .i64 16) (r := .int .i64 (r : Int)) rfl rfl rfl HRR.out (fun _ => rfl) ?_
            simp only [Act.put, List.setIfInBounds_toArray, List.set_cons_succ, List.set_cons_zero]
            refine lexC_bin (r := .int .u64 (pw : Int)) rfl rfl rfl HPW.out (fun _ => rfl) ?_
            simp only [Act.put, List.setIfInBounds_toArray, List.set_cons_succ, List.set_cons_zero]
            refine lexC_bin (u := .int .u64 ((d + pw : Nat) : Int)) (v := .int .u64 (pw : Int)) (r := .int .u64 (d : Int)) rfl rfl rfl HSUB.out (fun _ => rfl) ?_
            simp only [Act.put, List.setIfInBounds_toArray, List.set_cons_succ, List.set_cons_zero]
            refine lexC_ixs (g := gx) (off := 0) (k := q) (len := 5) (cap := 5) rfl rfl rfl Tryz.underlying47 (by kernel_rfl) hq5 ?_
            simp only [Act.put, List.setIfInBounds_toArray, List.set_cons_succ, List.set_cons_zero]
            refine lexC_zero ?_; simp only [List.take_succ_cons, List.take_zero, List.drop_succ_cons, List.drop_zero]; (repeat (first | (refine aN_cons (by rfl) ?_; intro g; simp only [Act.put, List.setIfInBounds_toArray, List.set_cons_succ, List.set_cons_zero]) | (refine afterAl_skip (by rfl) ?_))); refine afterAl_nil ?_; intro w3 hR; simp only [Nat.zero_add, Int.natCast_add]
            have hb2 := hR.below
            have hbel6 := hbel.trans (hb2.mono hbel.size)
            have hown6 := hown.below hb2 (Nat.le_refl _)
            have hfr := hown6.frozen q
            have hcd6 := hown6.cell q hq5
            clear hR hown hbel hcd hgx hb2
            go_wp2_with fail
            go_roundw
            case rel => exact ⟨k, X, by omega, rfl, own_put_int hown6 (s := d) rfl HD.out (fun j hj hne => by rw [HADD.out, if_neg hne]), hbel6.setCell hgB _, HMODS.out.1, hXl, hrt2⟩
            case measure => simp [intOf]
end Go.Proofs.YtjkjlbchbbpmaaaGreatDoor
