/- The reference's Times: the walk. -/
import Derived.Test.YtbmhiejggkdnkaaGreatDoorRBase
namespace Go.Proofs.YtbmhiejggkdnkaaGreatDoor
open Go.RowKit

/-- One inner round of a product: X is what stands in the row, S what has been added to it. -/
theorem mul_stepB {B X S S' i cr x y nw : Nat} (hB : 0 < B) (hS' : S' = S + x * y * B ^ i) (hcr : S / B ^ i = X / B ^ i + cr) (hnw : nw = cr + (Dg.dg B X i + x * y)) :
    nw % B = Dg.dg B S' i ∧ S' / B ^ (i + 1) = X / B ^ (i + 1) + nw / B ∧ ∀ j, j < i → Dg.dg B S' j = Dg.dg B S j := by
  have hp : 0 < B ^ i := Nat.pow_pos hB
  have e1 : S' / B ^ i = X / B ^ i + cr + x * y := by
    rw [hS', Nat.mul_comm (x * y), Nat.add_mul_div_left _ _ hp, hcr]
  have e2 : X / B ^ i = B * (X / B ^ (i + 1)) + Dg.dg B X i := by
    unfold Dg.dg
    rw [Nat.pow_succ, ← Nat.div_div_eq_div_mul]
    exact (Nat.div_add_mod _ _).symm
  have e3 : S' / B ^ i = nw + B * (X / B ^ (i + 1)) := by rw [e1, hnw]; omega
  refine ⟨?_, ?_, fun j hj => ?_⟩
  · show _ = S' / B ^ i % B
    rw [e3, Nat.add_mul_mod_self_left]
  · have e5 : S' / B ^ (i + 1) = S' / B ^ i / B := by rw [Nat.pow_succ, Nat.div_div_eq_div_mul]
    rw [e5, e3, Nat.add_mul_div_left _ _ hB]; omega
  · rw [hS']
    unfold Dg.dg
    obtain ⟨d, rfl⟩ : ∃ d, i = j + 1 + d := ⟨i - (j + 1), by omega⟩
    have e4 : x * y * B ^ (j + 1 + d) = B ^ j * (B * (x * y * B ^ d)) := by
      rw [Nat.pow_add, Nat.pow_succ]
      simp only [Nat.mul_comm, Nat.mul_left_comm, Nat.mul_assoc]
    rw [e4, Nat.add_mul_div_left _ _ (Nat.pow_pos hB), Nat.add_mul_mod_self_left]

set_option maxRecDepth 100000 in
set_option maxHeartbeats 1600000 in
theorem rtimes_any (ao bo : Option Addr) (n c m d a b : Nat) (w : World) (ha : RN w ao n c a) (hb : RN w bo m d b) (hn : n ≤ 10000000) (hm : m ≤ 10000000) :
    Calls Tryz.prog 14 #[.slice ao n c, .slice bo m d] w (RetRN w (a * b)) := by
  have ha0 : a < DB ^ n := ha.lt
  have hb0 : b < DB ^ m := hb.lt
  have HA0 := Lib.hid ha0; have HB0 := Lib.hid hb0
  clear ha0 hb0
  go_enter Tryz.func14, Tryz.ntmps14
  go_wp2_with (refine wpList_make_row _ rfl (.tmp 14) (.tmp 14) _ rfl 30 .u64 8 Tryz.underlying28 info64 .i64 .i64 _ _ (n + m + 1) rfl rfl (by omega) (by omega) (by omega) (by omega) ?_; intro g w1 hg hown1 hb1)
  have hown2 : Own w1 .u64 30 g (n + m + 1) (Dg.dg DB (a % DB ^ 0 * b)) := hown1.congr fun j _ => by simp [Nat.mod_one, Dg.dg_zero]
  clear hown1
  go_loopw [6] (fun i wr => ∃ k : Nat, k ≤ n ∧ i = .int .i64 k ∧ Own wr .u64 30 g (n + m + 1) (Dg.dg DB (a % DB ^ k * b)) ∧ Below w.heap.size w wr) (fun i _ => n - (intOf i).toNat)
  case atStart => exact ⟨0, Nat.zero_le _, rfl, hown2, hb1⟩
  case round =>
    obtain ⟨i, hi, rfl, hown, hbel⟩ := hrel
    clear hown2
    by_cases hin : i < n
    · obtain ⟨x, hx⟩ : ∃ x, x = Dg.dg DB a i := ⟨_, rfl⟩
      have hxl : x < 65536 := by rw [hx]; exact Dg.dg_lt DBpos a i
      have HX := Lib.hid hx; clear hx
      have hsa := ha.rd.sh
      obtain ⟨X, hX⟩ : ∃ X, X = a % DB ^ i * b := ⟨_, rfl⟩
      rw [← hX] at hown
      have HXX := Lib.hid hX; clear hX
      go_wp2_with fail
      obtain ⟨wo, rfl⟩ : ∃ wo : World, wo = wr := ⟨_, rfl⟩
      go_loopw [7, 8] (fun cv i2 wr => ∃ k cr : Nat, k ≤ m ∧ i2 = .int .i64 k ∧ cv = .int .u64 cr ∧ cr < DB ∧ Hid ((X + x * (b % DB ^ k) * DB ^ i) / DB ^ (i + k) = X / DB ^ (i + k) + cr) ∧ Own wr .u64 30 g (n + m + 1) (fun j => if j < i + k then Dg.dg DB (X + x * (b % DB ^ k) * DB ^ i) j else Dg.dg DB X j) ∧ Below w.heap.size w wr) (fun _ i2 _ => m - (intOf i2).toNat)
      case atStart => exact ⟨0, 0, Nat.zero_le _, rfl, rfl, DBpos, by simp [Nat.mod_one, Hid], hown.congr fun j _ => by simp [Nat.mod_one], hbel⟩
      case round =>
        obtain ⟨k, cr, hk, rfl, rfl, hcr, hcq, hown, hbel⟩ := hrel
        have hcr' : cr < 65536 := hcr
        clear hcr
        by_cases hkm : k < m
        · have hca : wr.cell? ⟨blk ao, off ao + i, none⟩ = some (.int .u64 (x : Nat)) := by rw [HX.out]; exact (ha.rd.below hbel (Nat.le_refl _)).cell i hin
          have hcb : wr.cell? ⟨blk bo, off bo + k, none⟩ = some (.int .u64 (Dg.dg DB b k : Nat)) := (hb.rd.below hbel (Nat.le_refl _)).cell k hkm
          have hsb := hb.rd.sh
          obtain ⟨y, hy⟩ : ∃ y, y = Dg.dg DB b k := ⟨_, rfl⟩
          rw [← hy] at hcb
          have hyl : y < 65536 := by rw [hy]; exact Dg.dg_lt DBpos b k
          have HY := Lib.hid hy; clear hy
          have hco : wr.cell? ⟨g, i + k, none⟩ = some (.int .u64 (Dg.dg DB X (i + k) : Nat)) := by simpa using hown.cell (i + k) (by omega)
          obtain ⟨z, hz⟩ : ∃ z, z = Dg.dg DB X (i + k) := ⟨_, rfl⟩
          rw [← hz] at hco
          have hzl : z < 65536 := by rw [hz]; exact Dg.dg_lt DBpos X _
          have HZ := Lib.hid hz; clear hz
          have hfr := hown.frozen (i + k)
          have hxy1 : x * y ≤ 65535 * 65535 := Nat.mul_le_mul (by omega) (by omega)
          have hxy : (x : Int) * (y : Int) ≤ 4294836225 := by
            have h2 : ((x * y : Nat) : Int) = (x : Int) * (y : Int) := Int.natCast_mul _ _
            omega
          have hxy0 : 0 ≤ (x : Int) * (y : Int) := by
            have h2 : ((x * y : Nat) : Int) = (x : Int) * (y : Int) := Int.natCast_mul _ _
            omega
          go_wp2_with fail
          go_quiet (fail)
          go_wp2_with fail
          obtain ⟨nw, hnw⟩ : ∃ nw, nw = cr + (z + x * y) := ⟨_, rfl⟩
          have hnwi : ((cr : Int) + ((z : Int) + (x : Int) * (y : Int))) = (nw : Nat) := by rw [hnw]; simp
          have hS' : X + x * (b % DB ^ (k + 1)) * DB ^ i = X + x * (b % DB ^ k) * DB ^ i + x * y * DB ^ (i + k) := by
            rw [Dg.mod_succ, ← HY.out, Nat.mul_add, Nat.add_mul, Nat.pow_add]
            have : x * (DB ^ k * y) * DB ^ i = x * y * (DB ^ i * DB ^ k) := by simp only [Nat.mul_comm, Nat.mul_left_comm, Nat.mul_assoc]
            omega
          have R := mul_stepB (i := i + k) DBpos hS' hcq.out (hnw.trans (by rw [HZ.out]))
          have hnl : nw / DB < DB := by
            rw [DB_eq]; omega
          go_roundw
          case rel => exact ⟨k + 1, nw / DB, by omega, by go_num, by rw [hnwi]; rfl, hnl, R.2.1, own_set_int (hown.drewN _) (s := nw % DB) (by rw [hnwi]; rfl) (by rw [if_pos (by omega)]; exact R.1) (fun j hj hne => by
            by_cases h1 : j < i + k
            · rw [if_pos h1, if_pos (by omega)]; exact (R.2.2 j h1).symm
            · rw [if_neg h1, if_neg (by omega)]), (below_drawn hbel _).setCell hg _⟩
          case measure => simp [intOf]; omega
        · obtain rfl : k = m := by omega
          have hS : X + x * (b % DB ^ k) * DB ^ i = a % DB ^ (i + 1) * b := by
            rw [Nat.mod_eq_of_lt HB0.out, Dg.mod_succ, ← HX.out, Nat.add_mul, ← HXX.out]
            have : x * b * DB ^ i = DB ^ i * x * b := by simp only [Nat.mul_comm, Nat.mul_assoc]
            omega
          have hXlt : X < DB ^ (i + k) := by
            rw [HXX.out, Nat.pow_add]
            exact Nat.mul_lt_mul'' (Nat.mod_lt _ (Nat.pow_pos DBpos)) HB0.out
          have hSlt : a % DB ^ (i + 1) * b < DB ^ (i + 1 + k) := by
            rw [Nat.pow_add DB (i + 1) k]
            exact Nat.mul_lt_mul'' (Nat.mod_lt _ (Nat.pow_pos DBpos)) HB0.out
          have hcrd : cr = Dg.dg DB (a % DB ^ (i + 1) * b) (i + k) := by
            have h1 := hcq.out
            rw [hS, Nat.div_eq_of_lt hXlt, Nat.zero_add] at h1
            unfold Dg.dg
            rw [h1, Nat.mod_eq_of_lt (by rw [DB_eq]; exact hcr')]
          have hco : wr.cell? ⟨g, i + k, none⟩ = some (.int .u64 (0 : Nat)) := by
            have h := hown.cell (i + k) (by omega)
            rw [if_neg (by omega), Dg.dg_of_lt_le DBpos hXlt (Nat.le_refl _)] at h
            exact h
          have hfr := hown.frozen (i + k)
          have HS := Lib.hid hS; have HXL := Lib.hid hXlt; have HSL := Lib.hid hSlt; have HCR := Lib.hid hcrd
          clear hS hXlt hSlt hcrd
          go_wp2_with fail
          go_roundw
          case rel => exact ⟨i + 1, by omega, by go_num, own_set_int hown (s := cr) (by simp) HCR.out (fun j hj hne => by
            rw [HS.out]
            by_cases h1 : j < i + k
            · rw [if_pos h1]
            · rw [if_neg h1, Dg.dg_of_lt_le DBpos HXL.out (by omega), Dg.dg_of_lt_le DBpos HSL.out (by omega)]), hbel.setCell hg _⟩
          case measure => simp [intOf]; omega
    · obtain rfl : i = n := by omega
      have hlt : a * b < DB ^ (i + m + 1) := Nat.lt_of_lt_of_le (by rw [Nat.pow_add]; exact Nat.mul_lt_mul'' HA0.out HB0.out) (Nat.pow_le_pow_right DBpos (Nat.le_succ (i + m)))
      have hrd : Rd wr .u64 (some ⟨g, 0, none⟩) (i + m + 1) (i + m + 1) (Dg.dg DB (a * b)) := by
        have h := hown.rd; rw [Nat.mod_eq_of_lt HA0.out] at h; exact h
      have HLT := Lib.hid hlt; clear hlt
      go_wp2_with (go_at_call 30; refine (rtrim_num _ _ _ _ _ hrd HLT.out).mono ?_; rintro e w' ⟨k, rfl, hnum, rfl⟩)
      go_ret
      exact ⟨_, _, _, rfl, hnum, hbel⟩
end Go.Proofs.YtbmhiejggkdnkaaGreatDoor
