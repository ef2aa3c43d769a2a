/- limbs.mul: the walk. -/
import Derived.Test.YtbmhiejggkdnkaaGreatDoorSub
namespace Go.Proofs.YtbmhiejggkdnkaaGreatDoor
open Go.RowKit

/-- One inner round of a product: X is what stands in the row, S what has been added to it. -/
theorem mul_step {X S S' i cr x y nw : Nat} (hS' : S' = S + x * y * LB ^ i) (hcr : S / LB ^ i = X / LB ^ i + cr) (hnw : nw = cr + (x * y + Dg.dg LB X i)) :
    nw % LB = Dg.dg LB S' i ∧ S' / LB ^ (i + 1) = X / LB ^ (i + 1) + nw / LB ∧ ∀ j, j < i → Dg.dg LB S' j = Dg.dg LB S j := by
  have hB : 0 < LB := by rw [LB_eq]; omega
  have hp : 0 < LB ^ i := Nat.pow_pos hB
  have e1 : S' / LB ^ i = X / LB ^ i + cr + x * y := by
    rw [hS', Nat.mul_comm (x * y), Nat.add_mul_div_left _ _ hp, hcr]
  have e2 : X / LB ^ i = LB * (X / LB ^ (i + 1)) + Dg.dg LB X i := by
    unfold Dg.dg
    rw [Nat.pow_succ, ← Nat.div_div_eq_div_mul]
    exact (Nat.div_add_mod _ _).symm
  have e3 : S' / LB ^ i = nw + LB * (X / LB ^ (i + 1)) := by rw [e1, hnw]; omega
  refine ⟨?_, ?_, fun j hj => ?_⟩
  · show _ = S' / LB ^ i % LB
    rw [e3, Nat.add_mul_mod_self_left]
  · have e5 : S' / LB ^ (i + 1) = S' / LB ^ i / LB := by rw [Nat.pow_succ, Nat.div_div_eq_div_mul]
    rw [e5, e3, Nat.add_mul_div_left _ _ hB]; omega
  · rw [hS']
    unfold Dg.dg
    obtain ⟨d, rfl⟩ : ∃ d, i = j + 1 + d := ⟨i - (j + 1), by omega⟩
    have e4 : x * y * LB ^ (j + 1 + d) = LB ^ j * (LB * (x * y * LB ^ d)) := by
      rw [Nat.pow_add, Nat.pow_succ]
      simp only [Nat.mul_comm, Nat.mul_left_comm, Nat.mul_assoc]
    rw [e4, Nat.add_mul_div_left _ _ (Nat.pow_pos hB), Nat.add_mul_mod_self_left]

set_option maxRecDepth 100000 in
set_option maxHeartbeats 800000 in
theorem mul_any (ao bo : Option Addr) (n c m d a b : Nat) (w : World) (ha : Num w ao n c a) (hb : Num w bo m d b) (hn : n ≤ 100000000) (hm : m ≤ 100000000) :
    Calls Tryz.prog 37 #[.slice ao n c, .slice bo m d] w (RetNum w (a * b)) := by
  have hB : 0 < LB := by rw [LB_eq]; omega
  have HB := Lib.hid hB; clear hB
  have ha0 : a < LB ^ n := ha.lt
  have hb0 : b < LB ^ m := hb.lt
  have HA0 := Lib.hid ha0; have HB0 := Lib.hid hb0
  clear ha0 hb0
  go_enter Tryz.func37, Tryz.ntmps37
  go_wp2_with (refine wpList_make_row _ rfl (.tmp 15) (.tmp 15) _ rfl 74 .u32 4 Tryz.underlying52 info32 .i64 .i64 _ _ (n + m) rfl rfl (by omega) (by omega) (by omega) (by omega) ?_; intro g w1 hg hown1 hb1)
  have hown2 : Own w1 .u32 74 g (n + m) (Dg.dg LB (a % LB ^ 0 * b)) := hown1.congr fun j _ => by simp [Nat.mod_one, Dg.dg_zero]
  clear hown1
  go_loopw [19] (fun i wr => ∃ k : Nat, k ≤ n ∧ i = .int .i64 k ∧ Own wr .u32 74 g (n + m) (Dg.dg LB (a % LB ^ k * b)) ∧ Below w.heap.size w wr) (fun i _ => n - (intOf i).toNat)
  case atStart => exact ⟨0, Nat.zero_le _, rfl, hown2, hb1⟩
  case round =>
    obtain ⟨i, hi, rfl, hown, hbel⟩ := hrel
    clear hown2
    by_cases hin : i < n
    · have hca : wr.cell? ⟨blk ao, off ao + i, none⟩ = some (.int .u32 (Dg.dg LB a i : Nat)) := (ha.rd.below hbel (Nat.le_refl _)).cell i hin
      have hsa := ha.rd.sh
      obtain ⟨x, hx⟩ : ∃ x, x = Dg.dg LB a i := ⟨_, rfl⟩
      rw [← hx] at hca
      have hxl : x < 4294967296 := by rw [hx]; exact Dg.dg_lt HB.out a i
      have HX := Lib.hid hx; clear hx
      obtain ⟨X, hX⟩ : ∃ X, X = a % LB ^ i * b := ⟨_, rfl⟩
      rw [← hX] at hown
      have HXX := Lib.hid hX; clear hX
      go_wp2_with fail
      obtain ⟨wo, rfl⟩ : ∃ wo : World, wo = wr := ⟨_, rfl⟩
      go_loopw [8, 26] (fun cv i2 wr => ∃ k cr : Nat, k ≤ m ∧ i2 = .int .i64 k ∧ cv = .int .u64 cr ∧ cr < LB ∧ Hid ((X + x * (b % LB ^ k) * LB ^ i) / LB ^ (i + k) = X / LB ^ (i + k) + cr) ∧ Own wr .u32 74 g (n + m) (fun j => if j < i + k then Dg.dg LB (X + x * (b % LB ^ k) * LB ^ i) j else Dg.dg LB X j) ∧ Below w.heap.size w wr) (fun _ i2 _ => m - (intOf i2).toNat)
      case atStart => exact ⟨0, 0, Nat.zero_le _, rfl, rfl, HB.out, by simp [Nat.mod_one, Hid], hown.congr fun j _ => by simp [Nat.mod_one], hbel⟩
      case round =>
        obtain ⟨k, cr, hk, rfl, rfl, hcr, hcq, hown, hbel⟩ := hrel
        have hcr' : cr < 4294967296 := hcr
        clear hcr
        by_cases hkm : k < m
        · have hcb : wr.cell? ⟨blk bo, off bo + k, none⟩ = some (.int .u32 (Dg.dg LB b k : Nat)) := (hb.rd.below hbel (Nat.le_refl _)).cell k hkm
          have hsb := hb.rd.sh
          obtain ⟨y, hy⟩ : ∃ y, y = Dg.dg LB b k := ⟨_, rfl⟩
          rw [← hy] at hcb
          have hyl : y < 4294967296 := by rw [hy]; exact Dg.dg_lt HB.out b k
          have HY := Lib.hid hy; clear hy
          have hco : wr.cell? ⟨g, i + k, none⟩ = some (.int .u32 (Dg.dg LB X (i + k) : Nat)) := by simpa using hown.cell (i + k) (by omega)
          obtain ⟨z, hz⟩ : ∃ z, z = Dg.dg LB X (i + k) := ⟨_, rfl⟩
          rw [← hz] at hco
          have hzl : z < 4294967296 := by rw [hz]; exact Dg.dg_lt HB.out X _
          have HZ := Lib.hid hz; clear hz
          have hfr := hown.frozen (i + k)
          have hxy : (x : Int) * (y : Int) ≤ 18446744065119617025 := by
            have h1 : x * y ≤ 4294967295 * 4294967295 := Nat.mul_le_mul (by omega) (by omega)
            have h2 : ((x * y : Nat) : Int) = (x : Int) * (y : Int) := Int.natCast_mul _ _
            omega
          have hxy0 : 0 ≤ (x : Int) * (y : Int) := by
            have h2 : ((x * y : Nat) : Int) = (x : Int) * (y : Int) := Int.natCast_mul _ _
            omega
          go_wp2_with fail
          obtain ⟨nw, hnw⟩ : ∃ nw, nw = cr + (x * y + z) := ⟨_, rfl⟩
          have hnwi : ((cr : Int) + ((x : Int) * (y : Int) + (z : Int))) = (nw : Nat) := by rw [hnw]; simp
          have hS' : X + x * (b % LB ^ (k + 1)) * LB ^ i = X + x * (b % LB ^ k) * LB ^ i + x * y * LB ^ (i + k) := by
            rw [Dg.mod_succ, ← HY.out, Nat.mul_add, Nat.add_mul, Nat.pow_add]
            have : x * (LB ^ k * y) * LB ^ i = x * y * (LB ^ i * LB ^ k) := by simp only [Nat.mul_comm, Nat.mul_left_comm, Nat.mul_assoc]
            omega
          have R := mul_step (i := i + k) hS' hcq.out (hnw.trans (by rw [HZ.out]))
          have hnl : nw / LB < LB := by
            have h1 : x * y ≤ 4294967295 * 4294967295 := Nat.mul_le_mul (by omega) (by omega)
            rw [LB_eq]; omega
          go_roundw
          case rel => exact ⟨k + 1, nw / LB, by omega, by go_num, by rw [hnwi]; rfl, hnl, R.2.1, own_set_int hown (s := nw % LB) (by rw [hnwi]; rfl) (by rw [if_pos (by omega)]; exact R.1) (fun j hj hne => by
            by_cases h1 : j < i + k
            · rw [if_pos h1, if_pos (by omega)]; exact (R.2.2 j h1).symm
            · rw [if_neg h1, if_neg (by omega)]), hbel.setCell hg _⟩
          case measure => simp [intOf]; omega
        · obtain rfl : k = m := by omega
          have hS : X + x * (b % LB ^ k) * LB ^ i = a % LB ^ (i + 1) * b := by
            rw [Nat.mod_eq_of_lt HB0.out, Dg.mod_succ, ← HX.out, Nat.add_mul, ← HXX.out]
            have : x * b * LB ^ i = LB ^ i * x * b := by simp only [Nat.mul_comm, Nat.mul_assoc]
            omega
          have hXlt : X < LB ^ (i + k) := by
            rw [HXX.out, Nat.pow_add]
            exact Nat.mul_lt_mul'' (Nat.mod_lt _ (Nat.pow_pos HB.out)) HB0.out
          have hSlt : a % LB ^ (i + 1) * b < LB ^ (i + 1 + k) := by
            rw [Nat.pow_add LB (i + 1) k]
            exact Nat.mul_lt_mul'' (Nat.mod_lt _ (Nat.pow_pos HB.out)) HB0.out
          have hcrd : cr = Dg.dg LB (a % LB ^ (i + 1) * b) (i + k) := by
            have h1 := hcq.out
            rw [hS, Nat.div_eq_of_lt hXlt, Nat.zero_add] at h1
            unfold Dg.dg
            rw [h1, Nat.mod_eq_of_lt (by rw [LB_eq]; exact hcr')]
          have hco : wr.cell? ⟨g, i + k, none⟩ = some (.int .u32 (Dg.dg LB X (i + k) : Nat)) := by simpa using hown.cell (i + k) (by omega)
          have hfr := hown.frozen (i + k)
          have HS := Lib.hid hS; have HXL := Lib.hid hXlt; have HSL := Lib.hid hSlt; have HCR := Lib.hid hcrd
          clear hS hXlt hSlt hcrd
          go_wp2_with fail
          go_roundw
          case rel => exact ⟨i + 1, by omega, by go_num, own_set_int hown (s := cr) rfl HCR.out (fun j hj hne => by
            rw [HS.out]
            by_cases h1 : j < i + k
            · rw [if_pos h1]
            · rw [if_neg h1, Dg.dg_of_lt_le HB.out HXL.out (by omega), Dg.dg_of_lt_le HB.out HSL.out (by omega)]), hbel.setCell hg _⟩
          case measure => simp [intOf]; omega
    · obtain rfl : i = n := by omega
      have hlt : a * b < LB ^ (i + m) := by rw [Nat.pow_add]; exact Nat.mul_lt_mul'' HA0.out HB0.out
      have hrd : Rd wr .u32 (some ⟨g, 0, none⟩) (i + m) (i + m) (Dg.dg LB (a * b)) := by
        have h := hown.rd; rw [Nat.mod_eq_of_lt HA0.out] at h; exact h
      have HLT := Lib.hid hlt; clear hlt
      go_wp2_with (go_at_call 54; refine (trim_num _ _ _ _ _ hrd HLT.out).mono ?_; rintro e w' ⟨k, rfl, hnum, rfl⟩)
      go_ret
      exact ⟨_, _, _, rfl, hnum, hbel⟩
end Go.Proofs.YtbmhiejggkdnkaaGreatDoor
