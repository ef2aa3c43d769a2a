/- limbs.shl: the walk. -/
import Derived.Test.YtbmhiejggkdnkaaGreatDoorTake
import Derived.StillTailTactics
namespace Go.Proofs.YtbmhiejggkdnkaaGreatDoor
open Go.RowKit

theorem Own.drew {w : World} {k : IntKind} {e g n : Nat} {f : Nat → Nat} (h : Own w k e g n f) : Own w.drew k e g n f := h

/-- One round of a shift. -/
theorem shl_step {a i s x d : Nat} (hs : s < 32) (hx : x = Dg.dg LB a i) (hd : d = Dg.dg LB (a % LB ^ i * 2 ^ s) i) :
    (d ||| (x * 2 ^ s % LB)) = Dg.dg LB (a % LB ^ (i + 1) * 2 ^ s) i ∧ x * 2 ^ s / LB = Dg.dg LB (a % LB ^ (i + 1) * 2 ^ s) (i + 1) ∧ x * 2 ^ s / LB < LB ∧
      ∀ j, j ≠ i → j ≠ i + 1 → Dg.dg LB (a % LB ^ i * 2 ^ s) j = Dg.dg LB (a % LB ^ (i + 1) * 2 ^ s) j := by
  have hp : 0 < LB ^ i := Nat.pow_pos LBpos
  have hxl : x < LB := by rw [hx]; exact Dg.dg_lt LBpos a i
  have h2 : 2 ^ s ≤ LB := by
    have : 2 ^ s ≤ 2 ^ 32 := Nat.pow_le_pow_right (by omega) (by omega)
    rw [LB_eq]; omega
  have h2p : 0 < 2 ^ s := Nat.pow_pos (by omega)
  obtain ⟨r, hr⟩ : ∃ r, LB = 2 ^ s * r := ⟨2 ^ (32 - s), by rw [← Nat.pow_add, show s + (32 - s) = 32 from by omega]; rfl⟩
  obtain ⟨X, hX⟩ : ∃ X, X = a % LB ^ i * 2 ^ s := ⟨_, rfl⟩
  have hXl : X < LB ^ i * 2 ^ s := by rw [hX]; exact Nat.mul_lt_mul_of_pos_right (Nat.mod_lt _ hp) h2p
  have hXd : X / LB ^ i < 2 ^ s := by rw [Nat.div_lt_iff_lt_mul hp, Nat.mul_comm]; exact hXl
  have hd' : d = X / LB ^ i := by
    rw [hd, ← hX]; unfold Dg.dg; rw [Nat.mod_eq_of_lt (Nat.lt_of_lt_of_le hXd h2)]
  have hX' : a % LB ^ (i + 1) * 2 ^ s = X + LB ^ i * (x * 2 ^ s) := by
    rw [Dg.mod_succ, Nat.add_mul, ← hX, ← hx, Nat.mul_assoc]
  have e1 : (a % LB ^ (i + 1) * 2 ^ s) / LB ^ i = d + x * 2 ^ s := by
    rw [hX', Nat.add_mul_div_left _ _ hp, ← hd']
  have hd2 : d < 2 ^ s := by rw [hd']; exact hXd
  have hm : x * 2 ^ s % LB = 2 ^ s * (x % r) := by rw [Nat.mul_comm x, hr, Nat.mul_mod_mul_left]
  have hrp : 0 < r := by
    rcases Nat.eq_zero_or_pos r with h | h
    · rw [h, Nat.mul_zero] at hr; rw [LB_eq] at hr; omega
    · exact h
  have hlt : d + x * 2 ^ s % LB < LB := by
    rw [hm]
    have h3 : x % r ≤ r - 1 := by have := Nat.mod_lt x hrp; omega
    have h4 : 2 ^ s * (x % r) ≤ 2 ^ s * (r - 1) := Nat.mul_le_mul_left _ h3
    have h5 : 2 ^ s * (r - 1) + 2 ^ s = LB := by
      rw [← Nat.mul_succ, hr]; congr 1; omega
    omega
  have hdm := Nat.div_add_mod (x * 2 ^ s) LB
  have hq : x * 2 ^ s / LB < LB := by
    refine Nat.div_lt_of_lt_mul ?_
    exact Nat.lt_of_lt_of_le (Nat.mul_lt_mul_of_pos_right hxl h2p) (Nat.mul_le_mul_left _ h2)
  have e2 : (d + x * 2 ^ s) % LB = d + x * 2 ^ s % LB := by
    have : d + x * 2 ^ s = d + x * 2 ^ s % LB + LB * (x * 2 ^ s / LB) := by omega
    rw [this, Nat.add_mul_mod_self_left, Nat.mod_eq_of_lt hlt]
  have e3 : (d + x * 2 ^ s) / LB = x * 2 ^ s / LB := by
    have : d + x * 2 ^ s = d + x * 2 ^ s % LB + LB * (x * 2 ^ s / LB) := by omega
    rw [this, Nat.add_mul_div_left _ _ LBpos, Nat.div_eq_of_lt hlt, Nat.zero_add]
  refine ⟨?_, ?_, hq, fun j h1 h3 => ?_⟩
  · rw [Nat.or_comm, nat_join s _ _ (by rw [hm]; simp) hd2, Nat.add_comm]
    unfold Dg.dg
    rw [e1, e2]
  · have : Dg.dg LB (a % LB ^ (i + 1) * 2 ^ s) (i + 1) = (a % LB ^ (i + 1) * 2 ^ s) / LB ^ i / LB % LB := by
      unfold Dg.dg; rw [Nat.pow_succ LB i, ← Nat.div_div_eq_div_mul, ← Nat.pow_succ]
    rw [this, e1, e3, Nat.mod_eq_of_lt hq]
  · rw [← hX]
    by_cases hj : j < i
    · rw [hX']
      unfold Dg.dg
      obtain ⟨t, rfl⟩ : ∃ t, i = j + 1 + t := ⟨i - (j + 1), by omega⟩
      have e4 : LB ^ (j + 1 + t) * (x * 2 ^ s) = LB ^ j * (LB * (LB ^ t * (x * 2 ^ s))) := by
        rw [Nat.pow_add, Nat.pow_succ]; simp only [Nat.mul_assoc]
      rw [e4, Nat.add_mul_div_left _ _ (Nat.pow_pos LBpos), Nat.add_mul_mod_self_left]
    · have hlt2 : a % LB ^ (i + 1) * 2 ^ s < LB ^ (i + 2) := by
        have := Nat.mul_lt_mul_of_pos_right (Nat.mod_lt a (Nat.pow_pos (n := i + 1) LBpos)) h2p
        exact Nat.lt_of_lt_of_le this (by rw [Nat.pow_succ LB (i + 1)]; exact Nat.mul_le_mul_left _ h2)
      rw [Dg.dg_of_lt_le LBpos hlt2 (by omega), Dg.dg_of_lt_le LBpos (v := X) (i := i + 2) (by omega) (by omega)]

set_option maxRecDepth 100000 in
set_option maxHeartbeats 800000 in
theorem shl_any (ao : Option Addr) (n c a s : Nat) (w : World) (ha : Rd w .u32 ao n c (Dg.dg LB a)) (hal : a < LB ^ n) (hn : n ≤ 100000000) (hs : s < 32) :
    Calls Tryz.prog 58 #[.slice ao n c, .int .i64 s] w fun e w' =>
      ∃ g : Nat, e = .returned (.slice (some ⟨g, 0, none⟩) (n + 1) (n + 1)) ∧ w.heap.size ≤ g ∧ Own w' .u32 74 g (n + 1) (Dg.dg LB (a * 2 ^ s)) ∧ Below w.heap.size w w' := by
  have HAL := Lib.hid hal; clear hal
  go_enter Tryz.func58, Tryz.ntmps58
  go_wp2_with (refine wpList_make_row _ rfl (.tmp 10) (.tmp 10) _ rfl 74 .u32 4 Tryz.underlying52 info32 .i64 .i64 _ _ (n + 1) rfl rfl (by omega) (by omega) (by omega) (by omega) ?_; intro g w1 hg hown1 hb1)
  have hown2 : Own w1 .u32 74 g (n + 1) (Dg.dg LB (a % LB ^ 0 * 2 ^ s)) := hown1.congr fun j _ => by simp [Nat.mod_one, Dg.dg_zero]
  clear hown1
  go_loopw [14] (fun i wr => ∃ k : Nat, k ≤ n ∧ i = .int .i64 k ∧ Own wr .u32 74 g (n + 1) (Dg.dg LB (a % LB ^ k * 2 ^ s)) ∧ Below w.heap.size w wr) (fun i _ => n - (intOf i).toNat)
  case atStart => exact ⟨0, Nat.zero_le _, rfl, hown2, hb1⟩
  case round =>
    obtain ⟨i, hi, rfl, hown, hbel⟩ := hrel
    clear hown2
    by_cases hin : i < n
    · have hca : wr.cell? ⟨blk ao, off ao + i, none⟩ = some (.int .u32 (Dg.dg LB a i : Nat)) := (ha.below hbel (Nat.le_refl _)).cell i hin
      have hsa := ha.sh
      obtain ⟨x, hx⟩ : ∃ x, x = Dg.dg LB a i := ⟨_, rfl⟩
      rw [← hx] at hca
      have hxl : x < 4294967296 := by rw [hx]; exact Dg.dg_lt LBpos a i
      have HX := Lib.hid hx; clear hx
      have hco : wr.cell? ⟨g, i, none⟩ = some (.int .u32 (Dg.dg LB (a % LB ^ i * 2 ^ s) i : Nat)) := hown.cell i (by omega)
      have hc1 : wr.cell? ⟨g, i + 1, none⟩ = some (.int .u32 (Dg.dg LB (a % LB ^ i * 2 ^ s) (i + 1) : Nat)) := hown.cell (i + 1) (by omega)
      obtain ⟨d, hd⟩ : ∃ d, d = Dg.dg LB (a % LB ^ i * 2 ^ s) i := ⟨_, rfl⟩
      rw [← hd] at hco
      obtain ⟨d1, hd1⟩ : ∃ d, d = Dg.dg LB (a % LB ^ i * 2 ^ s) (i + 1) := ⟨_, rfl⟩
      rw [← hd1] at hc1
      have hdl : d < 4294967296 := by rw [hd]; exact Dg.dg_lt LBpos _ i
      have HD := Lib.hid hd; have HD1 := Lib.hid hd1; clear hd hd1
      have hf0 := hown.frozen i
      have hf1 := hown.frozen (i + 1)
      have hin' : (i : Int) < n := by omega
      go_wp2
      go_region
      go_wp2
      have R := shl_step hs HX.out HD.out
      have e1 : bits BinOp.or IntKind.u32 (d : Int) ((x : Int) * 2 ^ s % 4294967296) = ((d ||| (x * 2 ^ s % LB) : Nat) : Int) := by
        rw [← u32_or_nat d _ hdl (by rw [LB_eq]; exact Nat.mod_lt _ (by omega)), LB_eq]
        simp
      have e2 : IntKind.u64.wrap ((x : Int) * 2 ^ s) / 4294967296 % 4294967296 = ((x * 2 ^ s / LB : Nat) : Int) := by
        have h1 : x * 2 ^ s < 18446744073709551616 := by
          have h2 : 2 ^ s ≤ 2 ^ 32 := Nat.pow_le_pow_right (by omega) (by omega)
          have h3 : x * 2 ^ s ≤ 4294967295 * 2 ^ 32 := Nat.mul_le_mul (by omega) h2
          omega
        have h2 : ((x : Int) * 2 ^ s) = ((x * 2 ^ s : Nat) : Int) := by simp
        rw [h2, IntKind.wrap_u64, LB_eq]
        have h3 := R.2.2.1
        rw [LB_eq] at h3
        omega
      go_roundw
      case rel =>
        refine ⟨i + 1, by omega, by go_num, ?_, ?_⟩
        · exact (own_set_int (h := Dg.dg LB (a % LB ^ (i + 1) * 2 ^ s)) (own_set_int (h := fun j => if j = i then Dg.dg LB (a % LB ^ (i + 1) * 2 ^ s) i else Dg.dg LB (a % LB ^ i * 2 ^ s) j) hown e1 (by simp [R.1]) (fun j _ hj => by simp [hj])) e2 R.2.1 (fun j _ hj => by
            by_cases h1 : j = i
            · subst h1; simp
            · simp [h1]; exact R.2.2.2 j h1 hj)).drew
        · exact ((hbel.setCell hg _).setCell hg _).drew
      case measure => simp [intOf]; omega
    · obtain rfl : i = n := by omega
      go_wp2
      go_ret
      have h := hown
      rw [Nat.mod_eq_of_lt HAL.out] at h
      exact ⟨g, rfl, hg, h, hbel⟩
end Go.Proofs.YtbmhiejggkdnkaaGreatDoor
