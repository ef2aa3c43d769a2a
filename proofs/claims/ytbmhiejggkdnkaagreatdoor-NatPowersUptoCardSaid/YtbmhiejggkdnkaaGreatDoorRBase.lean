/- The reference's numbers: digits to the base 65536, in cells of 64 bits. -/
import Derived.Test.YtbmhiejggkdnkaaGreatDoorForm
namespace Go.Proofs.YtbmhiejggkdnkaaGreatDoor
open Go.RowKit

def DB : Nat := 65536
theorem DB_eq : DB = 65536 := rfl
theorem DB2 : 2 ≤ DB := by rw [DB_eq]; omega
theorem DBpos : 0 < DB := by rw [DB_eq]; omega

theorem info64 : (Tryz.prog.info? 30).map (fun i => (i.zero, i.size, i.bytes)) = some (some (.int .u64 0), 1, 8) := by kernel_rfl

/-- The slice reads as the number v, without noughts above. -/
structure RN (w : World) (ao : Option Addr) (n cap v : Nat) : Prop where
  len : n = Dg.len DB v
  rd : Rd w .u64 ao n cap (Dg.dg DB v)
theorem RN.below {w w' : World} {B : Nat} {ao : Option Addr} {n cap v : Nat} (h : RN w ao n cap v) (hb : Below B w w') (hB : w.heap.size ≤ B) : RN w' ao n cap v := ⟨h.len, h.rd.below hb hB⟩
theorem RN.drewN {w : World} {ao : Option Addr} {n cap v : Nat} (h : RN w ao n cap v) (q : Nat) : RN (w.drewN q) ao n cap v := ⟨h.len, h.rd.drewN q⟩
theorem RN.lt {w : World} {ao : Option Addr} {n cap v : Nat} (h : RN w ao n cap v) : v < DB ^ n := by rw [h.len]; exact Dg.lt_pow_len DB2 v
theorem RN.le {w : World} {ao : Option Addr} {n cap v k : Nat} (h : RN w ao n cap v) (hv : v < DB ^ k) : n ≤ k := by rw [h.len]; exact (Dg.len_le_iff DB2 v k).2 hv

/-- The call answers a slice that reads as v; nothing that was there has changed. -/
def RetRN (w : World) (v : Nat) (e : Ending) (w' : World) : Prop :=
  ∃ ro k cap, e = .returned (.slice ro k cap) ∧ RN w' ro k cap v ∧ Below w.heap.size w w'

theorem tl_dgB {B : Nat} (hB : 2 ≤ B) (v : Nat) : ∀ n, v < B ^ n → tl (Dg.dg B v) n = Dg.len B v
  | 0, h => by
    have : v = 0 := by simpa using h
    subst this
    rw [Dg.len_zero]; rfl
  | n + 1, h => by
    unfold tl
    by_cases h0 : Dg.dg B v n = 0
    · rw [if_pos h0]
      refine tl_dgB hB v n ?_
      have e := Dg.mod_succ B v n
      rw [Nat.mod_eq_of_lt h, h0] at e
      rw [e]
      simpa using Nat.mod_lt v (Nat.pow_pos (n := n) (show 0 < B by omega))
    · rw [if_neg h0]
      exact (Dg.len_unique hB h (Or.inr (by simp; omega))).symm

/-- A digit raised, where nothing is carried. -/
theorem dg_add_at {B V k x : Nat} (hB : 0 < B) (h : Dg.dg B V k + x < B) (j : Nat) : Dg.dg B (V + x * B ^ k) j = if j = k then Dg.dg B V k + x else Dg.dg B V j := by
  have hp : 0 < B ^ k := Nat.pow_pos hB
  have e1 : (V + x * B ^ k) / B ^ k = V / B ^ k + x := by rw [Nat.mul_comm x, Nat.add_mul_div_left _ _ hp]
  have e2 : V / B ^ k = B * (V / B ^ (k + 1)) + Dg.dg B V k := by
    unfold Dg.dg
    rw [Nat.pow_succ, ← Nat.div_div_eq_div_mul]
    exact (Nat.div_add_mod _ _).symm
  by_cases hj : j = k
  · subst hj
    rw [if_pos rfl]
    show (V + x * B ^ j) / B ^ j % B = _
    rw [e1, e2, Nat.add_assoc, Nat.mul_add_mod, Nat.mod_eq_of_lt h]
  · rw [if_neg hj]
    rcases Nat.lt_or_gt_of_ne hj with h1 | h1
    · obtain ⟨d, rfl⟩ : ∃ d, k = j + 1 + d := ⟨k - (j + 1), by omega⟩
      have e4 : x * B ^ (j + 1 + d) = B ^ j * (B * (x * B ^ d)) := by
        rw [Nat.pow_add, Nat.pow_succ]
        simp only [Nat.mul_comm, Nat.mul_left_comm, Nat.mul_assoc]
      unfold Dg.dg
      rw [e4, Nat.add_mul_div_left _ _ (Nat.pow_pos hB), Nat.add_mul_mod_self_left]
    · obtain ⟨d, rfl⟩ : ∃ d, j = k + 1 + d := ⟨j - (k + 1), by omega⟩
      rw [← Dg.dg_div, ← Dg.dg_div]
      congr 1
      have e5 : (V + x * B ^ k) / B ^ k / B = V / B ^ (k + 1) := by
        rw [e1, e2, Nat.add_assoc, Nat.mul_add_div hB, Nat.div_eq_of_lt h, Nat.add_zero]
      rw [Nat.div_div_eq_div_mul, ← Nat.pow_succ] at e5
      rw [e5]

set_option maxRecDepth 100000 in
theorem rtrim_any (ao : Option Addr) (n cap : Nat) (f : Nat → Nat) (w : World) (hr : Rd w .u64 ao n cap f) :
    Calls Tryz.prog 30 #[.slice ao n cap] w fun e w' => e = .returned (.slice ao (tl f n) cap) ∧ w = w' := by
  have hle := hr.le
  have hcm := hr.cm
  go_enter Tryz.func30, Tryz.ntmps30
  go_wp2
  go_loop [0] (fun v => ∃ m : Nat, m ≤ n ∧ v = .slice ao m cap ∧ tl f m = tl f n) (fun v => slLen v)
  case atStart => exact ⟨n, Nat.le_refl _, rfl, rfl⟩
  case round =>
    obtain ⟨m, hm, rfl, ht⟩ := hrel
    have HT := Lib.hid ht; clear ht
    have hs := hr.sh.mono hm
    by_cases h0 : 0 < m
    · obtain ⟨k, rfl⟩ : ∃ k, m = k + 1 := ⟨m - 1, by omega⟩
      have hc : w.cell? ⟨blk ao, off ao + k, none⟩ = some (.int .u64 (f k : Nat)) := hr.cell _ (by omega)
      go_wp2
      · have hz : ((f k : Int) == 0) = true := by assumption
        have hz' : f k = 0 := by simpa using hz
        go_round
        case rel => exact ⟨k, by omega, rfl, by rw [← HT.out, tl, if_pos hz']⟩
        case measure => simp [slLen]
      · have hz : ((f k : Int) == 0) = false := by assumption
        have hz' : ¬ f k = 0 := by simpa using hz
        go_ret
        exact ⟨ret_slice (by rw [← HT.out, tl, if_neg hz']) rfl, rfl⟩
    · obtain rfl : m = 0 := by omega
      go_wp2
      go_ret
      exact ⟨ret_slice HT.out rfl, rfl⟩

theorem rtrim_num (ao : Option Addr) (n cap v : Nat) (w : World) (hr : Rd w .u64 ao n cap (Dg.dg DB v)) (hv : v < DB ^ n) :
    Calls Tryz.prog 30 #[.slice ao n cap] w fun e w' => ∃ k, e = .returned (.slice ao k cap) ∧ RN w ao k cap v ∧ w = w' :=
  (rtrim_any ao n cap _ w hr).mono fun _ _ ⟨he, hw⟩ => ⟨_, he, ⟨tl_dgB DB2 v n hv, hr.take (tl_le _ _)⟩, hw⟩
end Go.Proofs.YtbmhiejggkdnkaaGreatDoor
