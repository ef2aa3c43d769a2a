/- Powers: plain. -/
import Derived.Test.YtbmhiejggkdnkaaGreatDoorPow
namespace Go.Proofs.YtbmhiejggkdnkaaGreatDoor
open Go.RowKit

/-- A bit of a number, out of its digit. -/
theorem bit_fact {e z i : Nat} (hz : z = Dg.dg LB e (i / 32)) : bits BinOp.and IntKind.u32 ((z : Int) / 2 ^ (i % 32)) 1 = ((e / 2 ^ i % 2 : Nat) : Int) := by
  have hzl : z < 4294967296 := by rw [hz]; exact Dg.dg_lt LBpos e _
  have h1 : ((z : Int) / 2 ^ (i % 32)) = ((z / 2 ^ (i % 32) : Nat) : Int) := by simp
  rw [h1, and_one_u32 _ (Nat.lt_of_le_of_lt (Nat.div_le_self _ _) hzl)]
  congr 1
  have hs : i % 32 < 32 := Nat.mod_lt _ (by omega)
  have e1 : 2 ^ i = LB ^ (i / 32) * 2 ^ (i % 32) := by
    rw [show LB = 2 ^ 32 from rfl, ← Nat.pow_mul, ← Nat.pow_add, Nat.div_add_mod]
  rw [e1, ← Nat.div_div_eq_div_mul]
  unfold Dg.dg at hz
  generalize e / LB ^ (i / 32) = y at *
  generalize i % 32 = s at *
  have e2 : LB = 2 ^ s * (2 * 2 ^ (31 - s)) := by
    rw [show 2 * 2 ^ (31 - s) = 2 ^ (31 - s + 1) from by rw [Nat.pow_succ, Nat.mul_comm], ← Nat.pow_add, show s + (31 - s + 1) = 32 from by omega]; rfl
  have e3 : y = z + 2 ^ s * (2 * 2 ^ (31 - s) * (y / LB)) := by
    rw [← Nat.mul_assoc, ← e2, hz]; exact (Nat.mod_add_div y LB).symm
  rw [e3, Nat.add_mul_div_left _ _ (Nat.pow_pos (by omega)), Nat.mul_assoc, Nat.add_mul_mod_self_left]

theorem half_eq (e i : Nat) : e / 2 ^ i = 2 * (e / 2 ^ (i + 1)) + e / 2 ^ i % 2 := by
  rw [Nat.pow_succ, ← Nat.div_div_eq_div_mul]
  exact (Nat.div_add_mod _ _).symm

theorem pow_sq (a E m : Nat) : a ^ E % m * (a ^ E % m) % m = a ^ (2 * E) % m := by
  rw [← Nat.mul_mod, ← Nat.pow_add, Nat.two_mul]
theorem pow_sq_one (a E m : Nat) : a ^ (2 * E) % m * (a % m) % m = a ^ (2 * E + 1) % m := by
  rw [← Nat.mul_mod, Nat.pow_succ]

theorem cancel {m R x y : Nat} (h : Nat.Coprime m R) (e : x * R % m = y * R % m) (hx : x < m) (hy : y < m) : x = y := by
  have key : ∀ x y : Nat, x ≤ y → y < m → x * R % m = y * R % m → x = y := fun x y hxy hy e => by
    have h1 := Nat.sub_mod_eq_zero_of_mod_eq e.symm
    rw [← Nat.sub_mul] at h1
    have h2 := Nat.Coprime.dvd_of_dvd_mul_right h (Nat.dvd_of_mod_eq_zero h1)
    have h3 := Nat.eq_zero_of_dvd_of_lt h2 (by omega)
    omega
  rcases Nat.le_total x y with h1 | h1
  · exact key x y h1 hy e
  · exact (key y x h1 hx e.symm).symm

theorem odd_coprime {m : Nat} (h : m % 2 = 1) (k : Nat) : Nat.Coprime m (LB ^ k) := by
  have h2 : Nat.Coprime m 2 := by
    unfold Nat.Coprime
    rw [Nat.gcd_comm, Nat.gcd_rec, h, Nat.gcd_comm]
    exact Nat.gcd_one_right 2
  have h3 : Nat.Coprime m LB := by rw [show LB = 2 ^ 32 from rfl]; exact h2.pow_right 32
  exact h3.pow_right k

/-- A product within the numbers that stand R times. -/
theorem mont_mul {m R a x y z E F : Nat} (h : Nat.Coprime m R) (hz : z < m) (hx : x = R * a ^ E % m) (hy : y = R * a ^ F % m) (e : z * R % m = x * y % m) : z = R * a ^ (E + F) % m := by
  refine cancel h ?_ hz (Nat.mod_lt _ (by omega))
  rw [e, hx, hy, ← Nat.mul_mod, Nat.mod_mul_mod, Nat.pow_add]
  congr 1
  grind

theorem mont_back {m R a x z E : Nat} (h : Nat.Coprime m R) (hz : z < m) (hx : x = R * a ^ E % m) (e : z * R % m = x * 1 % m) : z = a ^ E % m := by
  refine cancel h ?_ hz (Nat.mod_lt _ (by omega))
  rw [e, hx, Nat.mul_one, Nat.mod_mod, Nat.mod_mul_mod, Nat.mul_comm]
end Go.Proofs.YtbmhiejggkdnkaaGreatDoor
