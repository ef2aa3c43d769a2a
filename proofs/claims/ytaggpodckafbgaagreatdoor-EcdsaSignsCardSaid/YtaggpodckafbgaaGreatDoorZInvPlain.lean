/- One step of the extended Euclid: plain. -/
namespace Go.Proofs.YtaggpodckafbgaaGreatDoor

theorem euclid_ident (a m n x y k1 k2 k3 k4 k5 pm qm t u p q r : Int) (e1 : pm = x * a - m * k1) (e2 : p = m * k2 + pm) (e3 : qm = y * a - m * k3) (e4 : q = m * k4 + qm)
    (e5 : t = n * y - m * k5) (e6 : u = x + m - t) (e7 : r = p - q * n) : u * a - r = m * (k1 - k2 + a - n * k3 + n * k4 + k5 * a) := by
  subst e6 e5 e7 e4 e3 e2 e1
  grind

theorem mod_eq_of_dvd_sub {m u a r : Nat} (key : (m : Int) ∣ (u : Int) * a - r) : u * a % m = r % m := by
  have h6 : ((u * a : Nat) : Int) % (m : Int) = (r : Int) % (m : Int) := by
    rw [Int.natCast_mul]
    exact Int.emod_eq_emod_iff_emod_sub_eq_zero.2 (Int.emod_eq_zero_of_dvd key)
  exact_mod_cast h6

theorem euclid_step {a m p q x y n r t u : Nat} (hx : x * a % m = p % m) (hy : y * a % m = q % m) (hn : n = p / q) (hr : r = p % q) (ht : t = n * y % m) (hu : u + t = x + m) :
    u * a % m = r % m := by
  have hp : p = q * n + r := by rw [hn, hr]; exact (Nat.div_add_mod p q).symm
  have h1 := Nat.div_add_mod (x * a) m
  have h2 := Nat.div_add_mod p m
  have h3 := Nat.div_add_mod (y * a) m
  have h4 := Nat.div_add_mod q m
  have h5 := Nat.div_add_mod (n * y) m
  rw [hx] at h1
  rw [hy] at h3
  rw [← ht] at h5
  generalize x * a / m = k1 at *
  generalize p / m = k2 at *
  generalize y * a / m = k3 at *
  generalize q / m = k4 at *
  generalize n * y / m = k5 at *
  generalize p % m = pm at *
  generalize q % m = qm at *
  have e1 : (m : Int) * k1 + pm = x * a := by exact_mod_cast h1
  have e2 : (m : Int) * k2 + pm = p := by exact_mod_cast h2
  have e3 : (m : Int) * k3 + qm = y * a := by exact_mod_cast h3
  have e4 : (m : Int) * k4 + qm = q := by exact_mod_cast h4
  have e5 : (m : Int) * k5 + t = n * y := by exact_mod_cast h5
  have e6 : (u : Int) + t = x + m := by exact_mod_cast hu
  have e7 : (p : Int) = q * n + r := by exact_mod_cast hp
  refine mod_eq_of_dvd_sub ⟨_, euclid_ident a m n x y k1 k2 k3 k4 k5 pm qm t u p q r ?_ e2.symm ?_ e4.symm ?_ ?_ ?_⟩
  · rw [← e1]; omega
  · rw [← e3]; omega
  · rw [← e5]; omega
  · rw [← e6]; omega
  · rw [e7]; omega

/-- A unit modulo m and the greatest common divisor. -/
theorem gcd_step (p q : Nat) : Nat.gcd q (p % q) = Nat.gcd p q := by rw [Nat.gcd_comm p q, Nat.gcd_rec q p, Nat.gcd_comm]
end Go.Proofs.YtaggpodckafbgaaGreatDoor
