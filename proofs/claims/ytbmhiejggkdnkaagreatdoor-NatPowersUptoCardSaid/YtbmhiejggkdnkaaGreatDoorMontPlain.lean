/- Montgomery's numbers: plain. -/
import Derived.Test.YtbmhiejggkdnkaaGreatDoorDig
namespace Go.Proofs.YtbmhiejggkdnkaaGreatDoor

/-- The next k, modulo N. -/
def nextK (m k N : Nat) : Nat := k * ((2 + m * k) % N) % N

theorem dvd_step {m k M N : Nat} (hN : M * M ∣ N) (h : M ∣ m * k + 1) : M * M ∣ m * nextK m k N + 1 := by
  -- m k' ≡ m k (2 + m k) ≡ e e - 1 modulo N
  obtain ⟨e, he⟩ := h
  obtain ⟨r, hr⟩ := hN
  have h1 : nextK m k N % N = k * (2 + m * k) % N := by
    unfold nextK
    rw [Nat.mod_mod, Nat.mul_mod_mod]
  have h2 := Nat.div_add_mod (k * (2 + m * k)) N
  have h3 := Nat.div_add_mod (nextK m k N) N
  rw [h1] at h3
  generalize k * (2 + m * k) / N = q1 at *
  generalize nextK m k N / N = q2 at *
  generalize nextK m k N = k' at *
  generalize hx : k * (2 + m * k) % N = x at *
  have key : ((M * M : Nat) : Int) ∣ ((m * k' + 1 : Nat) : Int) := by
    refine ⟨(e : Int) * e + m * r * q2 - m * r * q1, ?_⟩
    have e1 : (N : Int) = M * M * r := by exact_mod_cast hr
    have e2 : (N : Int) * q1 + x = k * (2 + m * k) := by exact_mod_cast h2
    have e3 : (N : Int) * q2 + x = k' := by exact_mod_cast h3
    have e4 : (m : Int) * k + 1 = M * e := by exact_mod_cast he
    push_cast
    have e5 : (x : Int) = k * (2 + m * k) - M * M * r * q1 := by rw [← e1]; omega
    have e6 : (k' : Int) = M * M * r * q2 + x := by rw [← e3, e1]
    have e7 : (m : Int) * (k * (2 + m * k)) + 1 = (M * e) * (M * e) := by
      rw [← e4]; grind
    rw [e6, e5]
    generalize (k : Int) * (2 + m * k) = y at *
    have e8 : (m : Int) * y = M * e * (M * e) - 1 := by omega
    have e9 : (m : Int) * (M * M * r * q2 + (y - M * M * r * q1)) + 1 = m * (M * M * r * q2 - M * M * r * q1) + m * y + 1 := by grind
    rw [e9, e8]
    grind
  exact_mod_cast key

/-- 2, 4, 16, 256, .. -/
def MM : Nat → Nat
  | 0 => 2
  | i + 1 => MM i * MM i
theorem MM_dvd : ∀ i, i ≤ 4 → MM i * MM i ∣ 4294967296
  | 0, _ => by decide
  | 1, _ => by decide
  | 2, _ => by decide
  | 3, _ => by decide
  | 4, _ => by decide
  | n + 5, h => by omega

theorem odd_dvd {m : Nat} (h : m % 2 = 1) : 2 ∣ m * 1 + 1 := by omega

end Go.Proofs.YtbmhiejggkdnkaaGreatDoor
