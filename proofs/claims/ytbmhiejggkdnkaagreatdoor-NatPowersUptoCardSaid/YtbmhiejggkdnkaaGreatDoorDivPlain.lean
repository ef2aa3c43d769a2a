/- A quotient, digit by digit: plain arithmetic. -/
import Derived.Test.YtbmhiejggkdnkaaGreatDoorDigOps
namespace Go.Proofs.YtbmhiejggkdnkaaGreatDoor.Dg

/-- The guess is not below the digit. -/
theorem guess_ge {B W V n top vt g : Nat} (hB : 0 < B) (hvt : vt = V / B ^ (n - 1)) (hvt0 : 0 < vt) (htop : top = W / B ^ (n - 1)) (hW : W < V * B) (hV : 0 < V) (hg : g = min (top / vt) (B - 1)) : W / V ≤ g ∧ g ≤ B - 1 := by
  have hQ : W / V ≤ B - 1 := by
    have : W / V < B := by rw [Nat.div_lt_iff_lt_mul hV, Nat.mul_comm]; exact hW
    omega
  have hp : 0 < B ^ (n - 1) := Nat.pow_pos hB
  have h1 : W / V * vt ≤ top := by
    rw [htop, Nat.le_div_iff_mul_le hp]
    have h2 : vt * B ^ (n - 1) ≤ V := by rw [hvt]; exact Nat.div_mul_le_self _ _
    calc W / V * vt * B ^ (n - 1) = W / V * (vt * B ^ (n - 1)) := Nat.mul_assoc _ _ _
      _ ≤ W / V * V := Nat.mul_le_mul_left _ h2
      _ ≤ W := Nat.div_mul_le_self _ _
  have h3 : W / V ≤ top / vt := (Nat.le_div_iff_mul_le hvt0).2 h1
  rw [hg]
  exact ⟨Nat.le_min.2 ⟨h3, hQ⟩, Nat.min_le_right _ _⟩

theorem mod_mul_pow (A V B j : Nat) : A % (V * B ^ (j + 1)) % (V * B ^ j) = A % (V * B ^ j) := by
  rw [Nat.pow_succ, ← Nat.mul_assoc, Nat.mod_mul_right_mod]

/-- The digit of the quotient. -/
theorem quo_digit (A V B j : Nat) : A % (V * B ^ (j + 1)) / B ^ j / V = dg B (A / V) j := by
  unfold dg
  rw [Nat.div_div_eq_div_mul, Nat.mul_comm (B ^ j) V, Nat.pow_succ, ← Nat.mul_assoc, Nat.mod_mul_right_div_self, Nat.div_div_eq_div_mul]

/-- What is left behind one digit. -/
theorem rest_digit {A V B j L : Nat} (hB : 0 < B) (hVL : V * B ≤ B ^ L) (i : Nat) :
    (if j ≤ i ∧ i < j + L then dg B (A % (V * B ^ (j + 1)) / B ^ j % V) (i - j) else dg B (A % (V * B ^ (j + 1))) i) = dg B (A % (V * B ^ j)) i := by
  obtain ⟨U, hU⟩ : ∃ U, U = A % (V * B ^ (j + 1)) := ⟨_, rfl⟩
  rw [← hU]
  have hp : 0 < B ^ j := Nat.pow_pos hB
  have e1 : A % (V * B ^ j) = U % B ^ j + B ^ j * (U / B ^ j % V) := by
    rw [← mod_mul_pow A V B j, ← hU, Nat.mul_comm V, Nat.mod_mul]
  by_cases h1 : i < j
  · rw [if_neg (by omega), e1]
    have e2 : dg B (U % B ^ j + B ^ j * (U / B ^ j % V)) i = dg B ((U % B ^ j + B ^ j * (U / B ^ j % V)) % B ^ j) i := (dg_mod h1).symm
    rw [e2, Nat.add_mul_mod_self_left, Nat.mod_mod, dg_mod h1]
  · obtain ⟨t, rfl⟩ : ∃ t, i = j + t := ⟨i - j, by omega⟩
    have e2 : A % (V * B ^ j) / B ^ j = U / B ^ j % V := by
      rw [e1, Nat.add_mul_div_left _ _ hp, Nat.div_eq_of_lt (Nat.mod_lt _ hp), Nat.zero_add]
    have e3 : dg B (A % (V * B ^ j)) (j + t) = dg B (U / B ^ j % V) t := by rw [← dg_div, e2]
    rw [e3, Nat.add_sub_cancel_left]
    by_cases h2 : t < L
    · rw [if_pos (by omega)]
    · rw [if_neg (by omega)]
      have hUl : U / B ^ j < B ^ L ∨ V = 0 := by
        rcases Nat.eq_zero_or_pos V with h | h
        · exact Or.inr h
        · left
          rw [Nat.div_lt_iff_lt_mul hp]
          have h3 : U < V * B ^ (j + 1) := by rw [hU]; exact Nat.mod_lt _ (Nat.mul_pos h (Nat.pow_pos hB))
          refine Nat.lt_of_lt_of_le h3 ?_
          rw [Nat.pow_succ, Nat.mul_comm (B ^ j) B, ← Nat.mul_assoc]
          exact Nat.mul_le_mul_right _ hVL
      rcases hUl with hUl | hV0
      · have h4 : U / B ^ j % V < B ^ L := Nat.lt_of_le_of_lt (Nat.mod_le _ _) hUl
        rw [dg_of_lt_le hB h4 (by omega)]
        have e4 : dg B U (j + t) = dg B (U / B ^ j) t := (dg_div B U j t).symm
        rw [e4, dg_of_lt_le hB hUl (by omega)]
      · subst hV0
        rw [Nat.mod_zero, dg_div]

/-- The digit of the quotient is found where the guess is no longer too great. -/
theorem quo_found {W V g : Nat} (hV : 0 < V) (h1 : W / V ≤ g) (h2 : ¬ W < g * V) : g = W / V := by
  have : g ≤ W / V := (Nat.le_div_iff_mul_le hV).2 (Nat.not_lt.1 h2)
  omega

/-- A remainder shifted back. -/
theorem shift_back {B R s i : Nat} (hB : 0 < B) (h2 : 0 < 2 ^ s) (hBs : ∃ r, B = 2 ^ s * r) :
    (dg B (R * 2 ^ s) (i + 1) * B + dg B (R * 2 ^ s) i) / 2 ^ s % B = dg B R i := by
  obtain ⟨r, hr⟩ := hBs
  have hp : 0 < B ^ i := Nat.pow_pos hB
  -- the two digits together: (R 2^s / B^i) mod B^2
  have e1 : dg B (R * 2 ^ s) (i + 1) * B + dg B (R * 2 ^ s) i = (R * 2 ^ s / B ^ i) % (B * B) := by
    rw [Nat.mod_mul]
    unfold dg
    rw [Nat.pow_succ, ← Nat.div_div_eq_div_mul, Nat.mul_comm _ B]; omega
  obtain ⟨y, hy⟩ : ∃ y, y = R * 2 ^ s / B ^ i := ⟨_, rfl⟩
  rw [e1, ← hy]
  have e2 : y % (B * B) / 2 ^ s % B = y / 2 ^ s % B := by
    have h : B * B = 2 ^ s * (B * r) := by
      have h3 : B * B = B * (2 ^ s * r) := by rw [← hr]
      rw [h3, Nat.mul_left_comm]
    rw [h, Nat.mod_mul_right_div_self, Nat.mod_mul_right_mod]
  rw [e2, hy, Nat.div_div_eq_div_mul, Nat.mul_comm (B ^ i), Nat.mul_comm R, Nat.mul_div_mul_left _ _ h2]
  rfl

end Go.Proofs.YtbmhiejggkdnkaaGreatDoor.Dg
