/- Sums, differences and products digit by digit: plain arithmetic, no program in sight. -/
import Derived.Test.YtbmhiejggkdnkaaGreatDoorDig
namespace Go.Proofs.YtbmhiejggkdnkaaGreatDoor.Dg

/-! ### sums -/
/-- The carry into place i. -/
def cy (B a b i : Nat) : Nat := (a % B ^ i + b % B ^ i) / B ^ i

theorem cy_zero (B a b : Nat) : cy B a b 0 = 0 := by simp [cy, Nat.mod_one]

theorem cy_le {B : Nat} (hB : 0 < B) (a b i : Nat) : cy B a b i ≤ 1 := by
  unfold cy
  have hp : 0 < B ^ i := Nat.pow_pos hB
  have h1 := Nat.mod_lt a hp
  have h2 := Nat.mod_lt b hp
  have : (a % B ^ i + b % B ^ i) / B ^ i < 2 := by rw [Nat.div_lt_iff_lt_mul hp]; omega
  omega

theorem add_div_pow (B a b i : Nat) (hB : 0 < B) : (a + b) / B ^ i = a / B ^ i + b / B ^ i + cy B a b i := by
  unfold cy
  have hp : 0 < B ^ i := Nat.pow_pos hB
  have e1 := Nat.mod_add_div a (B ^ i)
  have e2 := Nat.mod_add_div b (B ^ i)
  have e : a + b = (a % B ^ i + b % B ^ i) + B ^ i * (a / B ^ i + b / B ^ i) := by
    rw [Nat.mul_add]; omega
  have e3 := Nat.add_mul_div_left (a % B ^ i + b % B ^ i) (a / B ^ i + b / B ^ i) hp
  rw [e, e3]
  omega

theorem cy_step (B a b i : Nat) (hB : 0 < B) :
    dg B (a + b) i = (dg B a i + dg B b i + cy B a b i) % B ∧ cy B a b (i + 1) = (dg B a i + dg B b i + cy B a b i) / B := by
  have hp : 0 < B ^ i := Nat.pow_pos hB
  constructor
  · show (a + b) / B ^ i % B = (a / B ^ i % B + b / B ^ i % B + cy B a b i) % B
    rw [add_div_pow B a b i hB]
    simp [Nat.add_mod]
  · have e : cy B a b (i + 1) = (a % B ^ (i + 1) + b % B ^ (i + 1)) / B ^ (i + 1) := rfl
    rw [e, mod_succ, mod_succ, Nat.pow_succ, ← Nat.div_div_eq_div_mul]
    congr 1
    have : a % B ^ i + B ^ i * dg B a i + (b % B ^ i + B ^ i * dg B b i) = (a % B ^ i + b % B ^ i) + B ^ i * (dg B a i + dg B b i) := by
      rw [Nat.mul_add]; omega
    rw [this, Nat.add_mul_div_left _ _ hp]
    unfold cy; omega

/-! ### differences -/
/-- The borrow out of place i. -/
def bw (B a b i : Nat) : Nat := if a % B ^ i < b % B ^ i then 1 else 0

theorem bw_zero (B a b : Nat) : bw B a b 0 = 0 := by simp [bw, Nat.mod_one]
theorem bw_le (B a b i : Nat) : bw B a b i ≤ 1 := by unfold bw; split <;> omega

/-- The difference modulo a power. -/
theorem sub_step (B a b i : Nat) (hB : 0 < B) :
    bw B a b (i + 1) = (if dg B a i < dg B b i + bw B a b i then 1 else 0) := by
  unfold bw
  rw [mod_succ, mod_succ]
  have hp : 0 < B ^ i := Nat.pow_pos hB
  have h1 := Nat.mod_lt a hp
  have h2 := Nat.mod_lt b hp
  generalize a % B ^ i = x at *
  generalize b % B ^ i = y at *
  generalize dg B a i = s
  generalize dg B b i = t
  generalize B ^ i = p at *
  by_cases hxy : x < y
  · rw [if_pos hxy]
    by_cases hst : s < t + 1
    · rw [if_pos hst, if_pos]
      have : p * s ≤ p * t := Nat.mul_le_mul_left _ (by omega)
      omega
    · rw [if_neg hst, if_neg]
      have h3 : p * t + p ≤ p * s := by rw [← Nat.mul_succ]; exact Nat.mul_le_mul_left _ (by omega)
      omega
  · rw [if_neg hxy]
    by_cases hst : s < t + 0
    · rw [if_pos hst, if_pos]
      have h3 : p * s + p ≤ p * t := by rw [← Nat.mul_succ]; exact Nat.mul_le_mul_left _ (by omega)
      omega
    · rw [if_neg hst, if_neg]
      have : p * t ≤ p * s := Nat.mul_le_mul_left _ (by omega)
      omega

theorem dg_sub (B a b i : Nat) (hB : 0 < B) (h : b ≤ a) :
    dg B (a - b) i = (dg B a i + B - dg B b i - bw B a b i) % B := by
  -- a = b + (a - b): the digits of a sum
  obtain ⟨c, rfl⟩ : ∃ c, a = b + c := ⟨a - b, by omega⟩
  rw [Nat.add_sub_cancel_left]
  have hp : 0 < B ^ i := Nat.pow_pos hB
  have e1 := (cy_step B b c i hB).1
  have hc := cy_le hB b c i
  have hb := dg_lt hB b i
  have hcd := dg_lt hB c i
  -- the borrow is the carry
  have e2 : bw B (b + c) b i = cy B b c i := by
    unfold bw cy
    have h1 := Nat.mod_lt b hp
    have h2 := Nat.mod_lt c hp
    rw [Nat.add_mod]
    by_cases hlt : b % B ^ i + c % B ^ i < B ^ i
    · rw [Nat.mod_eq_of_lt hlt, Nat.div_eq_of_lt hlt, if_neg (Nat.not_lt.2 (Nat.le_add_right _ _))]
    · have e3 : (b % B ^ i + c % B ^ i) % B ^ i = b % B ^ i + c % B ^ i - B ^ i := by
        rw [Nat.mod_eq_sub_mod (by omega), Nat.mod_eq_of_lt (by omega)]
      have e4 : (b % B ^ i + c % B ^ i) / B ^ i = 1 := by
        rw [Nat.div_eq_sub_div hp (by omega), Nat.div_eq_of_lt (by omega)]
      rw [e3, e4, if_pos (by omega)]
  rw [e2, e1]
  generalize cy B b c i = k at *
  generalize dg B b i = x at *
  generalize dg B c i = y at *
  by_cases hlt : x + y + k < B
  · rw [Nat.mod_eq_of_lt hlt]
    have : x + y + k + B - x - k = y + B := by omega
    rw [this, Nat.add_mod_right, Nat.mod_eq_of_lt hcd]
  · have e5 : (x + y + k) % B = x + y + k - B := by
      rw [Nat.mod_eq_sub_mod (by omega), Nat.mod_eq_of_lt (by omega)]
    rw [e5]
    have : x + y + k - B + B - x - k = y := by omega
    rw [this, Nat.mod_eq_of_lt hcd]

/-! ### one digit of a row set anew -/
theorem vf_set (B : Nat) (f g : Nat → Nat) (j : Nat) : ∀ {n : Nat}, j < n → (∀ i, i < n → i ≠ j → g i = f i) → vf B g n + B ^ j * f j = vf B f n + B ^ j * g j
  | 0, h, _ => by omega
  | n + 1, h, he => by
    show vf B g n + B ^ n * g n + B ^ j * f j = vf B f n + B ^ n * f n + B ^ j * g j
    by_cases e : j = n
    · subst e
      rw [vf_congr (B := B) (f := g) (g := f) (n := j) fun i hi => he i (by omega) (by omega)]
      omega
    · have := vf_set B f g j (n := n) (by omega) fun i hi hne => he i (by omega) hne
      rw [he n (by omega) (by omega)]
      omega

theorem vf_split (B : Nat) (f : Nat → Nat) (n : Nat) : ∀ m, vf B f (n + m) = vf B f n + B ^ n * vf B (fun j => f (n + j)) m
  | 0 => by simp [vf]
  | m + 1 => by
    show vf B f (n + m) + B ^ (n + m) * f (n + m) = vf B f n + B ^ n * (vf B (fun j => f (n + j)) m + B ^ m * f (n + m))
    rw [vf_split B f n m, Nat.mul_add, Nat.pow_add, Nat.mul_assoc]
    omega

theorem vf_zero {B : Nat} {f : Nat → Nat} : ∀ {n : Nat}, (∀ j, j < n → f j = 0) → vf B f n = 0
  | 0, _ => rfl
  | n + 1, h => by
    show vf B f n + B ^ n * f n = 0
    rw [vf_zero fun j hj => h j (by omega), h n (by omega)]; simp

theorem vf_le_pow {B : Nat} {f : Nat → Nat} {n j : Nat} (h : j < n) : B ^ j * f j ≤ vf B f n := by
  induction n with
  | zero => omega
  | succ n ih =>
    show _ ≤ vf B f n + B ^ n * f n
    by_cases e : j = n
    · subst e; omega
    · have := ih (by omega); omega

/-- A row is told by its value. -/
theorem eq_dg_of_vf {B v n : Nat} {f : Nat → Nat} (hB : 0 < B) (hf : ∀ j, j < n → f j < B) (h : vf B f n = v) : ∀ j, j < n → f j = dg B v j := by
  intro j hj; subst h; exact (dg_vf hB hf j hj).symm

end Go.Proofs.YtbmhiejggkdnkaaGreatDoor.Dg
