/- Dig DigOps DivPlain, in one text. -/
/- Digits of natural numbers: plain arithmetic, no program in sight. -/
namespace Go.Proofs.YtaggpodckafbgaaGreatDoor.Dg
def dg (B v j : Nat) : Nat := v / B ^ j % B
theorem dg_lt {B : Nat} (hB : 0 < B) (v j : Nat) : dg B v j < B := Nat.mod_lt _ hB
theorem mod_succ (B v i : Nat) : v % B ^ (i + 1) = v % B ^ i + B ^ i * dg B v i := by
  unfold dg
  rw [Nat.pow_succ, Nat.mod_mul]
theorem dg_zero (B j : Nat) : dg B 0 j = 0 := by simp [dg]
theorem dg_of_lt {B v i : Nat} (h : v < B ^ i) : dg B v i = 0 := by
  unfold dg; rw [Nat.div_eq_of_lt h]; exact Nat.zero_mod _
theorem dg_of_lt_le {B v i j : Nat} (hB : 0 < B) (h : v < B ^ i) (hj : i ≤ j) : dg B v j = 0 :=
  dg_of_lt (Nat.lt_of_lt_of_le h (Nat.pow_le_pow_right hB hj))
theorem ext {B v u : Nat} (n : Nat) (hv : v < B ^ n) (hu : u < B ^ n) (h : ∀ j, j < n → dg B v j = dg B u j) : v = u := by
  have key : ∀ i, i ≤ n → v % B ^ i = u % B ^ i := by
    intro i
    induction i with
    | zero => intro _; simp [Nat.mod_one]
    | succ i ih => intro hi; rw [mod_succ, mod_succ, ih (by omega), h i (by omega)]
  have := key n (Nat.le_refl n)
  rwa [Nat.mod_eq_of_lt hv, Nat.mod_eq_of_lt hu] at this
def vf (B : Nat) (f : Nat → Nat) : Nat → Nat
  | 0 => 0
  | n + 1 => vf B f n + B ^ n * f n
theorem vf_congr {B : Nat} {f g : Nat → Nat} : ∀ {n : Nat}, (∀ j, j < n → f j = g j) → vf B f n = vf B g n
  | 0, _ => rfl
  | n + 1, h => by
    have hr : ∀ j, j < n → f j = g j := fun j hj => h j (Nat.lt_succ_of_lt hj)
    show vf B f n + B ^ n * f n = vf B g n + B ^ n * g n
    rw [vf_congr hr, h n (Nat.lt_succ_self n)]
theorem vf_dg (B v : Nat) : ∀ n, vf B (dg B v) n = v % B ^ n
  | 0 => by simp [vf, Nat.mod_one]
  | n + 1 => by show vf B (dg B v) n + _ = _; rw [vf_dg B v n, mod_succ]
theorem vf_dg_of_lt {B v n : Nat} (h : v < B ^ n) : vf B (dg B v) n = v := by rw [vf_dg, Nat.mod_eq_of_lt h]
def len (B : Nat) (v : Nat) : Nat :=
  if h : v = 0 ∨ B < 2 then 0 else len B (v / B) + 1
termination_by v
decreasing_by exact Nat.div_lt_self (by omega) (by omega)
theorem len_zero (B : Nat) : len B 0 = 0 := by rw [len]; simp
theorem len_pos {B v : Nat} (hB : 2 ≤ B) (hv : 0 < v) : len B v = len B (v / B) + 1 := by
  rw [len, dif_neg (by omega)]
theorem lt_pow_len {B : Nat} (hB : 2 ≤ B) (v : Nat) : v < B ^ len B v := by
  induction v using Nat.strongRecOn with
  | _ v ih =>
    by_cases h : v = 0
    · subst h; simp [len_zero]
    · rw [len_pos hB (by omega)]
      have := ih (v / B) (Nat.div_lt_self (by omega) (by omega))
      rw [Nat.pow_succ]
      exact (Nat.div_lt_iff_lt_mul (by omega)).1 this
theorem pow_len_le {B : Nat} (hB : 2 ≤ B) (v : Nat) (hv : 0 < v) : B ^ (len B v - 1) ≤ v := by
  induction v using Nat.strongRecOn with
  | _ v ih =>
    rw [len_pos hB hv, Nat.add_sub_cancel]
    by_cases h : v / B = 0
    · rw [h, len_zero]; show 1 ≤ v; omega
    · have hq : 0 < v / B := Nat.pos_of_ne_zero h
      have h1 := ih (v / B) (Nat.div_lt_self (by omega) (by omega)) hq
      have hl : 0 < len B (v / B) := by rw [len_pos hB hq]; omega
      have e : B ^ len B (v / B) = B ^ (len B (v / B) - 1) * B := by
        rw [← Nat.pow_succ]; congr 1; omega
      rw [e]
      exact (Nat.le_div_iff_mul_le (by omega)).1 h1
theorem len_le_iff {B : Nat} (hB : 2 ≤ B) (v n : Nat) : len B v ≤ n ↔ v < B ^ n := by
  constructor
  · intro h; exact Nat.lt_of_lt_of_le (lt_pow_len hB v) (Nat.pow_le_pow_right (by omega) h)
  · intro h
    by_cases hv : v = 0
    · subst hv; rw [len_zero]; omega
    · have h1 := pow_len_le hB v (by omega)
      have : B ^ (len B v - 1) < B ^ n := Nat.lt_of_le_of_lt h1 h
      have := (Nat.pow_lt_pow_iff_right (by omega : 1 < B)).1 this
      omega
theorem lt_len_iff {B : Nat} (hB : 2 ≤ B) (v n : Nat) : n < len B v ↔ B ^ n ≤ v := by
  have := len_le_iff hB v n
  omega
theorem len_pos_iff {B : Nat} (hB : 2 ≤ B) (v : Nat) : 0 < len B v ↔ 0 < v := by
  rw [lt_len_iff hB]; simp; omega
theorem len_unique {B : Nat} (hB : 2 ≤ B) {v n : Nat} (h1 : v < B ^ n) (h2 : n = 0 ∨ 0 < dg B v (n - 1)) : len B v = n := by
  have h := (len_le_iff hB v n).2 h1
  rcases h2 with h2 | h2
  · omega
  · by_cases hn : n = 0
    · omega
    · have : n - 1 < len B v := by
        rcases Nat.lt_or_ge (n - 1) (len B v) with h | h
        · exact h
        · have := dg_of_lt_le (by omega) (lt_pow_len hB v) h
          omega
      omega
theorem len_mono {B : Nat} (hB : 2 ≤ B) {u v : Nat} (h : u ≤ v) : len B u ≤ len B v :=
  (len_le_iff hB u _).2 (Nat.lt_of_le_of_lt h (lt_pow_len hB v))
theorem eq_zero_of_len {B : Nat} (hB : 2 ≤ B) {v : Nat} (h : len B v = 0) : v = 0 := by
  have := len_pos_iff hB v; omega
theorem dg_mod {B v i j : Nat} (h : j < i) : dg B (v % B ^ i) j = dg B v j := by
  unfold dg
  obtain ⟨d, rfl⟩ : ∃ d, i = j + (d + 1) := ⟨i - j - 1, by omega⟩
  rw [Nat.pow_add, Nat.mod_mul_right_div_self, Nat.pow_succ, Nat.mul_comm (B ^ d) B, Nat.mod_mul_right_mod]
theorem dg_div (B v i j : Nat) : dg B (v / B ^ i) j = dg B v (i + j) := by
  unfold dg
  rw [Nat.div_div_eq_div_mul, ← Nat.pow_add]
theorem lt_of_dg {B u v n i : Nat} (hB : 0 < B) (hu : u < B ^ n) (hv : v < B ^ n) (hi : i < n) (he : ∀ j, i < j → j < n → dg B u j = dg B v j) (hlt : dg B u i < dg B v i) : u < v := by
  have key : ∀ m, i < m → m ≤ n → u % B ^ m < v % B ^ m := by
    intro m
    induction m with
    | zero => intro h; omega
    | succ m ih =>
      intro h1 h2
      rw [mod_succ, mod_succ]
      by_cases e : m = i
      · subst e
        have h3 : u % B ^ m < B ^ m := Nat.mod_lt _ (Nat.pow_pos hB)
        have h3' : u % B ^ m < B ^ m := h3
        have h5 : v % B ^ m < B ^ m := Nat.mod_lt _ (Nat.pow_pos hB)
        have h4 : B ^ m * dg B u m + B ^ m ≤ B ^ m * dg B v m := by
          rw [← Nat.mul_succ]; exact Nat.mul_le_mul_left _ hlt
        generalize B ^ m * dg B u m = x at *
        generalize B ^ m * dg B v m = y at *
        generalize u % B ^ m = x' at *
        generalize v % B ^ m = y' at *
        omega
      · rw [he m (by omega) (by omega)]
        have := ih (by omega) (by omega)
        omega
  have := key n hi (Nat.le_refl n)
  rwa [Nat.mod_eq_of_lt hu, Nat.mod_eq_of_lt hv] at this
theorem lt_of_len {B u v : Nat} (hB : 2 ≤ B) (h : len B u < len B v) : u < v := by
  rcases Nat.lt_or_ge u v with h1 | h1
  · exact h1
  · have := len_mono hB h1; omega
end Go.Proofs.YtaggpodckafbgaaGreatDoor.Dg
/- Sums, differences and products digit by digit: plain arithmetic, no program in sight. -/
namespace Go.Proofs.YtaggpodckafbgaaGreatDoor.Dg
/-! ### sums -/
def cy (B a b i : Nat) : Nat := (a % B ^ i + b % B ^ i) / B ^ i
theorem cy_zero (B a b : Nat) : cy B a b 0 = 0 := by simp [cy, Nat.mod_one]
theorem cy_le {B : Nat} (hB : 0 < B) (a b i : Nat) : cy B a b i ≤ 1 := by
  unfold cy
  have hp : 0 < B ^ i := Nat.pow_pos hB
  have h1 := Nat.mod_lt a hp
  have h2 := Nat.mod_lt b hp
  have : (a % B ^ i + b % B ^ i) / B ^ i < 2 := by rw [Nat.div_lt_iff_lt_mul hp]; omega
  omega
theorem add_div_pow (B a b i : Nat) (hB : 0 < B) : (a + b) / B ^ i = a / B ^ i + b / B ^ i + cy B a b i := by
  unfold cy
  have hp : 0 < B ^ i := Nat.pow_pos hB
  have e1 := Nat.mod_add_div a (B ^ i)
  have e2 := Nat.mod_add_div b (B ^ i)
  have e : a + b = (a % B ^ i + b % B ^ i) + B ^ i * (a / B ^ i + b / B ^ i) := by
    rw [Nat.mul_add]; omega
  have e3 := Nat.add_mul_div_left (a % B ^ i + b % B ^ i) (a / B ^ i + b / B ^ i) hp
  rw [e, e3]
  omega
theorem cy_step (B a b i : Nat) (hB : 0 < B) :
    dg B (a + b) i = (dg B a i + dg B b i + cy B a b i) % B ∧ cy B a b (i + 1) = (dg B a i + dg B b i + cy B a b i) / B := by
  have hp : 0 < B ^ i := Nat.pow_pos hB
  constructor
  · show (a + b) / B ^ i % B = (a / B ^ i % B + b / B ^ i % B + cy B a b i) % B
    rw [add_div_pow B a b i hB]
    simp [Nat.add_mod]
  · have e : cy B a b (i + 1) = (a % B ^ (i + 1) + b % B ^ (i + 1)) / B ^ (i + 1) := rfl
    rw [e, mod_succ, mod_succ, Nat.pow_succ, ← Nat.div_div_eq_div_mul]
    congr 1
    have : a % B ^ i + B ^ i * dg B a i + (b % B ^ i + B ^ i * dg B b i) = (a % B ^ i + b % B ^ i) + B ^ i * (dg B a i + dg B b i) := by
      rw [Nat.mul_add]; omega
    rw [this, Nat.add_mul_div_left _ _ hp]
    unfold cy; omega
/-! ### differences -/
def bw (B a b i : Nat) : Nat := if a % B ^ i < b % B ^ i then 1 else 0
theorem bw_zero (B a b : Nat) : bw B a b 0 = 0 := by simp [bw, Nat.mod_one]
theorem sub_step (B a b i : Nat) (hB : 0 < B) :
    bw B a b (i + 1) = (if dg B a i < dg B b i + bw B a b i then 1 else 0) := by
  unfold bw
  rw [mod_succ, mod_succ]
  have hp : 0 < B ^ i := Nat.pow_pos hB
  have h1 := Nat.mod_lt a hp
  have h2 := Nat.mod_lt b hp
  generalize a % B ^ i = x at *
  generalize b % B ^ i = y at *
  generalize dg B a i = s
  generalize dg B b i = t
  generalize B ^ i = p at *
  by_cases hxy : x < y
  · rw [if_pos hxy]
    by_cases hst : s < t + 1
    · rw [if_pos hst, if_pos]
      have : p * s ≤ p * t := Nat.mul_le_mul_left _ (by omega)
      omega
    · rw [if_neg hst, if_neg]
      have h3 : p * t + p ≤ p * s := by rw [← Nat.mul_succ]; exact Nat.mul_le_mul_left _ (by omega)
      omega
  · rw [if_neg hxy]
    by_cases hst : s < t + 0
    · rw [if_pos hst, if_pos]
      have h3 : p * s + p ≤ p * t := by rw [← Nat.mul_succ]; exact Nat.mul_le_mul_left _ (by omega)
      omega
    · rw [if_neg hst, if_neg]
      have : p * t ≤ p * s := Nat.mul_le_mul_left _ (by omega)
      omega
theorem dg_sub (B a b i : Nat) (hB : 0 < B) (h : b ≤ a) :
    dg B (a - b) i = (dg B a i + B - dg B b i - bw B a b i) % B := by
  -- a = b + (a - b): the digits of a sum
  obtain ⟨c, rfl⟩ : ∃ c, a = b + c := ⟨a - b, by omega⟩
  rw [Nat.add_sub_cancel_left]
  have hp : 0 < B ^ i := Nat.pow_pos hB
  have e1 := (cy_step B b c i hB).1
  have hc := cy_le hB b c i
  have hb := dg_lt hB b i
  have hcd := dg_lt hB c i
  -- the borrow is the carry
  have e2 : bw B (b + c) b i = cy B b c i := by
    unfold bw cy
    have h1 := Nat.mod_lt b hp
    have h2 := Nat.mod_lt c hp
    rw [Nat.add_mod]
    by_cases hlt : b % B ^ i + c % B ^ i < B ^ i
    · rw [Nat.mod_eq_of_lt hlt, Nat.div_eq_of_lt hlt, if_neg (Nat.not_lt.2 (Nat.le_add_right _ _))]
    · have e3 : (b % B ^ i + c % B ^ i) % B ^ i = b % B ^ i + c % B ^ i - B ^ i := by
        rw [Nat.mod_eq_sub_mod (by omega), Nat.mod_eq_of_lt (by omega)]
      have e4 : (b % B ^ i + c % B ^ i) / B ^ i = 1 := by
        rw [Nat.div_eq_sub_div hp (by omega), Nat.div_eq_of_lt (by omega)]
      rw [e3, e4, if_pos (by omega)]
  rw [e2, e1]
  generalize cy B b c i = k at *
  generalize dg B b i = x at *
  generalize dg B c i = y at *
  by_cases hlt : x + y + k < B
  · rw [Nat.mod_eq_of_lt hlt]
    have : x + y + k + B - x - k = y + B := by omega
    rw [this, Nat.add_mod_right, Nat.mod_eq_of_lt hcd]
  · have e5 : (x + y + k) % B = x + y + k - B := by
      rw [Nat.mod_eq_sub_mod (by omega), Nat.mod_eq_of_lt (by omega)]
    rw [e5]
    have : x + y + k - B + B - x - k = y := by omega
    rw [this, Nat.mod_eq_of_lt hcd]
/-! ### one digit of a row set anew -/
end Go.Proofs.YtaggpodckafbgaaGreatDoor.Dg
/- A quotient, digit by digit: plain arithmetic. -/
namespace Go.Proofs.YtaggpodckafbgaaGreatDoor.Dg
end Go.Proofs.YtaggpodckafbgaaGreatDoor.Dg
