/- Dig DigOps DivPlain InvPlain, in one text. -/
/- Digits of natural numbers: plain arithmetic, no program in sight. -/
namespace Go.Proofs.YtjkjlbchbbpmaaaGreatDoor.Dg

/-- The j-th digit of v to the base B. -/
def dg (B v j : Nat) : Nat := v / B ^ j % B

theorem dg_lt {B : Nat} (hB : 0 < B) (v j : Nat) : dg B v j < B := Nat.mod_lt _ hB

theorem mod_succ (B v i : Nat) : v % B ^ (i + 1) = v % B ^ i + B ^ i * dg B v i := by
  unfold dg
  rw [Nat.pow_succ, Nat.mod_mul]

theorem dg_zero (B j : Nat) : dg B 0 j = 0 := by simp [dg]

/-- Beyond a bound all digits are 0. -/
theorem dg_of_lt {B v i : Nat} (h : v < B ^ i) : dg B v i = 0 := by
  unfold dg; rw [Nat.div_eq_of_lt h]; exact Nat.zero_mod _

theorem dg_of_lt_le {B v i j : Nat} (hB : 0 < B) (h : v < B ^ i) (hj : i ≤ j) : dg B v j = 0 :=
  dg_of_lt (Nat.lt_of_lt_of_le h (Nat.pow_le_pow_right hB hj))

/-- Two numbers below a power with the same digits are the same. -/
theorem ext {B v u : Nat} (n : Nat) (hv : v < B ^ n) (hu : u < B ^ n) (h : ∀ j, j < n → dg B v j = dg B u j) : v = u := by
  have key : ∀ i, i ≤ n → v % B ^ i = u % B ^ i := by
    intro i
    induction i with
    | zero => intro _; simp [Nat.mod_one]
    | succ i ih => intro hi; rw [mod_succ, mod_succ, ih (by omega), h i (by omega)]
  have := key n (Nat.le_refl n)
  rwa [Nat.mod_eq_of_lt hv, Nat.mod_eq_of_lt hu] at this

/-- The value of a row of digits, given by a function, of length n. -/
def vf (B : Nat) (f : Nat → Nat) : Nat → Nat
  | 0 => 0
  | n + 1 => vf B f n + B ^ n * f n

theorem vf_congr {B : Nat} {f g : Nat → Nat} : ∀ {n : Nat}, (∀ j, j < n → f j = g j) → vf B f n = vf B g n
  | 0, _ => rfl
  | n + 1, h => by
    have hr : ∀ j, j < n → f j = g j := fun j hj => h j (Nat.lt_succ_of_lt hj)
    show vf B f n + B ^ n * f n = vf B g n + B ^ n * g n
    rw [vf_congr hr, h n (Nat.lt_succ_self n)]

theorem vf_lt {B : Nat} {f : Nat → Nat} (hB : 0 < B) : ∀ {n : Nat}, (∀ j, j < n → f j < B) → vf B f n < B ^ n
  | 0, _ => by simp [vf]
  | n + 1, h => by
    have h1 := vf_lt hB (f := f) (n := n) fun j hj => h j (Nat.lt_succ_of_lt hj)
    have h2 := h n (Nat.lt_succ_self n)
    show vf B f n + B ^ n * f n < B ^ (n + 1)
    rw [Nat.pow_succ]
    have : B ^ n * f n ≤ B ^ n * (B - 1) := Nat.mul_le_mul_left _ (by omega)
    have h3 : B ^ n * (B - 1) + B ^ n = B ^ n * B := by
      have : B - 1 + 1 = B := by omega
      rw [← Nat.mul_succ]; congr 1
    omega

theorem vf_dg (B v : Nat) : ∀ n, vf B (dg B v) n = v % B ^ n
  | 0 => by simp [vf, Nat.mod_one]
  | n + 1 => by show vf B (dg B v) n + _ = _; rw [vf_dg B v n, mod_succ]

theorem vf_dg_of_lt {B v n : Nat} (h : v < B ^ n) : vf B (dg B v) n = v := by rw [vf_dg, Nat.mod_eq_of_lt h]

/-- The digits of a row's value are the row's. -/
theorem dg_vf {B : Nat} {f : Nat → Nat} (hB : 0 < B) : ∀ {n : Nat}, (∀ j, j < n → f j < B) → ∀ j, j < n → dg B (vf B f n) j = f j
  | 0, _, j, hj => by omega
  | n + 1, h, j, hj => by
    have hr : ∀ j, j < n → f j < B := fun j hj => h j (Nat.lt_succ_of_lt hj)
    have hlt := vf_lt hB hr
    have hp : 0 < B ^ n := Nat.pow_pos hB
    show dg B (vf B f n + B ^ n * f n) j = f j
    by_cases e : j = n
    · subst e
      unfold dg
      rw [Nat.add_mul_div_left _ _ hp, Nat.div_eq_of_lt hlt, Nat.zero_add, Nat.mod_eq_of_lt (h j (Nat.lt_succ_self j))]
    · have hjn : j < n := by omega
      have ih := dg_vf hB hr j hjn
      rw [← ih]
      unfold dg
      obtain ⟨d, rfl⟩ : ∃ d, n = j + 1 + d := ⟨n - (j + 1), by omega⟩
      have e2 : B ^ (j + 1 + d) * f (j + 1 + d) = B ^ j * (B * (B ^ d * f (j + 1 + d))) := by
        rw [Nat.pow_add, Nat.pow_succ]; simp only [Nat.mul_assoc]
      rw [e2, Nat.add_mul_div_left _ _ (Nat.pow_pos hB), Nat.add_mul_mod_self_left]

/-- How many digits. -/
def len (B : Nat) (v : Nat) : Nat :=
  if h : v = 0 ∨ B < 2 then 0 else len B (v / B) + 1
termination_by v
decreasing_by exact Nat.div_lt_self (by omega) (by omega)

theorem len_zero (B : Nat) : len B 0 = 0 := by rw [len]; simp
theorem len_pos {B v : Nat} (hB : 2 ≤ B) (hv : 0 < v) : len B v = len B (v / B) + 1 := by
  rw [len, dif_neg (by omega)]

theorem lt_pow_len {B : Nat} (hB : 2 ≤ B) (v : Nat) : v < B ^ len B v := by
  induction v using Nat.strongRecOn with
  | _ v ih =>
    by_cases h : v = 0
    · subst h; simp [len_zero]
    · rw [len_pos hB (by omega)]
      have := ih (v / B) (Nat.div_lt_self (by omega) (by omega))
      rw [Nat.pow_succ]
      exact (Nat.div_lt_iff_lt_mul (by omega)).1 this

theorem pow_len_le {B : Nat} (hB : 2 ≤ B) (v : Nat) (hv : 0 < v) : B ^ (len B v - 1) ≤ v := by
  induction v using Nat.strongRecOn with
  | _ v ih =>
    rw [len_pos hB hv, Nat.add_sub_cancel]
    by_cases h : v / B = 0
    · rw [h, len_zero]; show 1 ≤ v; omega
    · have hq : 0 < v / B := Nat.pos_of_ne_zero h
      have h1 := ih (v / B) (Nat.div_lt_self (by omega) (by omega)) hq
      have hl : 0 < len B (v / B) := by rw [len_pos hB hq]; omega
      have e : B ^ len B (v / B) = B ^ (len B (v / B) - 1) * B := by
        rw [← Nat.pow_succ]; congr 1; omega
      rw [e]
      exact (Nat.le_div_iff_mul_le (by omega)).1 h1

theorem len_le_iff {B : Nat} (hB : 2 ≤ B) (v n : Nat) : len B v ≤ n ↔ v < B ^ n := by
  constructor
  · intro h; exact Nat.lt_of_lt_of_le (lt_pow_len hB v) (Nat.pow_le_pow_right (by omega) h)
  · intro h
    by_cases hv : v = 0
    · subst hv; rw [len_zero]; omega
    · have h1 := pow_len_le hB v (by omega)
      have : B ^ (len B v - 1) < B ^ n := Nat.lt_of_le_of_lt h1 h
      have := (Nat.pow_lt_pow_iff_right (by omega : 1 < B)).1 this
      omega

theorem lt_len_iff {B : Nat} (hB : 2 ≤ B) (v n : Nat) : n < len B v ↔ B ^ n ≤ v := by
  have := len_le_iff hB v n
  omega

theorem len_pos_iff {B : Nat} (hB : 2 ≤ B) (v : Nat) : 0 < len B v ↔ 0 < v := by
  rw [lt_len_iff hB]; simp; omega

/-- The highest digit is not 0. -/
theorem dg_top {B : Nat} (hB : 2 ≤ B) {v : Nat} (hv : 0 < v) : 0 < dg B v (len B v - 1) := by
  unfold dg
  have h1 := pow_len_le hB v hv
  have h2 := lt_pow_len hB v
  have hl := (len_pos_iff hB v).2 hv
  have e : B ^ len B v = B ^ (len B v - 1) * B := by rw [← Nat.pow_succ]; congr 1; omega
  have hp : 0 < B ^ (len B v - 1) := Nat.pow_pos (by omega)
  have h3 : v / B ^ (len B v - 1) < B := by
    rw [Nat.div_lt_iff_lt_mul hp, Nat.mul_comm, ← e]; exact h2
  rw [Nat.mod_eq_of_lt h3]
  exact Nat.div_pos h1 hp

/-- A row whose last digit is not 0 has as many digits as its value. -/
theorem len_vf {B : Nat} {f : Nat → Nat} (hB : 2 ≤ B) {n : Nat} (h : ∀ j, j < n → f j < B) (ht : n = 0 ∨ 0 < f (n - 1)) : len B (vf B f n) = n := by
  have h1 := (len_le_iff hB (vf B f n) n).2 (vf_lt (by omega) h)
  by_cases hn : n = 0
  · omega
  · obtain ⟨m, rfl⟩ : ∃ m, n = m + 1 := ⟨n - 1, by omega⟩
    have hf : 0 < f m := by rcases ht with h | h; omega; simpa using h
    have : B ^ m ≤ vf B f (m + 1) := by
      show B ^ m ≤ vf B f m + B ^ m * f m
      exact Nat.le_trans (Nat.le_mul_of_pos_right _ hf) (Nat.le_add_left _ _)
    have := (lt_len_iff hB _ m).2 this
    omega

/-- The length of a number whose n-th digit and all above are 0, and the one before is not. -/
theorem len_unique {B : Nat} (hB : 2 ≤ B) {v n : Nat} (h1 : v < B ^ n) (h2 : n = 0 ∨ 0 < dg B v (n - 1)) : len B v = n := by
  have h := (len_le_iff hB v n).2 h1
  rcases h2 with h2 | h2
  · omega
  · by_cases hn : n = 0
    · omega
    · have : n - 1 < len B v := by
        rcases Nat.lt_or_ge (n - 1) (len B v) with h | h
        · exact h
        · have := dg_of_lt_le (by omega) (lt_pow_len hB v) h
          omega
      omega

theorem len_mono {B : Nat} (hB : 2 ≤ B) {u v : Nat} (h : u ≤ v) : len B u ≤ len B v :=
  (len_le_iff hB u _).2 (Nat.lt_of_le_of_lt h (lt_pow_len hB v))

theorem eq_zero_of_len {B : Nat} (hB : 2 ≤ B) {v : Nat} (h : len B v = 0) : v = 0 := by
  have := len_pos_iff hB v; omega

/-- Taking digits apart: below and above place i. -/
theorem div_add_mod' (B v i : Nat) : v = v % B ^ i + B ^ i * (v / B ^ i) := (Nat.mod_add_div v (B ^ i)).symm

theorem dg_mod {B v i j : Nat} (h : j < i) : dg B (v % B ^ i) j = dg B v j := by
  unfold dg
  obtain ⟨d, rfl⟩ : ∃ d, i = j + (d + 1) := ⟨i - j - 1, by omega⟩
  rw [Nat.pow_add, Nat.mod_mul_right_div_self, Nat.pow_succ, Nat.mul_comm (B ^ d) B, Nat.mod_mul_right_mod]

theorem dg_div (B v i j : Nat) : dg B (v / B ^ i) j = dg B v (i + j) := by
  unfold dg
  rw [Nat.div_div_eq_div_mul, ← Nat.pow_add]

/-- Order by the highest digit that differs. -/
theorem lt_of_dg {B u v n i : Nat} (hB : 0 < B) (hu : u < B ^ n) (hv : v < B ^ n) (hi : i < n) (he : ∀ j, i < j → j < n → dg B u j = dg B v j) (hlt : dg B u i < dg B v i) : u < v := by
  have key : ∀ m, i < m → m ≤ n → u % B ^ m < v % B ^ m := by
    intro m
    induction m with
    | zero => intro h; omega
    | succ m ih =>
      intro h1 h2
      rw [mod_succ, mod_succ]
      by_cases e : m = i
      · subst e
        have h3 : u % B ^ m < B ^ m := Nat.mod_lt _ (Nat.pow_pos hB)
        have h3' : u % B ^ m < B ^ m := h3
        have h5 : v % B ^ m < B ^ m := Nat.mod_lt _ (Nat.pow_pos hB)
        have h4 : B ^ m * dg B u m + B ^ m ≤ B ^ m * dg B v m := by
          rw [← Nat.mul_succ]; exact Nat.mul_le_mul_left _ hlt
        generalize B ^ m * dg B u m = x at *
        generalize B ^ m * dg B v m = y at *
        generalize u % B ^ m = x' at *
        generalize v % B ^ m = y' at *
        omega
      · rw [he m (by omega) (by omega)]
        have := ih (by omega) (by omega)
        omega
  have := key n hi (Nat.le_refl n)
  rwa [Nat.mod_eq_of_lt hu, Nat.mod_eq_of_lt hv] at this

theorem lt_of_len {B u v : Nat} (hB : 2 ≤ B) (h : len B u < len B v) : u < v := by
  rcases Nat.lt_or_ge u v with h1 | h1
  · exact h1
  · have := len_mono hB h1; omega

end Go.Proofs.YtjkjlbchbbpmaaaGreatDoor.Dg
/- Sums, differences and products digit by digit: plain arithmetic, no program in sight. -/
namespace Go.Proofs.YtjkjlbchbbpmaaaGreatDoor.Dg

/-! ### sums -/
/-- The carry into place i. -/
def cy (B a b i : Nat) : Nat := (a % B ^ i + b % B ^ i) / B ^ i

theorem cy_zero (B a b : Nat) : cy B a b 0 = 0 := by simp [cy, Nat.mod_one]

theorem cy_le {B : Nat} (hB : 0 < B) (a b i : Nat) : cy B a b i ≤ 1 := by
  unfold cy
  have hp : 0 < B ^ i := Nat.pow_pos hB
  have h1 := Nat.mod_lt a hp
  have h2 := Nat.mod_lt b hp
  have : (a % B ^ i + b % B ^ i) / B ^ i < 2 := by rw [Nat.div_lt_iff_lt_mul hp]; omega
  omega

theorem add_div_pow (B a b i : Nat) (hB : 0 < B) : (a + b) / B ^ i = a / B ^ i + b / B ^ i + cy B a b i := by
  unfold cy
  have hp : 0 < B ^ i := Nat.pow_pos hB
  have e1 := Nat.mod_add_div a (B ^ i)
  have e2 := Nat.mod_add_div b (B ^ i)
  have e : a + b = (a % B ^ i + b % B ^ i) + B ^ i * (a / B ^ i + b / B ^ i) := by
    rw [Nat.mul_add]; omega
  have e3 := Nat.add_mul_div_left (a % B ^ i + b % B ^ i) (a / B ^ i + b / B ^ i) hp
  rw [e, e3]
  omega

theorem cy_step (B a b i : Nat) (hB : 0 < B) :
    dg B (a + b) i = (dg B a i + dg B b i + cy B a b i) % B ∧ cy B a b (i + 1) = (dg B a i + dg B b i + cy B a b i) / B := by
  have hp : 0 < B ^ i := Nat.pow_pos hB
  constructor
  · show (a + b) / B ^ i % B = (a / B ^ i % B + b / B ^ i % B + cy B a b i) % B
    rw [add_div_pow B a b i hB]
    simp [Nat.add_mod]
  · have e : cy B a b (i + 1) = (a % B ^ (i + 1) + b % B ^ (i + 1)) / B ^ (i + 1) := rfl
    rw [e, mod_succ, mod_succ, Nat.pow_succ, ← Nat.div_div_eq_div_mul]
    congr 1
    have : a % B ^ i + B ^ i * dg B a i + (b % B ^ i + B ^ i * dg B b i) = (a % B ^ i + b % B ^ i) + B ^ i * (dg B a i + dg B b i) := by
      rw [Nat.mul_add]; omega
    rw [this, Nat.add_mul_div_left _ _ hp]
    unfold cy; omega

/-! ### differences -/
/-- The borrow out of place i. -/
def bw (B a b i : Nat) : Nat := if a % B ^ i < b % B ^ i then 1 else 0

theorem bw_zero (B a b : Nat) : bw B a b 0 = 0 := by simp [bw, Nat.mod_one]
theorem bw_le (B a b i : Nat) : bw B a b i ≤ 1 := by unfold bw; split <;> omega

/-- The difference modulo a power. -/
theorem sub_step (B a b i : Nat) (hB : 0 < B) :
    bw B a b (i + 1) = (if dg B a i < dg B b i + bw B a b i then 1 else 0) := by
  unfold bw
  rw [mod_succ, mod_succ]
  have hp : 0 < B ^ i := Nat.pow_pos hB
  have h1 := Nat.mod_lt a hp
  have h2 := Nat.mod_lt b hp
  generalize a % B ^ i = x at *
  generalize b % B ^ i = y at *
  generalize dg B a i = s
  generalize dg B b i = t
  generalize B ^ i = p at *
  by_cases hxy : x < y
  · rw [if_pos hxy]
    by_cases hst : s < t + 1
    · rw [if_pos hst, if_pos]
      have : p * s ≤ p * t := Nat.mul_le_mul_left _ (by omega)
      omega
    · rw [if_neg hst, if_neg]
      have h3 : p * t + p ≤ p * s := by rw [← Nat.mul_succ]; exact Nat.mul_le_mul_left _ (by omega)
      omega
  · rw [if_neg hxy]
    by_cases hst : s < t + 0
    · rw [if_pos hst, if_pos]
      have h3 : p * s + p ≤ p * t := by rw [← Nat.mul_succ]; exact Nat.mul_le_mul_left _ (by omega)
      omega
    · rw [if_neg hst, if_neg]
      have : p * t ≤ p * s := Nat.mul_le_mul_left _ (by omega)
      omega

theorem dg_sub (B a b i : Nat) (hB : 0 < B) (h : b ≤ a) :
    dg B (a - b) i = (dg B a i + B - dg B b i - bw B a b i) % B := by
  -- a = b + (a - b): the digits of a sum
  obtain ⟨c, rfl⟩ : ∃ c, a = b + c := ⟨a - b, by omega⟩
  rw [Nat.add_sub_cancel_left]
  have hp : 0 < B ^ i := Nat.pow_pos hB
  have e1 := (cy_step B b c i hB).1
  have hc := cy_le hB b c i
  have hb := dg_lt hB b i
  have hcd := dg_lt hB c i
  -- the borrow is the carry
  have e2 : bw B (b + c) b i = cy B b c i := by
    unfold bw cy
    have h1 := Nat.mod_lt b hp
    have h2 := Nat.mod_lt c hp
    rw [Nat.add_mod]
    by_cases hlt : b % B ^ i + c % B ^ i < B ^ i
    · rw [Nat.mod_eq_of_lt hlt, Nat.div_eq_of_lt hlt, if_neg (Nat.not_lt.2 (Nat.le_add_right _ _))]
    · have e3 : (b % B ^ i + c % B ^ i) % B ^ i = b % B ^ i + c % B ^ i - B ^ i := by
        rw [Nat.mod_eq_sub_mod (by omega), Nat.mod_eq_of_lt (by omega)]
      have e4 : (b % B ^ i + c % B ^ i) / B ^ i = 1 := by
        rw [Nat.div_eq_sub_div hp (by omega), Nat.div_eq_of_lt (by omega)]
      rw [e3, e4, if_pos (by omega)]
  rw [e2, e1]
  generalize cy B b c i = k at *
  generalize dg B b i = x at *
  generalize dg B c i = y at *
  by_cases hlt : x + y + k < B
  · rw [Nat.mod_eq_of_lt hlt]
    have : x + y + k + B - x - k = y + B := by omega
    rw [this, Nat.add_mod_right, Nat.mod_eq_of_lt hcd]
  · have e5 : (x + y + k) % B = x + y + k - B := by
      rw [Nat.mod_eq_sub_mod (by omega), Nat.mod_eq_of_lt (by omega)]
    rw [e5]
    have : x + y + k - B + B - x - k = y := by omega
    rw [this, Nat.mod_eq_of_lt hcd]

/-! ### one digit of a row set anew -/
theorem vf_set (B : Nat) (f g : Nat → Nat) (j : Nat) : ∀ {n : Nat}, j < n → (∀ i, i < n → i ≠ j → g i = f i) → vf B g n + B ^ j * f j = vf B f n + B ^ j * g j
  | 0, h, _ => by omega
  | n + 1, h, he => by
    show vf B g n + B ^ n * g n + B ^ j * f j = vf B f n + B ^ n * f n + B ^ j * g j
    by_cases e : j = n
    · subst e
      rw [vf_congr (B := B) (f := g) (g := f) (n := j) fun i hi => he i (by omega) (by omega)]
      omega
    · have := vf_set B f g j (n := n) (by omega) fun i hi hne => he i (by omega) hne
      rw [he n (by omega) (by omega)]
      omega

theorem vf_split (B : Nat) (f : Nat → Nat) (n : Nat) : ∀ m, vf B f (n + m) = vf B f n + B ^ n * vf B (fun j => f (n + j)) m
  | 0 => by simp [vf]
  | m + 1 => by
    show vf B f (n + m) + B ^ (n + m) * f (n + m) = vf B f n + B ^ n * (vf B (fun j => f (n + j)) m + B ^ m * f (n + m))
    rw [vf_split B f n m, Nat.mul_add, Nat.pow_add, Nat.mul_assoc]
    omega

theorem vf_zero {B : Nat} {f : Nat → Nat} : ∀ {n : Nat}, (∀ j, j < n → f j = 0) → vf B f n = 0
  | 0, _ => rfl
  | n + 1, h => by
    show vf B f n + B ^ n * f n = 0
    rw [vf_zero fun j hj => h j (by omega), h n (by omega)]; simp

theorem vf_le_pow {B : Nat} {f : Nat → Nat} {n j : Nat} (h : j < n) : B ^ j * f j ≤ vf B f n := by
  induction n with
  | zero => omega
  | succ n ih =>
    show _ ≤ vf B f n + B ^ n * f n
    by_cases e : j = n
    · subst e; omega
    · have := ih (by omega); omega

/-- A row is told by its value. -/
theorem eq_dg_of_vf {B v n : Nat} {f : Nat → Nat} (hB : 0 < B) (hf : ∀ j, j < n → f j < B) (h : vf B f n = v) : ∀ j, j < n → f j = dg B v j := by
  intro j hj; subst h; exact (dg_vf hB hf j hj).symm

end Go.Proofs.YtjkjlbchbbpmaaaGreatDoor.Dg
/- A quotient, digit by digit: plain arithmetic. -/
namespace Go.Proofs.YtjkjlbchbbpmaaaGreatDoor.Dg

/-- The guess is not below the digit. -/
theorem guess_ge {B W V n top vt g : Nat} (hB : 0 < B) (hvt : vt = V / B ^ (n - 1)) (hvt0 : 0 < vt) (htop : top = W / B ^ (n - 1)) (hW : W < V * B) (hV : 0 < V) (hg : g = min (top / vt) (B - 1)) : W / V ≤ g ∧ g ≤ B - 1 := by
  have hQ : W / V ≤ B - 1 := by
    have : W / V < B := by rw [Nat.div_lt_iff_lt_mul hV, Nat.mul_comm]; exact hW
    omega
  have hp : 0 < B ^ (n - 1) := Nat.pow_pos hB
  have h1 : W / V * vt ≤ top := by
    rw [htop, Nat.le_div_iff_mul_le hp]
    have h2 : vt * B ^ (n - 1) ≤ V := by rw [hvt]; exact Nat.div_mul_le_self _ _
    calc W / V * vt * B ^ (n - 1) = W / V * (vt * B ^ (n - 1)) := Nat.mul_assoc _ _ _
      _ ≤ W / V * V := Nat.mul_le_mul_left _ h2
      _ ≤ W := Nat.div_mul_le_self _ _
  have h3 : W / V ≤ top / vt := (Nat.le_div_iff_mul_le hvt0).2 h1
  rw [hg]
  exact ⟨Nat.le_min.2 ⟨h3, hQ⟩, Nat.min_le_right _ _⟩

theorem mod_mul_pow (A V B j : Nat) : A % (V * B ^ (j + 1)) % (V * B ^ j) = A % (V * B ^ j) := by
  rw [Nat.pow_succ, ← Nat.mul_assoc, Nat.mod_mul_right_mod]

/-- The digit of the quotient. -/
theorem quo_digit (A V B j : Nat) : A % (V * B ^ (j + 1)) / B ^ j / V = dg B (A / V) j := by
  unfold dg
  rw [Nat.div_div_eq_div_mul, Nat.mul_comm (B ^ j) V, Nat.pow_succ, ← Nat.mul_assoc, Nat.mod_mul_right_div_self, Nat.div_div_eq_div_mul]

/-- What is left behind one digit. -/
theorem rest_digit {A V B j L : Nat} (hB : 0 < B) (hVL : V * B ≤ B ^ L) (i : Nat) :
    (if j ≤ i ∧ i < j + L then dg B (A % (V * B ^ (j + 1)) / B ^ j % V) (i - j) else dg B (A % (V * B ^ (j + 1))) i) = dg B (A % (V * B ^ j)) i := by
  obtain ⟨U, hU⟩ : ∃ U, U = A % (V * B ^ (j + 1)) := ⟨_, rfl⟩
  rw [← hU]
  have hp : 0 < B ^ j := Nat.pow_pos hB
  have e1 : A % (V * B ^ j) = U % B ^ j + B ^ j * (U / B ^ j % V) := by
    rw [← mod_mul_pow A V B j, ← hU, Nat.mul_comm V, Nat.mod_mul]
  by_cases h1 : i < j
  · rw [if_neg (by omega), e1]
    have e2 : dg B (U % B ^ j + B ^ j * (U / B ^ j % V)) i = dg B ((U % B ^ j + B ^ j * (U / B ^ j % V)) % B ^ j) i := (dg_mod h1).symm
    rw [e2, Nat.add_mul_mod_self_left, Nat.mod_mod, dg_mod h1]
  · obtain ⟨t, rfl⟩ : ∃ t, i = j + t := ⟨i - j, by omega⟩
    have e2 : A % (V * B ^ j) / B ^ j = U / B ^ j % V := by
      rw [e1, Nat.add_mul_div_left _ _ hp, Nat.div_eq_of_lt (Nat.mod_lt _ hp), Nat.zero_add]
    have e3 : dg B (A % (V * B ^ j)) (j + t) = dg B (U / B ^ j % V) t := by rw [← dg_div, e2]
    rw [e3, Nat.add_sub_cancel_left]
    by_cases h2 : t < L
    · rw [if_pos (by omega)]
    · rw [if_neg (by omega)]
      have hUl : U / B ^ j < B ^ L ∨ V = 0 := by
        rcases Nat.eq_zero_or_pos V with h | h
        · exact Or.inr h
        · left
          rw [Nat.div_lt_iff_lt_mul hp]
          have h3 : U < V * B ^ (j + 1) := by rw [hU]; exact Nat.mod_lt _ (Nat.mul_pos h (Nat.pow_pos hB))
          refine Nat.lt_of_lt_of_le h3 ?_
          rw [Nat.pow_succ, Nat.mul_comm (B ^ j) B, ← Nat.mul_assoc]
          exact Nat.mul_le_mul_right _ hVL
      rcases hUl with hUl | hV0
      · have h4 : U / B ^ j % V < B ^ L := Nat.lt_of_le_of_lt (Nat.mod_le _ _) hUl
        rw [dg_of_lt_le hB h4 (by omega)]
        have e4 : dg B U (j + t) = dg B (U / B ^ j) t := (dg_div B U j t).symm
        rw [e4, dg_of_lt_le hB hUl (by omega)]
      · subst hV0
        rw [Nat.mod_zero, dg_div]

/-- The digit of the quotient is found where the guess is no longer too great. -/
theorem quo_found {W V g : Nat} (hV : 0 < V) (h1 : W / V ≤ g) (h2 : ¬ W < g * V) : g = W / V := by
  have : g ≤ W / V := (Nat.le_div_iff_mul_le hV).2 (Nat.not_lt.1 h2)
  omega

/-- A remainder shifted back. -/
theorem shift_back {B R s i : Nat} (hB : 0 < B) (h2 : 0 < 2 ^ s) (hBs : ∃ r, B = 2 ^ s * r) :
    (dg B (R * 2 ^ s) (i + 1) * B + dg B (R * 2 ^ s) i) / 2 ^ s % B = dg B R i := by
  obtain ⟨r, hr⟩ := hBs
  have hp : 0 < B ^ i := Nat.pow_pos hB
  -- the two digits together: (R 2^s / B^i) mod B^2
  have e1 : dg B (R * 2 ^ s) (i + 1) * B + dg B (R * 2 ^ s) i = (R * 2 ^ s / B ^ i) % (B * B) := by
    rw [Nat.mod_mul]
    unfold dg
    rw [Nat.pow_succ, ← Nat.div_div_eq_div_mul, Nat.mul_comm _ B]; omega
  obtain ⟨y, hy⟩ : ∃ y, y = R * 2 ^ s / B ^ i := ⟨_, rfl⟩
  rw [e1, ← hy]
  have e2 : y % (B * B) / 2 ^ s % B = y / 2 ^ s % B := by
    have h : B * B = 2 ^ s * (B * r) := by
      have h3 : B * B = B * (2 ^ s * r) := by rw [← hr]
      rw [h3, Nat.mul_left_comm]
    rw [h, Nat.mod_mul_right_div_self, Nat.mod_mul_right_mod]
  rw [e2, hy, Nat.div_div_eq_div_mul, Nat.mul_comm (B ^ i), Nat.mul_comm R, Nat.mul_div_mul_left _ _ h2]
  rfl

end Go.Proofs.YtjkjlbchbbpmaaaGreatDoor.Dg
/- One step of the extended Euclid: plain. -/
namespace Go.Proofs.YtjkjlbchbbpmaaaGreatDoor

theorem euclid_ident (a m n x y k1 k2 k3 k4 k5 pm qm t u p q r : Int) (e1 : pm = x * a - m * k1) (e2 : p = m * k2 + pm) (e3 : qm = y * a - m * k3) (e4 : q = m * k4 + qm)
    (e5 : t = n * y - m * k5) (e6 : u = x + m - t) (e7 : r = p - q * n) : u * a - r = m * (k1 - k2 + a - n * k3 + n * k4 + k5 * a) := by
  subst e6 e5 e7 e4 e3 e2 e1
  grind

theorem mod_eq_of_dvd_sub {m u a r : Nat} (key : (m : Int) ∣ (u : Int) * a - r) : u * a % m = r % m := by
  have h6 : ((u * a : Nat) : Int) % (m : Int) = (r : Int) % (m : Int) := by
    rw [Int.natCast_mul]
    exact Int.emod_eq_emod_iff_emod_sub_eq_zero.2 (Int.emod_eq_zero_of_dvd key)
  exact_mod_cast h6

theorem euclid_step {a m p q x y n r t u : Nat} (hx : x * a % m = p % m) (hy : y * a % m = q % m) (hn : n = p / q) (hr : r = p % q) (ht : t = n * y % m) (hu : u + t = x + m) :
    u * a % m = r % m := by
  have hp : p = q * n + r := by rw [hn, hr]; exact (Nat.div_add_mod p q).symm
  have h1 := Nat.div_add_mod (x * a) m
  have h2 := Nat.div_add_mod p m
  have h3 := Nat.div_add_mod (y * a) m
  have h4 := Nat.div_add_mod q m
  have h5 := Nat.div_add_mod (n * y) m
  rw [hx] at h1
  rw [hy] at h3
  rw [← ht] at h5
  generalize x * a / m = k1 at *
  generalize p / m = k2 at *
  generalize y * a / m = k3 at *
  generalize q / m = k4 at *
  generalize n * y / m = k5 at *
  generalize p % m = pm at *
  generalize q % m = qm at *
  have e1 : (m : Int) * k1 + pm = x * a := by exact_mod_cast h1
  have e2 : (m : Int) * k2 + pm = p := by exact_mod_cast h2
  have e3 : (m : Int) * k3 + qm = y * a := by exact_mod_cast h3
  have e4 : (m : Int) * k4 + qm = q := by exact_mod_cast h4
  have e5 : (m : Int) * k5 + t = n * y := by exact_mod_cast h5
  have e6 : (u : Int) + t = x + m := by exact_mod_cast hu
  have e7 : (p : Int) = q * n + r := by exact_mod_cast hp
  refine mod_eq_of_dvd_sub ⟨_, euclid_ident a m n x y k1 k2 k3 k4 k5 pm qm t u p q r ?_ e2.symm ?_ e4.symm ?_ ?_ ?_⟩
  · rw [← e1]; omega
  · rw [← e3]; omega
  · rw [← e5]; omega
  · rw [← e6]; omega
  · rw [e7]; omega

/-- A unit modulo m and the greatest common divisor. -/
theorem gcd_step (p q : Nat) : Nat.gcd q (p % q) = Nat.gcd p q := by rw [Nat.gcd_comm p q, Nat.gcd_rec q p, Nat.gcd_comm]
end Go.Proofs.YtjkjlbchbbpmaaaGreatDoor
