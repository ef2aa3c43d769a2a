/- Fermat Primes Curve P256 Group Ecpp RsaPrimes WPlain, in one text. -/
/- Fermat's little theorem, and Pocklington's criterion: plain. -/
namespace Go.Proofs.YtjkjlbchbbpmaaaGreatDoor.Ec

def Prime (p : Nat) : Prop := 2 ≤ p ∧ ∀ d, d ∣ p → d = 1 ∨ d = p

theorem Prime.pos {p : Nat} (h : Prime p) : 0 < p := by have := h.1; omega

theorem Prime.coprime {p a : Nat} (h : Prime p) (ha : ¬ p ∣ a) : Nat.Coprime a p := by
  have hd := Nat.gcd_dvd_right a p
  rcases h.2 _ hd with h1 | h1
  · exact h1
  · exfalso
    have := Nat.gcd_dvd_left a p
    rw [h1] at this
    exact ha this

theorem Prime.dvd_mul {p a b : Nat} (h : Prime p) (hd : p ∣ a * b) : p ∣ a ∨ p ∣ b := by
  by_cases ha : p ∣ a
  · exact Or.inl ha
  · right
    have hc : Nat.Coprime p a := (h.coprime ha).symm
    exact hc.dvd_of_dvd_mul_left hd

/-! ### binomial coefficients -/
def ch : Nat → Nat → Nat
  | _, 0 => 1
  | 0, _ + 1 => 0
  | n + 1, k + 1 => ch n k + ch n (k + 1)

theorem ch_zero (n : Nat) : ch n 0 = 1 := by cases n <;> rfl
theorem ch_big : ∀ (n k : Nat), n < k → ch n k = 0
  | 0, k + 1, _ => rfl
  | n + 1, k + 1, h => by
    show ch n k + ch n (k + 1) = 0
    rw [ch_big n k (by omega), ch_big n (k + 1) (by omega)]
theorem ch_self : ∀ n : Nat, ch n n = 1
  | 0 => rfl
  | n + 1 => by
    show ch n n + ch n (n + 1) = 1
    rw [ch_self n, ch_big n (n + 1) (by omega)]
theorem ch_mul : ∀ (n k : Nat), (k + 1) * ch (n + 1) (k + 1) = (n + 1) * ch n k
  | 0, 0 => rfl
  | 0, k + 1 => by
    have h1 : ch 1 (k + 2) = 0 := ch_big _ _ (by omega)
    have h2 : ch 0 (k + 1) = 0 := rfl
    rw [h1, h2]; simp
  | n + 1, 0 => by
    have ih := ch_mul n 0
    have e : ch (n + 2) 1 = ch (n + 1) 0 + ch (n + 1) 1 := rfl
    have z1 : ch (n + 1) 0 = 1 := ch_zero _
    have z2 : ch n 0 = 1 := ch_zero _
    have ih2 : (0 + 1) * ch (n + 1) 1 = (n + 1) * ch n 0 := ih
    show (0 + 1) * ch (n + 2) 1 = (n + 1 + 1) * ch (n + 1) 0
    rw [e, z1]
    rw [z2] at ih2
    omega
  | n + 1, k + 1 => by
    have h1 := ch_mul n k
    have h2 := ch_mul n (k + 1)
    have e : ch (n + 2) (k + 2) = ch (n + 1) (k + 1) + ch (n + 1) (k + 2) := rfl
    have e2 : ch (n + 1) (k + 1) = ch n k + ch n (k + 1) := rfl
    rw [e, Nat.mul_add]
    have h3 : (k + 1 + 1) * ch (n + 1) (k + 1) = (n + 1) * ch n k + ch (n + 1) (k + 1) := by
      rw [Nat.succ_mul, h1]
    rw [h3, h2]
    rw [Nat.succ_mul (n + 1), e2, Nat.mul_add]
    omega

/-- The sum of the first m terms of (a + 1)^n. -/
def bs (n a : Nat) : Nat → Nat
  | 0 => 0
  | m + 1 => bs n a m + ch n m * a ^ m

theorem bs_succ (n a : Nat) : ∀ m, bs (n + 1) a (m + 1) = a * bs n a m + bs n a (m + 1)
  | 0 => by simp [bs, ch_zero]
  | m + 1 => by
    have ih := bs_succ n a m
    show bs (n + 1) a (m + 1) + ch (n + 1) (m + 1) * a ^ (m + 1) = a * (bs n a m + ch n m * a ^ m) + (bs n a (m + 1) + ch n (m + 1) * a ^ (m + 1))
    have e : ch (n + 1) (m + 1) = ch n m + ch n (m + 1) := rfl
    rw [ih, e, Nat.add_mul, Nat.mul_add, Nat.pow_succ]
    have : a * (ch n m * a ^ m) = ch n m * (a ^ m * a) := by simp only [Nat.mul_comm, Nat.mul_assoc]
    omega

theorem binom (a : Nat) : ∀ n, bs n a (n + 1) = (a + 1) ^ n
  | 0 => by simp [bs, ch_zero]
  | n + 1 => by
    rw [bs_succ, binom a n]
    show a * (a + 1) ^ n + (bs n a (n + 1) + ch n (n + 1) * a ^ (n + 1)) = _
    have e : (a + 1) ^ (n + 1) = a * (a + 1) ^ n + (a + 1) ^ n := by rw [Nat.pow_succ, Nat.mul_add, Nat.mul_one, Nat.mul_comm a]
    rw [ch_big n (n + 1) (by omega), binom a n, e, Nat.zero_mul]
    rfl

theorem prime_ch {p k : Nat} (h : Prime p) (h0 : 0 < k) (hk : k < p) : p ∣ ch p k := by
  obtain ⟨n, rfl⟩ : ∃ n, p = n + 1 := ⟨p - 1, by have := h.1; omega⟩
  obtain ⟨j, rfl⟩ : ∃ j, k = j + 1 := ⟨k - 1, by omega⟩
  have hd : n + 1 ∣ (j + 1) * ch (n + 1) (j + 1) := by rw [ch_mul]; exact Nat.dvd_mul_right _ _
  rcases h.dvd_mul hd with h1 | h1
  · have := Nat.le_of_dvd (by omega) h1; omega
  · exact h1

theorem bs_mid {p a : Nat} (h : Prime p) : ∀ m, 0 < m → m ≤ p → bs p a m % p = 1 % p
  | 0, h0, _ => by omega
  | 1, _, _ => by simp [bs, ch_zero]
  | m + 2, _, hm => by
    have ih := bs_mid h (m + 1) (by omega) (by omega) (a := a)
    show (bs p a (m + 1) + ch p (m + 1) * a ^ (m + 1)) % p = 1 % p
    obtain ⟨c, hc⟩ := prime_ch h (show 0 < m + 1 by omega) (by omega)
    rw [hc, Nat.mul_assoc, Nat.add_mul_mod_self_left, ih]

theorem fermat_step {p a : Nat} (h : Prime p) : (a + 1) ^ p % p = (a ^ p + 1) % p := by
  rw [← binom]
  show (bs p a p + ch p p * a ^ p) % p = _
  rw [ch_self, Nat.one_mul, Nat.add_mod, bs_mid h p h.pos (Nat.le_refl _), ← Nat.add_mod, Nat.add_comm]

theorem fermat' {p : Nat} (h : Prime p) : ∀ a, a ^ p % p = a % p
  | 0 => by rw [Nat.zero_pow h.pos]
  | a + 1 => by rw [fermat_step h, Nat.add_mod, fermat' h a, ← Nat.add_mod]

theorem cancel_mod {p a x y : Nat} (h : Nat.Coprime a p) (e : a * x % p = a * y % p) : x % p = y % p := by
  have key : ∀ x y : Nat, x ≤ y → a * x % p = a * y % p → x % p = y % p := by
    intro x y hxy e
    have h1 : (a * y - a * x) % p = 0 := Nat.sub_mod_eq_zero_of_mod_eq e.symm
    rw [← Nat.mul_sub] at h1
    have h2 : p ∣ y - x := (h.symm).dvd_of_dvd_mul_left (Nat.dvd_of_mod_eq_zero h1)
    obtain ⟨c, hc⟩ := h2
    have : y = x + p * c := by omega
    rw [this, Nat.add_mul_mod_self_left]
  rcases Nat.le_total x y with hxy | hxy
  · exact key x y hxy e
  · exact (key y x hxy e.symm).symm

theorem fermat {p a : Nat} (h : Prime p) (ha : ¬ p ∣ a) : a ^ (p - 1) % p = 1 % p := by
  refine cancel_mod (h.coprime ha) ?_
  rw [Nat.mul_one, ← fermat' h a]
  congr 1
  obtain ⟨n, rfl⟩ : ∃ n, p = n + 1 := ⟨p - 1, by have := h.1; omega⟩
  rw [Nat.add_sub_cancel, Nat.pow_succ, Nat.mul_comm]

/-! ### Pocklington -/
theorem pow_one_mod {x m k d : Nat} (h : x ^ m % d = 1 % d) : x ^ (m * k) % d = 1 % d := by
  rw [Nat.pow_mul, Nat.pow_mod, h, ← Nat.pow_mod, Nat.one_pow]

theorem pow_gcd {x d : Nat} (m n : Nat) (hm : x ^ m % d = 1 % d) (hn : x ^ n % d = 1 % d) : x ^ Nat.gcd m n % d = 1 % d := by
  induction m, n using Nat.gcd.induction with
  | H0 n => rw [Nat.gcd_zero_left]; exact hn
  | H1 m n hp ih =>
    rw [Nat.gcd_rec]
    refine ih ?_ hm
    have e : x ^ n = x ^ (m * (n / m)) * x ^ (n % m) := by rw [← Nat.pow_add, Nat.div_add_mod]
    rw [e, Nat.mul_mod, pow_one_mod hm, ← Nat.mul_mod, Nat.one_mul] at hn
    exact hn

/-- A prime power's divisors. -/
theorem dvd_prime_pow {q : Nat} (hq : Prime q) : ∀ (k d : Nat), d ∣ q ^ k → d ∣ q ^ (k - 1) ∨ d = q ^ k
  | 0, d, h => by
    left
    simpa using h
  | k + 1, d, h => by
    rw [Nat.add_sub_cancel]
    obtain ⟨c, hc⟩ := h
    by_cases hqc : q ∣ c
    · obtain ⟨e, rfl⟩ := hqc
      left
      have h1 : q * q ^ k = q * (d * e) := by
        rw [Nat.mul_comm q (q ^ k), ← Nat.pow_succ, hc]; simp only [Nat.mul_left_comm]
      exact ⟨e, Nat.eq_of_mul_eq_mul_left hq.pos h1⟩
    · right
      have hco : Nat.Coprime c (q ^ (k + 1)) := (hq.coprime hqc).pow_right _
      have h1 : c ∣ q ^ (k + 1) := ⟨d, by rw [hc, Nat.mul_comm]⟩
      have h2 : c = 1 := by
        have := Nat.dvd_gcd (Nat.dvd_refl c) h1
        rw [hco] at this
        exact Nat.dvd_one.1 this
      rw [h2, Nat.mul_one] at hc
      exact hc.symm

/-- The least divisor that is not 1. -/
theorem exists_prime_dvd : ∀ n : Nat, 2 ≤ n → ∃ d, Prime d ∧ d ∣ n ∧ (Prime n ∨ d * d ≤ n) := by
  intro n hn
  -- the least divisor from 2 on
  have hex : ∃ d, 2 ≤ d ∧ d ∣ n := ⟨n, hn, Nat.dvd_refl n⟩
  have hleast : ∀ m : Nat, (∃ d, 2 ≤ d ∧ d ∣ n ∧ d ≤ m) → ∃ d, 2 ≤ d ∧ d ∣ n ∧ ∀ e, 2 ≤ e → e ∣ n → d ≤ e := by
    intro m
    induction m with
    | zero => rintro ⟨d, h1, _, h2⟩; omega
    | succ m ih =>
      rintro ⟨d, h1, h2, h3⟩
      by_cases hs : ∃ d, 2 ≤ d ∧ d ∣ n ∧ d ≤ m
      · exact ih hs
      · refine ⟨d, h1, h2, fun e h4 h5 => ?_⟩
        rcases Nat.lt_or_ge e d with h6 | h6
        · exact absurd ⟨e, h4, h5, by omega⟩ hs
        · exact h6
  obtain ⟨d, h2, hd, hmin⟩ := hleast n ⟨n, hn, Nat.dvd_refl n, Nat.le_refl n⟩
  have hp : Prime d := ⟨h2, fun e he => by
    have he0 : e ≠ 0 := by rintro rfl; have := Nat.eq_zero_of_zero_dvd he; omega
    by_cases h1 : e = 1
    · exact Or.inl h1
    · right
      have := hmin e (by omega) (Nat.dvd_trans he hd)
      have := Nat.le_of_dvd (by omega) he
      omega⟩
  refine ⟨d, hp, hd, ?_⟩
  obtain ⟨c, hc⟩ := hd
  have hc0 : c ≠ 0 := by rintro rfl; omega
  by_cases h1 : c = 1
  · left
    rw [h1, Nat.mul_one] at hc
    rw [hc]; exact hp
  · right
    have := hmin c (by omega) ⟨d, by rw [hc, Nat.mul_comm]⟩
    rw [hc]
    exact Nat.mul_le_mul_left _ this

/-- One prime power q^k of n - 1: each prime divisor of n is 1 modulo it. -/
theorem pock_one {n q k a d : Nat} (hq : Prime q) (hk : 0 < k) (hd : Prime d) (hdn : d ∣ n) (hf : q ^ k ∣ n - 1) (h1 : a ^ (n - 1) % n = 1 % n) (h2 : Nat.gcd (a ^ ((n - 1) / q) % n + (n - 1)) n = 1) (hn : 2 ≤ n) : q ^ k ∣ d - 1 := by
  obtain ⟨c, hc⟩ := hf
  obtain ⟨e, he⟩ := hdn
  have hd2 := hd.1
  have md : ∀ x y : Nat, x % n = y % n → x % d = y % d := fun x y h => by
    have := congrArg (· % d) h
    simpa [he, Nat.mod_mul_right_mod] using this
  have hx1 : (a ^ c) ^ (q ^ k) % d = 1 % d := by
    rw [← Nat.pow_mul, Nat.mul_comm, ← hc]; exact md _ _ h1
  have hqc : (n - 1) / q = c * q ^ (k - 1) := by
    obtain ⟨j, rfl⟩ : ∃ j, k = j + 1 := ⟨k - 1, by omega⟩
    rw [hc, Nat.add_sub_cancel, Nat.pow_succ, Nat.mul_right_comm, Nat.mul_div_cancel _ hq.pos, Nat.mul_comm]
  have hnd : ¬ d ∣ a := by
    intro h
    have h3 : a ^ (n - 1) % d = 1 % d := md _ _ h1
    obtain ⟨f, rfl⟩ := h
    rw [Nat.mul_pow, Nat.mul_mod, show d ^ (n - 1) % d = 0 from by
      obtain ⟨m, hm⟩ : ∃ m, n - 1 = m + 1 := ⟨n - 2, by omega⟩
      rw [hm, Nat.pow_succ]; exact Nat.mul_mod_left _ _, Nat.zero_mul, Nat.zero_mod, Nat.mod_eq_of_lt (by omega : 1 < d)] at h3
    omega
  have hnd2 : ¬ d ∣ a ^ c := by
    intro h
    have : ∀ j, d ∣ a ^ j → d ∣ a := by
      intro j
      induction j with
      | zero => intro h; have := Nat.le_of_dvd (by omega) (show d ∣ 1 by simpa using h); omega
      | succ j ih =>
        intro h
        rw [Nat.pow_succ] at h
        rcases hd.dvd_mul h with h | h
        · exact ih h
        · exact h
    exact hnd (this c h)
  have hx2 : (a ^ c) ^ (d - 1) % d = 1 % d := fermat hd hnd2
  have hg := pow_gcd (q ^ k) (d - 1) hx1 hx2
  rcases dvd_prime_pow hq k (Nat.gcd (q ^ k) (d - 1)) (Nat.gcd_dvd_left _ _) with h3 | h3
  · exfalso
    obtain ⟨f, hf⟩ := h3
    have h4 : (a ^ c) ^ (q ^ (k - 1)) % d = 1 % d := by rw [hf]; exact pow_one_mod hg
    rw [← Nat.pow_mul, ← hqc] at h4
    have h5 : d ∣ a ^ ((n - 1) / q) % n + (n - 1) := by
      refine Nat.dvd_of_mod_eq_zero ?_
      have h6 : a ^ ((n - 1) / q) % n % d = 1 % d := by rw [← h4]; exact md _ _ (Nat.mod_mod _ _)
      rw [Nat.add_mod, h6, ← Nat.add_mod, show 1 + (n - 1) = n from by omega, he, Nat.mul_mod_right]
    have h7 := Nat.dvd_gcd h5 ⟨e, he⟩
    rw [h2] at h7
    have := Nat.le_of_dvd (by omega) h7
    omega
  · rw [← h3]; exact Nat.gcd_dvd_right _ _

end Go.Proofs.YtjkjlbchbbpmaaaGreatDoor.Ec
/- P and N are primes: Pocklington's criterion with its numbers. -/
namespace Go.Proofs.YtjkjlbchbbpmaaaGreatDoor.Ec

/-- A number is worked out before it is handed on (the kernel's own way of working). -/
def frc {α : Type} (n : Nat) (k : Nat → α) : α := Nat.rec (k 0) (fun m _ => k (m + 1)) n
theorem frc_eq {α : Type} (n : Nat) (k : Nat → α) : frc n k = k n := by cases n <;> rfl

def pm (n : Nat) : Nat → Nat → Nat → Nat
  | 0, _, _ => 1 % n
  | f + 1, a, e => frc (pm n f a (e / 2)) fun h => frc (h * h % n) fun s => bif e % 2 == 1 then s * a % n else s

theorem pm_eq (n a : Nat) : ∀ (f e : Nat), e < 2 ^ f → pm n f a e = a ^ e % n
  | 0, e, h => by
    have : e = 0 := by simpa using h
    subst this; rfl
  | f + 1, e, h => by
    have ih := pm_eq n a f (e / 2) (by rw [Nat.pow_succ] at h; omega)
    have hd : e = e / 2 + e / 2 + e % 2 := by omega
    have hs : a ^ (e / 2) % n * (a ^ (e / 2) % n) % n = a ^ (e / 2 + e / 2) % n := by
      rw [← Nat.mul_mod, ← Nat.pow_add]
    show frc (pm n f a (e / 2)) _ = _
    rw [frc_eq, frc_eq, ih, hs]
    rcases Nat.mod_two_eq_zero_or_one e with h0 | h1
    · have : (e % 2 == 1) = false := by rw [h0]; rfl
      rw [this]
      show a ^ (e / 2 + e / 2) % n = _
      congr 2; omega
    · have : (e % 2 == 1) = true := by rw [h1]; rfl
      rw [this]
      show a ^ (e / 2 + e / 2) % n * a % n = _
      rw [Nat.mod_mul_mod, ← Nat.pow_succ]
      congr 2; omega

/-- Trial division. -/
def tr (n : Nat) : Nat → Bool
  | 0 => true
  | k + 1 => (bif n % (k + 2) == 0 then false else true) && tr n k

theorem tr_ok (n : Nat) : ∀ k, tr n k = true → ∀ d, 2 ≤ d → d < k + 2 → ¬ d ∣ n
  | 0, _, d, h2, hd => by omega
  | k + 1, h, d, h2, hd => by
    simp only [tr, Bool.and_eq_true] at h
    intro hdn
    by_cases e : d = k + 2
    · subst e
      have : (n % (k + 2) == 0) = true := by rw [Nat.mod_eq_zero_of_dvd hdn]; rfl
      rw [this] at h
      exact absurd h.1 (by decide)
    · exact tr_ok n k h.2 d h2 (by omega) hdn

theorem prime_small {n : Nat} (k : Nat) (h2 : 2 ≤ n) (ht : tr n k = true) (hk : n < (k + 2) * (k + 2)) : Prime n := by
  obtain ⟨d, hd, hdn, h | h⟩ := exists_prime_dvd n h2
  · exact h
  · exfalso
    refine tr_ok n k ht d hd.1 ?_ hdn
    rcases Nat.lt_or_ge d (k + 2) with h1 | h1
    · exact h1
    · have := Nat.mul_le_mul h1 h1; omega

def pockB (n q k a f : Nat) : Bool :=
  (n - 1) % q ^ k == 0 && pm n f a (n - 1) == 1 && Nat.gcd (pm n f a ((n - 1) / q) + (n - 1)) n == 1

theorem pock_dvd {n q k a f d : Nat} (hq : Prime q) (hk : 0 < k) (hd : Prime d) (hdn : d ∣ n) (hn : 2 ≤ n) (hf : n ≤ 2 ^ f) (h : pockB n q k a f = true) : q ^ k ∣ d - 1 := by
  simp only [pockB, Bool.and_eq_true, beq_iff_eq] at h
  have hle : (n - 1) / q ≤ n - 1 := Nat.div_le_self _ _
  refine pock_one hq hk hd hdn (Nat.dvd_of_mod_eq_zero h.1.1) (a := a) ?_ ?_ hn
  · rw [← pm_eq n a f (n - 1) (by omega), h.1.2, Nat.mod_eq_of_lt (by omega)]
  · rw [← pm_eq n a f ((n - 1) / q) (by omega)]; exact h.2

theorem pock1 {n q k a f : Nat} (hq : Prime q) (hk : 0 < k) (hn : 2 ≤ n) (hf : n ≤ 2 ^ f) (h : pockB n q k a f = true) (hb : n < q ^ k * q ^ k) : Prime n := by
  obtain ⟨d, hd, hdn, h1 | h1⟩ := exists_prime_dvd n hn
  · exact h1
  · exfalso
    have h2 := pock_dvd hq hk hd hdn hn hf h
    have h3 := hd.1
    have h4 := Nat.le_of_dvd (by omega) h2
    have := Nat.mul_le_mul (show q ^ k ≤ d by omega) (show q ^ k ≤ d by omega)
    omega

theorem pock2 {n q k a r j b f : Nat} (hq : Prime q) (hk : 0 < k) (hr : Prime r) (hj : 0 < j) (hn : 2 ≤ n) (hf : n ≤ 2 ^ f) (h : pockB n q k a f = true) (h' : pockB n r j b f = true) (hc : Nat.gcd (q ^ k) (r ^ j) = 1) (hb : n < (q ^ k * r ^ j) * (q ^ k * r ^ j)) : Prime n := by
  obtain ⟨d, hd, hdn, h1 | h1⟩ := exists_prime_dvd n hn
  · exact h1
  · exfalso
    have h2 := pock_dvd hq hk hd hdn hn hf h
    have h3 := pock_dvd hr hj hd hdn hn hf h'
    have h4 : q ^ k * r ^ j ∣ d - 1 := Nat.Coprime.mul_dvd_of_dvd_of_dvd hc h2 h3
    have h5 := hd.1
    have h6 := Nat.le_of_dvd (by omega) h4
    have := Nat.mul_le_mul (show q ^ k * r ^ j ≤ d by omega) (show q ^ k * r ^ j ≤ d by omega)
    omega


theorem prime_0 : Prime 313 := prime_small 16 (by decide) (by decide +kernel) (by decide)
theorem prime_1 : Prime 5 := prime_small 1 (by decide) (by decide +kernel) (by decide)
theorem prime_2 : Prime 704251 := pock2 (q := 313) (k := 1) (a := 2) (r := 5) (j := 3) (b := 2) (f := 20) prime_0 (by decide) prime_1 (by decide) (by decide) (by decide +kernel) (by decide +kernel) (by decide +kernel) (by decide +kernel) (by decide +kernel)
theorem prime_3 : Prime 78283 := prime_small 278 (by decide) (by decide +kernel) (by decide)
theorem prime_4 : Prime 46076956964474543 := pock2 (q := 704251) (k := 1) (a := 2) (r := 78283) (j := 1) (b := 2) (f := 56) prime_2 (by decide) prime_3 (by decide) (by decide) (by decide +kernel) (by decide +kernel) (by decide +kernel) (by decide +kernel) (by decide +kernel)
theorem prime_5 : Prime 3677 := prime_small 59 (by decide) (by decide +kernel) (by decide)
theorem prime_6 : Prime 197 := prime_small 13 (by decide) (by decide +kernel) (by decide)
theorem prime_7 : Prime 66417393611 := pock2 (q := 3677) (k := 1) (a := 2) (r := 197) (j := 1) (b := 2) (f := 36) prime_5 (by decide) prime_6 (by decide) (by decide) (by decide +kernel) (by decide +kernel) (by decide +kernel) (by decide +kernel) (by decide +kernel)
theorem prime_8 : Prime 11290956913871 := pock1 (q := 66417393611) (k := 1) (a := 2) (f := 44) prime_7 (by decide) (by decide) (by decide +kernel) (by decide +kernel) (by decide +kernel)
theorem prime_9 : Prime 774023187263532362759620327192479577272145303 := pock2 (q := 46076956964474543) (k := 1) (a := 2) (r := 11290956913871) (j := 1) (b := 2) (f := 150) prime_4 (by decide) prime_8 (by decide) (by decide) (by decide +kernel) (by decide +kernel) (by decide +kernel) (by decide +kernel) (by decide +kernel)
theorem prime_10 : Prime 835945042244614951780389953367877943453916927241 := pock1 (q := 774023187263532362759620327192479577272145303) (k := 1) (a := 2) (f := 160) prime_9 (by decide) (by decide) (by decide +kernel) (by decide +kernel) (by decide +kernel)
theorem prime_P : Prime 115792089210356248762697446949407573530086143415290314195533631308867097853951 := pock1 (q := 835945042244614951780389953367877943453916927241) (k := 1) (a := 2) (f := 256) prime_10 (by decide) (by decide) (by decide +kernel) (by decide +kernel) (by decide +kernel)
theorem prime_12 : Prime 155317 := prime_small 393 (by decide) (by decide +kernel) (by decide)
theorem prime_13 : Prime 191039911 := pock1 (q := 155317) (k := 1) (a := 2) (f := 28) prime_12 (by decide) (by decide) (by decide +kernel) (by decide +kernel) (by decide +kernel)
theorem prime_14 : Prime 3023 := prime_small 53 (by decide) (by decide +kernel) (by decide)
theorem prime_15 : Prime 208150935158385979 := pock2 (q := 191039911) (k := 1) (a := 2) (r := 3023) (j := 1) (b := 2) (f := 58) prime_13 (by decide) prime_14 (by decide) (by decide) (by decide +kernel) (by decide +kernel) (by decide +kernel) (by decide +kernel) (by decide +kernel)
theorem prime_16 : Prime 2624747550333869278416773953 := pock1 (q := 208150935158385979) (k := 1) (a := 2) (f := 92) prime_15 (by decide) (by decide) (by decide +kernel) (by decide +kernel) (by decide +kernel)
theorem prime_17 : Prime 104471 := prime_small 322 (by decide) (by decide +kernel) (by decide)
theorem prime_18 : Prime 3969899 := pock1 (q := 104471) (k := 1) (a := 2) (f := 22) prime_17 (by decide) (by decide) (by decide +kernel) (by decide +kernel) (by decide +kernel)
theorem prime_19 : Prime 1002328039319 := pock1 (q := 3969899) (k := 1) (a := 2) (f := 40) prime_18 (by decide) (by decide) (by decide +kernel) (by decide +kernel) (by decide +kernel)
theorem prime_N : Prime 115792089210356248762697446949407573529996955224135760342422259061068512044369 := pock2 (q := 2624747550333869278416773953) (k := 1) (a := 2) (r := 1002328039319) (j := 1) (b := 2) (f := 256) prime_16 (by decide) prime_19 (by decide) (by decide) (by decide +kernel) (by decide +kernel) (by decide +kernel) (by decide +kernel) (by decide +kernel)

end Go.Proofs.YtjkjlbchbbpmaaaGreatDoor.Ec
/- The curve's points: sums without and with a division, over a field of p numbers: plain. -/
namespace Go.Proofs.YtjkjlbchbbpmaaaGreatDoor.Ec

variable {p : Nat} [NeZero p]

def inv (a : Fin p) : Fin p := Fin.ofNat p (a.val ^ (p - 2))

theorem inv_ok (hp : Prime p) {a : Fin p} (h : a ≠ 0) : a * inv a = 1 := by
  have h1 : ¬ p ∣ a.val := by
    intro hd
    have := Nat.eq_zero_of_dvd_of_lt hd a.isLt
    exact h (Fin.ext (by simpa using this))
  have h2 := fermat hp h1
  have h3 := hp.1
  apply Fin.ext
  rw [Fin.val_mul]
  show a.val * (a.val ^ (p - 2) % p) % p = 1 % p
  rw [Nat.mul_mod_mod, ← Nat.pow_succ', show (p - 2).succ = p - 1 from by omega, h2]

theorem one_ne (hp : Prime p) : (1 : Fin p) ≠ 0 := by
  have h3 := hp.1
  intro h
  have := congrArg Fin.val h
  have h1 : (1 : Fin p).val = 1 % p := rfl
  have h0 : (0 : Fin p).val = 0 % p := rfl
  rw [h1, h0, Nat.mod_eq_of_lt (by omega : 1 < p)] at this
  simp at this

theorem mul_zero_or (hp : Prime p) {a b : Fin p} (h : a * b = 0) : a = 0 ∨ b = 0 := by
  by_cases ha : a = 0
  · exact Or.inl ha
  · right
    have := inv_ok hp ha
    grobner

inductive Pt (p : Nat) where
  | inf
  | at (x y : Fin p)

def Pt.on (b : Fin p) : Pt p → Prop
  | .inf => True
  | .at x y => y * y = x * (x * x) - 3 * x + b

def chord (s x1 y1 x2 : Fin p) : Pt p := .at (s * s - x1 - x2) (s * (x1 - (s * s - x1 - x2)) - y1)

def addA : Pt p → Pt p → Pt p
  | .inf, q => q
  | .at x1 y1, .inf => .at x1 y1
  | .at x1 y1, .at x2 y2 =>
    if x1 = x2 ∧ y1 = -y2 then .inf
    else if x1 = x2 ∧ y1 = y2 then chord ((3 * (x1 * x1) - 3) * inv (y1 + y1)) x1 y1 x2
    else chord ((y2 - y1) * inv (x2 - x1)) x1 y1 x2

theorem on_same_x (hp : Prime p) {b x y y' : Fin p} (h : (Pt.at x y).on b) (h' : (Pt.at x y').on b) : y = y' ∨ y = -y' := by
  have h1 : (y - y') * (y + y') = 0 := by simp only [Pt.on] at h h'; grobner
  rcases mul_zero_or hp h1 with h2 | h2
  · left; grobner
  · right; grobner

theorem on_dbl {b x y s i : Fin p} (h : y * y = x * (x * x) - 3 * x + b) (hi : (y + y) * i = 1) (hs : s = (3 * (x * x) - 3) * i) :
    (chord s x y x).on b := by
  have hs' : s * (y + y) = 3 * (x * x) - 3 := by subst hs; grobner
  simp only [chord, Pt.on]
  grobner

theorem on_chord {b x y x' y' s i : Fin p} (h : y * y = x * (x * x) - 3 * x + b) (h' : y' * y' = x' * (x' * x') - 3 * x' + b) (hi : (x' - x) * i = 1) (hs : s * (x' - x) = y' - y) :
    (chord s x y x').on b := by
  simp only [chord, Pt.on]
  grobner


/-- A point under way. -/
structure Jac (p : Nat) where
  x : Fin p
  y : Fin p
  z : Fin p

def Rep (j : Jac p) : Pt p → Prop
  | .inf => j.z = 0
  | .at X Y => j.z ≠ 0 ∧ j.x = X * (j.z * j.z) ∧ j.y = Y * (j.z * j.z * j.z)

def Jac.twice (j : Jac p) : Jac p :=
  let zz := j.z * j.z
  let yy := j.y * j.y
  let m := 3 * ((j.x - zz) * (j.x + zz))
  let s := 4 * (j.x * yy)
  let x := m * m - (s + s)
  ⟨x, m * (s - x) - 8 * (yy * yy), 2 * (j.y * j.z)⟩

def Jac.add (j q : Jac p) : Jac p :=
  if j.z = 0 then q else if q.z = 0 then j else
  let pz := j.z * j.z
  let qz := q.z * q.z
  let u := j.x * qz
  let v := q.x * pz
  let s := j.y * (qz * q.z)
  let t := q.y * (pz * j.z)
  let h := v - u
  let r := t - s
  if h = 0 then (if r = 0 then j.twice else ⟨0, 0, 0⟩) else
  let hh := h * h
  let hhh := h * hh
  let uhh := u * hh
  let x := r * r - hhh - (uhh + uhh)
  ⟨x, r * (uhh - x) - s * hhh, h * (j.z * q.z)⟩

/-- The affine point of a point under way. -/
def Jac.pt (j : Jac p) : Pt p :=
  if j.z = 0 then .inf else .at (j.x * (inv j.z * inv j.z)) (j.y * (inv j.z * inv j.z * inv j.z))

theorem Rep.pt (hp : Prime p) (j : Jac p) : Rep j j.pt := by
  by_cases h : j.z = 0
  · simp [Jac.pt, h, Rep]
  · have hi := inv_ok hp h
    simp only [Jac.pt, h, if_false, Rep]
    refine ⟨h, ?_, ?_⟩ <;> grobner

theorem Rep.uniq (hp : Prime p) {j : Jac p} {A B : Pt p} (h : Rep j A) (h' : Rep j B) : A = B := by
  cases A <;> cases B <;> simp only [Rep] at h h'
  · rfl
  · exact absurd h h'.1
  · exact absurd h' h.1
  · obtain ⟨hz, h1, h2⟩ := h
    obtain ⟨_, h3, h4⟩ := h'
    have hi := inv_ok hp hz
    congr 1 <;> grobner

theorem Rep.twice (hp : Prime p) (h2 : (2 : Fin p) ≠ 0) {j : Jac p} {A : Pt p} (h : Rep j A) : Rep j.twice (addA A A) := by
  cases A with
  | inf => simp only [Rep] at h; simp only [addA, Rep, Jac.twice, h]; grobner
  | «at» X Y =>
    simp only [Rep] at h
    obtain ⟨hz, hx, hy⟩ := h
    by_cases hY : Y = -Y
    · have hY0 : Y = 0 := by
        have : (2 : Fin p) * Y = 0 := by grobner
        rcases mul_zero_or hp this with h | h
        · exact absurd h h2
        · exact h
      subst hY0
      simp only [addA, true_and]
      rw [if_pos hY]
      simp only [Rep, Jac.twice]
      grobner
    · have hYY : Y + Y ≠ 0 := by intro h; apply hY; grobner
      have hi := inv_ok hp hYY
      simp only [addA, true_and, hY, and_self, if_true, if_false, Rep, Jac.twice, chord]
      refine ⟨?_, ?_, ?_⟩
      · rw [hy]
        intro h0
        have h3 : (Y + Y) * (j.z * j.z * j.z * j.z) = 0 := by grobner
        rcases mul_zero_or hp h3 with h | h
        · exact hYY h
        rcases mul_zero_or hp h with h | h
        · rcases mul_zero_or hp h with h | h
          · rcases mul_zero_or hp h with h | h <;> exact hz h
          · exact hz h
        · exact hz h
      · rw [hx, hy]; grobner
      · rw [hx, hy]; grobner

theorem add_xy {X Y X' s Z h r u t x : Fin p} (hh : h = (X' - X) * (Z * Z)) (hr : r = s * h * Z) (hu : u = X * (Z * Z)) (ht : t = Y * (Z * Z * Z)) (hx : x = r * r - h * (h * h) - (u * (h * h) + u * (h * h))) :
    x = (s * s - X - X') * ((h * Z) * (h * Z)) ∧ r * (u * (h * h) - x) - t * (h * (h * h)) = (s * (X - (s * s - X - X')) - Y) * ((h * Z) * (h * Z) * (h * Z)) := by
  have h1 : x = (s * s - X - X') * ((h * Z) * (h * Z)) := by
    have h4 : h * (h * h) = (X' - X) * (Z * Z) * (h * h) := by rw [← hh]
    have h5 : h * (h * h) + (u * (h * h) + u * (h * h)) = (X + X') * ((h * Z) * (h * Z)) := by
      rw [h4, hu]; clear hh hr ht hx h4; grobner
    have h6 : x = r * r - (h * (h * h) + (u * (h * h) + u * (h * h))) := by rw [hx]; clear hh hr ht hx h4 h5; grobner
    rw [h6, h5, hr]; clear hh hr ht hx h4 h5 h6; grobner
  refine ⟨h1, ?_⟩
  rw [h1, hr, hu, ht]; clear hh; grobner

theorem Rep.add (hp : Prime p) (h2 : (2 : Fin p) ≠ 0) {b : Fin p} {j q : Jac p} {A B : Pt p} (h : Rep j A) (h' : Rep q B) (oA : A.on b) (oB : B.on b) : Rep (j.add q) (addA A B) := by
  cases A with
  | inf =>
    simp only [Rep] at h
    simp only [Jac.add, h, if_true, addA]
    exact h'
  | «at» X Y =>
    cases B with
    | inf =>
      have hz : j.z ≠ 0 := h.1
      have hq : q.z = 0 := h'
      simp only [Jac.add, hz, hq, if_true, if_false, addA]
      exact h
    | «at» X' Y' =>
      have hz : j.z ≠ 0 := h.1
      have hq : q.z ≠ 0 := h'.1
      have hx := h.2.1
      have hy := h.2.2
      have hx' := h'.2.1
      have hy' := h'.2.2
      have iz := inv_ok hp hz
      have iq := inv_ok hp hq
      generalize inv j.z = i at iz
      generalize inv q.z = k at iq
      simp only [Jac.add, hz, hq, if_false]
      have e1 : q.x * (j.z * j.z) - j.x * (q.z * q.z) = (X' - X) * ((j.z * q.z) * (j.z * q.z)) := by rw [hx, hx']; grobner
      have e2 : q.y * (j.z * j.z * j.z) - j.y * (q.z * q.z * q.z) = (Y' - Y) * ((j.z * q.z) * (j.z * q.z) * (j.z * q.z)) := by rw [hy, hy']; grobner
      by_cases hX : X = X'
      · subst hX
        have h0 : q.x * (j.z * j.z) - j.x * (q.z * q.z) = 0 := by rw [e1]; grobner
        rw [if_pos h0]
        rcases on_same_x hp oA oB with hY | hY
        · subst hY
          have h0 : q.y * (j.z * j.z * j.z) - j.y * (q.z * q.z * q.z) = 0 := by rw [e2]; grobner
          rw [if_pos h0]
          exact Rep.twice hp h2 h
        · by_cases hYY : Y = Y'
          · subst hYY
            have h0 : q.y * (j.z * j.z * j.z) - j.y * (q.z * q.z * q.z) = 0 := by rw [e2]; grobner
            rw [if_pos h0]
            exact Rep.twice hp h2 h
          · have h0 : ¬ q.y * (j.z * j.z * j.z) - j.y * (q.z * q.z * q.z) = 0 := by
              rw [e2]
              intro h0
              apply hYY
              grobner
            rw [if_neg h0]
            simp only [addA, true_and, hY, if_true, Rep]
      · have h0 : ¬ q.x * (j.z * j.z) - j.x * (q.z * q.z) = 0 := by
          rw [e1]
          intro h0
          apply hX
          grobner
        rw [if_neg h0]
        have hd : X' - X ≠ 0 := by intro h; apply hX; grobner
        have hi := inv_ok hp hd
        simp only [addA, hX, false_and, if_false, Rep, chord]
        generalize inv (X' - X) = w at hi
        refine ⟨?_, ?_⟩
        · rw [e1]
          intro h1
          have : X' - X = 0 := by grobner
          exact hd this
        · have hs : (Y' - Y) * w * (X' - X) = Y' - Y := by grobner
          have er : q.y * (j.z * j.z * j.z) - j.y * (q.z * q.z * q.z) = (Y' - Y) * w * (q.x * (j.z * j.z) - j.x * (q.z * q.z)) * (j.z * q.z) := by
            rw [e2, e1]; generalize (Y' - Y) * w = s at hs; rw [← hs]; clear hs; grobner
          exact add_xy (X := X) (Y := Y) (X' := X') (s := (Y' - Y) * w) (Z := j.z * q.z) e1 er (by rw [hx]; clear e1 er e2 h0; grobner) (by rw [hy]; clear e1 er e2 h0; grobner) rfl

theorem on_add (hp : Prime p) {b : Fin p} {A B : Pt p} (oA : A.on b) (oB : B.on b) : (addA A B).on b := by
  cases A with
  | inf => exact oB
  | «at» X Y =>
    cases B with
    | inf => exact oA
    | «at» X' Y' =>
      simp only [addA]
      by_cases h1 : X = X' ∧ Y = -Y'
      · rw [if_pos h1]; trivial
      · rw [if_neg h1]
        by_cases h3 : X = X' ∧ Y = Y'
        · rw [if_pos h3]
          obtain ⟨rfl, rfl⟩ := h3
          have hY : Y + Y ≠ 0 := by intro h; exact h1 ⟨rfl, by grobner⟩
          exact on_dbl oA (inv_ok hp hY) rfl
        · rw [if_neg h3]
          have hX : X' - X ≠ 0 := by
            intro h
            have hx : X = X' := by grobner
            subst hx
            rcases on_same_x hp oA oB with h4 | h4
            · exact h3 ⟨rfl, h4⟩
            · exact h1 ⟨rfl, h4⟩
          have hi := inv_ok hp hX
          generalize inv (X' - X) = w at hi
          refine on_chord oA oB hi ?_
          grobner

/-- Twice, as the document's answer says it. -/
def Jac.twice' (j : Jac p) : Jac p :=
  let yy := j.y * j.y
  let zz := j.z * j.z
  let a := 4 * (j.x * yy)
  let b := 3 * (j.x * j.x - zz * zz)
  let x := b * b - (a + a)
  ⟨x, b * (a - x) - 8 * (yy * yy), (j.y + j.y) * j.z⟩

theorem twice_eq (j : Jac p) : j.twice' = j.twice := by
  have e : (3 : Fin p) * (j.x * j.x - j.z * j.z * (j.z * j.z)) = 3 * ((j.x - j.z * j.z) * (j.x + j.z * j.z)) := by grobner
  have e2 : (j.y + j.y) * j.z = 2 * (j.y * j.z) := by grobner
  simp only [Jac.twice, Jac.twice', e, e2]

/-- What ostiaryref05's way adds: a point without a division and one that is there. -/
def Jac.more (j : Jac p) (X Y : Fin p) : Jac p :=
  let zz := j.z * j.z
  let h := X * zz - j.x
  let r := Y * (zz * j.z) - j.y
  let hh := h * h
  let hhh := h * hh
  let v := j.x * hh
  let x := r * r - hhh - (v + v)
  ⟨x, r * (v - x) - j.y * hhh, j.z * h⟩

theorem more_add {j : Jac p} {X Y : Fin p} (hz : j.z ≠ 0) (h1 : (1 : Fin p) ≠ 0) (hh : X * (j.z * j.z) - j.x ≠ 0) : j.more X Y = j.add ⟨X, Y, 1⟩ := by
  have e1 : j.x * (1 * 1) = j.x := by grobner
  have e2 : j.y * (1 * 1 * 1) = j.y := by grobner
  have e3 : j.z * 1 = j.z := by grobner
  have e4 : j.z * (X * (j.z * j.z) - j.x) = (X * (j.z * j.z) - j.x) * j.z := by grobner
  simp only [Jac.more, Jac.add, hz, h1, if_false, e1, e2, e3, e4, hh]

def Jac.of : Pt p → Jac p
  | .inf => ⟨0, 0, 0⟩
  | .at X Y => ⟨X, Y, 1⟩

theorem rep_of (hp : Prime p) (A : Pt p) : Rep (Jac.of A) A := by
  cases A with
  | inf => rfl
  | «at» X Y => exact ⟨one_ne hp, by show X = X * (1 * 1); grobner, by show Y = Y * (1 * 1 * 1); grobner⟩

/-! ### multiples -/
def mulN (A : Pt p) (m : Nat) : Pt p :=
  if _h : m = 0 then .inf else
  bif m % 2 == 1 then addA (addA (mulN A (m / 2)) (mulN A (m / 2))) A else addA (mulN A (m / 2)) (mulN A (m / 2))
termination_by m
decreasing_by all_goals omega

theorem mulN_zero (A : Pt p) : mulN A 0 = .inf := by rw [mulN]; simp

theorem mulN_step (A : Pt p) (m : Nat) : mulN A m = bif m % 2 == 1 then addA (addA (mulN A (m / 2)) (mulN A (m / 2))) A else addA (mulN A (m / 2)) (mulN A (m / 2)) := by
  by_cases h : m = 0
  · subst h; rw [mulN_zero]; rfl
  · rw [mulN, dif_neg h]

theorem on_mulN (hp : Prime p) {b : Fin p} {A : Pt p} (oA : A.on b) (m : Nat) : (mulN A m).on b := by
  induction m using Nat.strongRecOn with
  | ind m ih =>
    by_cases h : m = 0
    · subst h; rw [mulN_zero]; trivial
    · have i := ih (m / 2) (by omega)
      have hd := on_add hp i i
      rw [mulN_step]
      cases m % 2 == 1
      · exact hd
      · exact on_add hp hd oA

def mulJ (q : Jac p) : Nat → Nat → Jac p
  | 0, _ => ⟨0, 0, 0⟩
  | f + 1, m => bif m % 2 == 1 then (mulJ q f (m / 2)).twice.add q else (mulJ q f (m / 2)).twice

theorem rep_mulJ (hp : Prime p) (h2 : (2 : Fin p) ≠ 0) {b : Fin p} {A : Pt p} {q : Jac p} (oA : A.on b) (hq : Rep q A) : ∀ f m, m < 2 ^ f → Rep (mulJ q f m) (mulN A m)
  | 0, m, h => by
    have : m = 0 := by simpa using h
    subst this; rw [mulN_zero]; rfl
  | f + 1, m, h => by
    have ih := rep_mulJ hp h2 oA hq f (m / 2) (by rw [Nat.pow_succ] at h; omega)
    have hd := Rep.twice hp h2 ih
    have ho := on_mulN hp oA (m / 2)
    have hd' := on_add hp ho ho
    rw [mulN_step]
    simp only [mulJ]
    cases m % 2 == 1
    · exact hd
    · exact Rep.add hp h2 hd hq hd' oA

end Go.Proofs.YtjkjlbchbbpmaaaGreatDoor.Ec
/- The curve P-256: its numbers, its base point, and N times it. -/
namespace Go.Proofs.YtjkjlbchbbpmaaaGreatDoor.Ec

def P : Nat := 115792089210356248762697446949407573530086143415290314195533631308867097853951
def N : Nat := 115792089210356248762697446949407573529996955224135760342422259061068512044369
theorem hP : Prime P := prime_P
theorem hN : Prime N := prime_N
instance : NeZero P := ⟨by decide⟩
instance : NeZero N := ⟨by decide⟩

abbrev F := Fin P
def cb : F := ⟨0x5ac635d8aa3a93e7b3ebbd55769886bc651d06b0cc53b0f63bce3c3e27d2604b, by decide⟩
def gx : F := ⟨0x6b17d1f2e12c4247f8bce6e563a440f277037d812deb33a0f4a13945d898c296, by decide⟩
def gy : F := ⟨0x4fe342e2fe1a7f9b8ee7eb4a7c0f9e162bce33576b315ececbb6406837bf51f5, by decide⟩
def G : Pt P := .at gx gy

theorem two_ne : (2 : F) ≠ 0 := by decide +kernel
theorem one_ne' : (1 : F) ≠ 0 := one_ne hP
theorem G_on : G.on cb := by
  show gy * gy = gx * (gx * gx) - 3 * gx + cb
  decide +kernel

/-! ### worked out in numbers -/
def mm (a b : Nat) : Nat := a * b % P
def sm (a b : Nat) : Nat := (P - b + a) % P
def am (a b : Nat) : Nat := (a + b) % P

def dblK {α : Type} (x y z : Nat) (k : Nat → Nat → Nat → α) : α :=
  frc (mm z z) fun zz => frc (mm y y) fun yy => frc (mm 3 (mm (sm x zz) (am x zz))) fun m => frc (mm 4 (mm x yy)) fun s =>
  frc (sm (mm m m) (am s s)) fun x' => frc (sm (mm m (sm s x')) (mm 8 (mm yy yy))) fun y' => frc (mm 2 (mm y z)) fun z' => k x' y' z'

def addK {α : Type} (x y z qx qy : Nat) (k : Nat → Nat → Nat → α) : α :=
  bif z == 0 then k qx qy 1 else
  frc (mm z z) fun pz => frc (sm (mm qx pz) (mm x (mm 1 1))) fun h => frc (sm (mm qy (mm pz z)) (mm y (mm (mm 1 1) 1))) fun r =>
  bif h == 0 then (bif r == 0 then dblK x y z k else k 0 0 0) else
  frc (mm h h) fun hh => frc (mm h hh) fun hhh => frc (mm (mm x (mm 1 1)) hh) fun u => frc (sm (sm (mm r r) hhh) (am u u)) fun x' =>
  frc (sm (mm r (sm u x')) (mm (mm y (mm (mm 1 1) 1)) hhh)) fun y' => frc (mm h (mm z 1)) fun z' => k x' y' z'

theorem val_mul (a b : F) : (a * b).val = mm a.val b.val := Fin.val_mul a b
theorem val_sub (a b : F) : (a - b).val = sm a.val b.val := by rw [Fin.sub_def]; rfl
theorem val_add (a b : F) : (a + b).val = am a.val b.val := Fin.val_add a b
theorem val_1 : (1 : F).val = 1 := by decide +kernel
theorem val_2 : (2 : F).val = 2 := by decide +kernel
theorem val_3 : (3 : F).val = 3 := by decide +kernel
theorem val_4 : (4 : F).val = 4 := by decide +kernel
theorem val_8 : (8 : F).val = 8 := by decide +kernel
theorem val_0 : (0 : F).val = 0 := rfl
theorem val_is0 (a : F) : (a.val == 0) = decide (a = 0) := by
  by_cases h : a = 0
  · subst h; rfl
  · have : a.val ≠ 0 := fun e => h (Fin.ext e)
    simp [h, this]

def Jac.put {α : Type} (j : Jac P) (k : Nat → Nat → Nat → α) : α := k j.x.val j.y.val j.z.val

theorem dblK_eq {α : Type} (j : Jac P) (k : Nat → Nat → Nat → α) : j.put (fun x y z => dblK x y z k) = j.twice.put k := by
  simp only [Jac.put, dblK, frc_eq, Jac.twice, val_mul, val_sub, val_add, val_2, val_3, val_4, val_8]

theorem addK_eq {α : Type} (j : Jac P) (X Y : F) (k : Nat → Nat → Nat → α) : j.put (fun x y z => addK x y z X.val Y.val k) = (j.add ⟨X, Y, 1⟩).put k := by
  have hd := dblK_eq j k
  simp only [Jac.put] at hd ⊢
  simp only [addK, frc_eq, Jac.add, ← val_1, ← val_mul, ← val_sub, ← val_add, val_is0, Bool.cond_decide]
  by_cases h1 : j.z = 0
  · simp only [h1, if_true, val_1]
  · simp only [h1, if_false, one_ne']
    by_cases h2 : X * (j.z * j.z) - j.x * (1 * 1) = 0
    · simp only [h2, if_true]
      by_cases h3 : Y * (j.z * j.z * j.z) - j.y * (1 * 1 * 1) = 0
      · simp only [h3, if_true]; exact hd
      · simp only [h3, if_false, val_0]
    · simp only [h2, if_false]

def mulK {α : Type} (qx qy : Nat) : Nat → Nat → (Nat → Nat → Nat → α) → α
  | 0, _, k => k 0 0 0
  | f + 1, m, k => frc (m / 2) fun m' => mulK qx qy f m' fun x y z => dblK x y z fun x y z => bif m % 2 == 1 then addK x y z qx qy k else k x y z

theorem mulK_eq {α : Type} (X Y : F) : ∀ (f m : Nat) (k : Nat → Nat → Nat → α), mulK X.val Y.val f m k = (mulJ ⟨X, Y, 1⟩ f m).put k
  | 0, _, k => rfl
  | f + 1, m, k => by
    have ih := mulK_eq (α := α) X Y f (m / 2)
    show frc (m / 2) _ = _
    rw [frc_eq, ih]
    show (mulJ ⟨X, Y, 1⟩ f (m / 2)).put (fun x y z => dblK x y z _) = _
    rw [dblK_eq]
    simp only [mulJ]
    cases m % 2 == 1
    · rfl
    · show Jac.put _ (fun x y z => addK x y z X.val Y.val k) = _
      rw [addK_eq]; rfl

theorem NG_z : (mulJ ⟨gx, gy, 1⟩ 256 N).z = 0 := by
  have h := mulK_eq gx gy 256 N (fun _ _ z => z)
  have h1 : mulK gx.val gy.val 256 N (fun _ _ z => z) = 0 := by decide +kernel
  rw [h1] at h
  exact Fin.ext h.symm

/-- N times the base point is the point far out. -/
theorem NG : mulN G N = .inf := by
  have h := rep_mulJ hP two_ne G_on (rep_of hP G) 256 N (by decide +kernel)
  refine Rep.uniq hP h ?_
  exact NG_z

def g2x : F := ⟨0x7cf27b188d034f7e8a52380304b51ac3c08969e277f21b35a60b48fc47669978, by decide⟩
def g2y : F := ⟨0x07775510db8ed040293d9ac69f7430dbba7dade63ce982299e04b79d227873d1, by decide⟩
def g2s : F := ⟨0xa249bcb3191802d3cb56fc75a8731f848e7b2caf080f3477a4e4d904a671af9d, by decide⟩

theorem G2 : mulN G 2 = .at g2x g2y := by
  have h1 : mulN G 1 = G := by rw [mulN_step]; simp [mulN_zero, addA]
  rw [mulN_step]
  show (bif false then _ else addA (mulN G 1) (mulN G 1)) = _
  rw [h1]
  show addA G G = _
  have hn : ¬ (True ∧ gy = -gy) := by decide +kernel
  have hi := inv_ok hP (show gy + gy ≠ 0 by decide +kernel)
  have hs : (3 * (gx * gx) - 3) * inv (gy + gy) = g2s := by
    have e : 3 * (gx * gx) - 3 = g2s * (gy + gy) := by decide +kernel
    rw [e]; grobner
  show addA (.at gx gy) (.at gx gy) = _
  simp only [addA]
  rw [if_neg hn, if_pos ⟨trivial, trivial⟩, hs]
  show Pt.at _ _ = _
  have e1 : g2s * g2s - gx - gx = g2x := by decide +kernel
  rw [e1]
  have e2 : g2s * (gx - g2x) - gy = g2y := by decide +kernel
  rw [e2]

end Go.Proofs.YtjkjlbchbbpmaaaGreatDoor.Ec
/- The sum of points hangs on neither order nor brackets: plain. -/
namespace Go.Proofs.YtjkjlbchbbpmaaaGreatDoor.Ec
variable {p : Nat} [NeZero p]

def Pt.neg : Pt p → Pt p
  | .inf => .inf
  | .at x y => .at x (-y)

theorem neg_neg' (A : Pt p) : A.neg.neg = A := by
  cases A with
  | inf => rfl
  | «at» x y => show Pt.at x (- -y) = _; congr 1; grobner

theorem on_neg {b : Fin p} {A : Pt p} (h : A.on b) : A.neg.on b := by
  cases A with
  | inf => trivial
  | «at» x y => simp only [Pt.on, Pt.neg] at h ⊢; grobner

/-- s is the slope of the line through both (the tangent, if they are the same). -/
def Sl (s x1 y1 x2 y2 : Fin p) : Prop := s * (x2 - x1) = y2 - y1 ∧ x1 * x1 + x1 * x2 + x2 * x2 - 3 = s * (y1 + y2)

theorem Sl.symm {s x1 y1 x2 y2 : Fin p} (h : Sl s x1 y1 x2 y2) : Sl s x2 y2 x1 y1 := by
  obtain ⟨h1, h2⟩ := h
  exact ⟨by grobner, by grobner⟩

theorem Sl.neg {s x1 y1 x2 y2 : Fin p} (h : Sl s x1 y1 x2 y2) : Sl (-s) x1 (-y1) x2 (-y2) := by
  obtain ⟨h1, h2⟩ := h
  exact ⟨by grobner, by grobner⟩

/-- The third point on the line. -/
theorem Sl.third {s x1 y1 x2 y2 x3 y3 : Fin p} (h : Sl s x1 y1 x2 y2) (hx : x3 = s * s - x1 - x2) (hy : y3 = s * (x1 - x3) - y1) : Sl s x1 y1 x3 (-y3) := by
  obtain ⟨h1, h2⟩ := h
  exact ⟨by grobner, by grobner⟩

theorem Sl.third' {s x1 y1 x2 y2 x3 y3 : Fin p} (h : Sl s x1 y1 x2 y2) (hx : x3 = s * s - x1 - x2) (hy : y3 = s * (x1 - x3) - y1) : Sl s x2 y2 x3 (-y3) := by
  obtain ⟨h1, h2⟩ := h
  exact ⟨by grobner, by grobner⟩

theorem Sl.y {s x1 y1 x2 y2 : Fin p} (h : Sl s x1 y1 x2 y2) (x3 : Fin p) : s * (x1 - x3) - y1 = s * (x2 - x3) - y2 := by
  obtain ⟨h1, _⟩ := h
  grobner

theorem Sl.uniq (hp : Prime p) {s t x1 y1 x2 y2 : Fin p} (h : Sl s x1 y1 x2 y2) (h' : Sl t x1 y1 x2 y2) (hn : ¬ (x1 = x2 ∧ y1 = -y2)) : s = t := by
  obtain ⟨h1, h2⟩ := h
  obtain ⟨h3, h4⟩ := h'
  have e1 : (s - t) * (x2 - x1) = 0 := by grobner
  have e2 : (s - t) * (y1 + y2) = 0 := by grobner
  rcases mul_zero_or hp e1 with h | h
  · grobner
  · rcases mul_zero_or hp e2 with h' | h'
    · grobner
    · exact absurd ⟨by grobner, by grobner⟩ hn

theorem exists_sl (hp : Prime p) {b x1 y1 x2 y2 : Fin p} (o1 : (Pt.at x1 y1).on b) (o2 : (Pt.at x2 y2).on b) (hn : ¬ (x1 = x2 ∧ y1 = -y2)) : ∃ s, Sl s x1 y1 x2 y2 ∧ addA (.at x1 y1) (.at x2 y2) = chord s x1 y1 x2 := by
  by_cases h : x1 = x2 ∧ y1 = y2
  · obtain ⟨rfl, rfl⟩ := h
    have hY : y1 + y1 ≠ 0 := by intro h; exact hn ⟨rfl, by grobner⟩
    have hi := inv_ok hp hY
    refine ⟨(3 * (x1 * x1) - 3) * inv (y1 + y1), ⟨by grobner, by grobner⟩, ?_⟩
    simp only [addA, true_and, if_true]
    rw [if_neg (fun h => hn ⟨rfl, h⟩)]
  · have hX : x2 - x1 ≠ 0 := by
      intro e
      have hx : x1 = x2 := by grobner
      subst hx
      rcases on_same_x hp o1 o2 with h4 | h4
      · exact h ⟨rfl, h4⟩
      · exact hn ⟨rfl, h4⟩
    have hi := inv_ok hp hX
    refine ⟨(y2 - y1) * inv (x2 - x1), ⟨by grobner, ?_⟩, ?_⟩
    · simp only [Pt.on] at o1 o2
      have : (x1 * x1 + x1 * x2 + x2 * x2 - 3) * (x2 - x1) = (y2 - y1) * (y1 + y2) := by grobner
      grobner
    · simp only [addA, hn, h, if_false]

theorem addA_of_sl (hp : Prime p) {b s x1 y1 x2 y2 : Fin p} (o1 : (Pt.at x1 y1).on b) (o2 : (Pt.at x2 y2).on b) (hn : ¬ (x1 = x2 ∧ y1 = -y2)) (h : Sl s x1 y1 x2 y2) : addA (.at x1 y1) (.at x2 y2) = chord s x1 y1 x2 := by
  obtain ⟨t, ht, e⟩ := exists_sl hp o1 o2 hn
  rw [h.uniq hp ht hn]; exact e

theorem addA_inf (A : Pt p) : addA A .inf = A := by cases A <;> rfl

theorem addA_comm (hp : Prime p) {b : Fin p} {A B : Pt p} (oA : A.on b) (oB : B.on b) : addA A B = addA B A := by
  cases A with
  | inf => rw [addA_inf]; rfl
  | «at» x1 y1 =>
    cases B with
    | inf => rfl
    | «at» x2 y2 =>
      by_cases hn : x1 = x2 ∧ y1 = -y2
      · obtain ⟨rfl, rfl⟩ := hn
        have : y2 = - -y2 := by grobner
        simp only [addA, true_and, ← this, if_true]
      · have hn' : ¬ (x2 = x1 ∧ y2 = -y1) := by rintro ⟨rfl, h⟩; exact hn ⟨rfl, by grobner⟩
        obtain ⟨s, hs, e⟩ := exists_sl hp oA oB hn
        rw [e, addA_of_sl hp oB oA hn' hs.symm]
        obtain ⟨h1, _⟩ := hs
        have ex : s * s - x2 - x1 = s * s - x1 - x2 := by grobner
        simp only [chord, ex]
        congr 1
        grobner

theorem addA_neg (A : Pt p) : addA A A.neg = .inf := by
  cases A with
  | inf => rfl
  | «at» x y =>
    have : y = - -y := by grobner
    simp only [Pt.neg, addA, true_and, ← this, if_true]

theorem chord_neg (s x1 y1 x2 : Fin p) : (chord s x1 y1 x2).neg = chord (-s) x1 (-y1) x2 := by
  simp only [chord, Pt.neg]
  have e : -s * -s = s * s := by grobner
  rw [e]
  congr 1
  grobner

theorem neg_add (hp : Prime p) {b : Fin p} {A B : Pt p} (oA : A.on b) (oB : B.on b) : (addA A B).neg = addA A.neg B.neg := by
  cases A with
  | inf => rfl
  | «at» x1 y1 =>
    cases B with
    | inf => rfl
    | «at» x2 y2 =>
      by_cases hn : x1 = x2 ∧ y1 = -y2
      · obtain ⟨rfl, rfl⟩ := hn
        simp only [Pt.neg, addA, true_and, if_true]
      · have hn' : ¬ (x1 = x2 ∧ -y1 = - -y2) := by rintro ⟨rfl, h⟩; exact hn ⟨rfl, by grobner⟩
        obtain ⟨s, hs, e⟩ := exists_sl hp oA oB hn
        rw [e, chord_neg]
        exact (addA_of_sl hp (on_neg oA) (on_neg oB) hn' hs.neg).symm

/-- The curve has no singular point. -/
structure Good (b : Fin p) : Prop where
  hp : Prime p
  two : (2 : Fin p) ≠ 0
  three : (3 : Fin p) ≠ 0
  disc : b * b ≠ 4

theorem Good.smooth {b x : Fin p} (g : Good b) (h : (Pt.at x 0).on b) (h' : x * x + x * x + x * x - 3 = 0) : False := by
  have hp := g.hp
  simp only [Pt.on] at h
  have h1 : (3 : Fin p) * (x * x - 1) = 0 := by grobner
  rcases mul_zero_or hp h1 with h2 | h2
  · exact g.three h2
  · exact g.disc (by grobner)

theorem cancel (hp : Prime p) {b : Fin p} (g : Good b) {A B : Pt p} (oA : A.on b) (oB : B.on b) : addA A.neg (addA A B) = B := by
  cases A with
  | inf => rfl
  | «at» x1 y1 =>
    cases B with
    | inf => rw [addA_inf, addA_comm hp (on_neg oA) oA]; exact addA_neg _
    | «at» x2 y2 =>
      by_cases hn : x1 = x2 ∧ y1 = -y2
      · obtain ⟨rfl, rfl⟩ := hn
        have : addA (.at x1 (-y2)) (.at x1 y2) = (.inf : Pt p) := by simp only [addA, true_and, if_true]
        rw [this, addA_inf]
        show Pt.at x1 (- -y2) = _
        congr 1; grobner
      · obtain ⟨s, hs, e⟩ := exists_sl hp oA oB hn
        have oC := on_add hp oA oB
        rw [e] at oC ⊢
        simp only [chord] at oC ⊢
        generalize hx : s * s - x1 - x2 = x3 at oC
        generalize hy : s * (x1 - x3) - y1 = y3 at oC
        have h3 := (hs.third hx.symm hy.symm).neg
        have e3 : - -y3 = y3 := by grobner
        rw [e3] at h3
        have hn' : ¬ (x1 = x3 ∧ -y1 = -y3) := by
          rintro ⟨e1, e2⟩
          have hy1 : y1 = 0 := by
            have h4 : (2 : Fin p) * y1 = 0 := by grobner
            rcases mul_zero_or hp h4 with h5 | h5
            · exact absurd h5 g.two
            · exact h5
          subst hy1
          obtain ⟨_, h4⟩ := h3
          exact g.smooth oA (by grobner)
        show addA (.at x1 (-y1)) (.at x3 y3) = _
        rw [addA_of_sl hp (on_neg oA) oC hn' h3]
        obtain ⟨h1, _⟩ := hs
        have ex : -s * -s - x1 - x3 = x2 := by grobner
        simp only [chord, ex]
        congr 1
        grobner

/-- What the function of three points has: by one way, the second part. -/
theorem way_B (hp : Prime p) {s t u x1 y1 x2 y2 x3 y3 x4 y4 : Fin p} (h12 : Sl s x1 y1 x2 y2) (h23 : Sl t x2 y2 x3 y3) (h43 : Sl u x4 y4 x3 y3)
    (hx : x4 = s * s - x1 - x2) (hy : y4 = s * (x1 - x4) - y1) (hn : ¬ (x4 = x3 ∧ y4 = -y3)) (hd : x2 = x3 → y2 = y3) :
    (x2 * x2 + (s * u + x4) * x2 = (s + u) * y2 - (s * u * x4 + x4 * x4 - 3 + s * (y4 - u * x4) + u * (y2 - s * x2))) ∧ x2 + x3 + (s * u + x4) = (s + u) * t := by
  have h24 : Sl s x2 y2 x4 (-y4) := h12.third' hx hy
  obtain ⟨a1, a2⟩ := h24
  obtain ⟨b1, b2⟩ := h43
  obtain ⟨c1, c2⟩ := h23
  have e2 : x2 * x2 + (s * u + x4) * x2 = (s + u) * y2 - (s * u * x4 + x4 * x4 - 3 + s * (y4 - u * x4) + u * (y2 - s * x2)) := by
    clear b1 b2 c1 c2 hx hy; grobner
  refine ⟨e2, ?_⟩
  have hm : u * (y2 - s * x2) = u * (-y4 - s * x4) := by rw [show y2 - s * x2 = -y4 - s * x4 by clear b1 b2 c1 c2 hx hy e2; grobner]
  have e3 : x3 * x3 + (s * u + x4) * x3 = (s + u) * y3 - (s * u * x4 + x4 * x4 - 3 + s * (y4 - u * x4) + u * (y2 - s * x2)) := by
    rw [hm]; clear a1 a2 c1 c2 hx hy e2 hm; grobner
  by_cases h : x2 = x3
  · have hy' := hd h
    subst h; subst hy'
    have h24 : x2 - x4 ≠ 0 := by
      intro h
      refine hn ⟨by clear a1 a2 b1 b2 c1 c2 hx hy e2 e3 hm; grobner, ?_⟩
      have : x4 = x2 := by clear a1 a2 b1 b2 c1 c2 hx hy e2 e3 hm; grobner
      subst this
      clear a2 b1 b2 c1 c2 hx hy e2 e3 hm h; grobner
    have hi := inv_ok hp h24
    have hk : (x2 + x2 + (s * u + x4) - (s + u) * t) * (x2 - x4) = 0 := by
      have k1 : (s + u) * (x2 - x4) = y2 + y2 := by clear a2 b2 c1 c2 hx hy e2 e3 hm hi; grobner
      have k2 : s * u * (x2 - x4) = s * (y2 - y4) := by clear a1 a2 b2 c1 c2 hx hy e2 e3 hm hi k1; grobner
      have k3 : (s + u) * t * (x2 - x4) = (y2 + y2) * t := by rw [← k1]; clear a1 a2 b1 b2 c1 c2 hx hy e2 e3 hm hi k1 k2; grobner
      have k4 : (x2 + x2 + (s * u + x4) - (s + u) * t) * (x2 - x4) = (x2 + x2 + x4) * (x2 - x4) + s * u * (x2 - x4) - (s + u) * t * (x2 - x4) := by
        clear a1 a2 b1 b2 c1 c2 hx hy e2 e3 hm hi k1 k2 k3; grobner
      rw [k4, k2, k3]
      clear a1 b1 b2 c1 hx hy e2 e3 hm hi k1 k2 k3 k4; grobner
    rcases mul_zero_or hp hk with h | h
    · clear a1 a2 b1 b2 c1 c2 hx hy e2 e3 hm hi hk; grobner
    · exact absurd h h24
  · have hk : (x2 + x3 + (s * u + x4) - (s + u) * t) * (x3 - x2) = 0 := by
      have k1 : (s + u) * t * (x3 - x2) = (s + u) * (y3 - y2) := by rw [← c1]; clear a1 a2 b1 b2 c1 c2 hx hy e2 e3 hm; grobner
      have k2 : (x2 + x3 + (s * u + x4) - (s + u) * t) * (x3 - x2) = x3 * x3 + (s * u + x4) * x3 - (x2 * x2 + (s * u + x4) * x2) - (s + u) * t * (x3 - x2) := by
        clear a1 a2 b1 b2 c1 c2 hx hy e2 e3 hm k1; grobner
      rw [k2, e2, e3, k1]
      clear a1 a2 b1 b2 c1 c2 hx hy e2 e3 hm k1 k2; grobner
    rcases mul_zero_or hp hk with h' | h'
    · clear a1 a2 b1 b2 c1 c2 hx hy e2 e3 hm hk; grobner
    · exact absurd (by clear a1 a2 b1 b2 c1 c2 hx hy e2 e3 hm hk; grobner) h

theorem way_C (hp : Prime p) {s u t x1 y1 x2 y2 x3 y3 x4 y4 x6 y6 : Fin p} (h12 : Sl s x1 y1 x2 y2) (h23 : Sl t x2 y2 x3 y3) (h43 : Sl u x4 y4 x3 y3)
    (hx : x4 = s * s - x1 - x2) (hy : y4 = s * (x1 - x4) - y1) (hn : ¬ (x4 = x3 ∧ y4 = -y3)) (hd : x2 = x3 → y2 = y3)
    (hx6 : x6 = u * u - x4 - x3) (hy6 : y6 = u * (x4 - x6) - y4) :
    x6 = (s + u) * (s + u) - ((s * u + x4) + (s * u + x4)) - x1 - x2 - x3 ∧ (s + u) * y6 = -(x6 * x6 + (s * u + x4) * x6 + ((s + u) * y2 - x2 * x2 - (s * u + x4) * x2)) := by
  have hB := (way_B hp h12 h23 h43 hx hy hn hd).1
  have h46 : Sl u x4 y4 x6 (-y6) := h43.third hx6 hy6
  have h24 : Sl s x2 y2 x4 (-y4) := h12.third' hx hy
  refine ⟨by rw [hx6, hx]; clear hB h46 hx hy hx6 hy6 h24 hn hd h12 h23 h43; grobner, ?_⟩
  obtain ⟨a1, a2⟩ := h24
  obtain ⟨c1, c2⟩ := h46
  have e : (s + u) * y2 - x2 * x2 - (s * u + x4) * x2 = s * u * x4 + x4 * x4 - 3 + s * (y4 - u * x4) + u * (y2 - s * x2) := by
    clear a1 a2 c1 c2 hx hy hx6 hy6 hn hd h12 h23 h43; grobner
  have hm : u * (y2 - s * x2) = u * (-y4 - s * x4) := by rw [show y2 - s * x2 = -y4 - s * x4 by clear c1 c2 hx hy hx6 hy6 hn hd h12 h23 h43 hB e; grobner]
  rw [e, hm]
  clear a1 a2 hx hy hx6 hy6 hn hd h12 h23 h43 hB e hm
  grobner

/-- Three points of which no two are opposite, and so on. -/
theorem assoc_gen (hp : Prime p) {s t u v x1 y1 x2 y2 x3 y3 x4 y4 x5 y5 : Fin p}
    (h12 : Sl s x1 y1 x2 y2) (h23 : Sl t x2 y2 x3 y3) (h43 : Sl u x4 y4 x3 y3) (h15 : Sl v x1 y1 x5 y5)
    (hx : x4 = s * s - x1 - x2) (hy : y4 = s * (x1 - x4) - y1) (hx5 : x5 = t * t - x2 - x3) (hy5 : y5 = t * (x2 - x5) - y2)
    (hn : ¬ (x4 = x3 ∧ y4 = -y3)) (hn' : ¬ (x1 = x5 ∧ y1 = -y5)) (hd : x2 = x3 → y2 = y3) (hd' : x2 = x1 → y2 = y1) (hst : s ≠ t) (h13 : x1 ≠ x3) :
    (chord u x4 y4 x3 : Pt p) = chord v x1 y1 x5 := by
  have hy5' : y5 = t * (x3 - x5) - y3 := by rw [hy5]; exact h23.y x5
  have hx5' : x5 = t * t - x3 - x2 := by rw [hx5]; grobner
  have hn2 : ¬ (x5 = x1 ∧ y5 = -y1) := by rintro ⟨rfl, h⟩; exact hn' ⟨rfl, by grobner⟩
  have B := (way_B hp h12 h23 h43 hx hy hn hd).2
  have B' := (way_B hp h23.symm h12.symm h15.symm hx5' hy5' hn2 hd').2
  generalize hx6 : u * u - x4 - x3 = x6
  generalize hy6 : u * (x4 - x6) - y4 = y6
  generalize hx7 : v * v - x1 - x5 = x7
  generalize hy7 : v * (x1 - x7) - y1 = y7
  have hx7' : x7 = v * v - x5 - x1 := by rw [← hx7]; grobner
  have hy7' : y7 = v * (x5 - x7) - y5 := by rw [← hy7]; exact h15.y x7
  have C := way_C hp h12 h23 h43 hx hy hn hd hx6.symm hy6.symm
  have C' := way_C hp h23.symm h12.symm h15.symm hx5' hy5' hn2 hd' hx7' hy7'
  have A : x1 + x2 + (s * u + x4) = (s + u) * s := by rw [hx]; clear C C' B B'; grobner
  have A' : x3 + x2 + (t * v + x5) = (t + v) * t := by rw [hx5]; clear C C' B B'; grobner
  generalize hw : s + u = w at A B C
  generalize hq : s * u + x4 = q at A B C
  generalize hw' : t + v = w' at A' B' C'
  generalize hq' : t * v + x5 = q' at A' B' C'
  have hww : w = w' := by
    have : (w - w') * (s - t) = 0 := by clear C C' h12 h23 h43 h15 hx hy hx5 hy5 hy5' hx5' hn2 hx6 hy6 hx7 hy7 hx7' hy7' hw hq hw' hq'; grobner
    rcases mul_zero_or hp this with h | h
    · clear A A' B B' C C' h12 h23 h43 h15 hx hy hx5 hy5 hy5' hx5' hn2 hx6 hy6 hx7 hy7 hx7' hy7' hw hq hw' hq'; grobner
    · exact absurd (by clear A A' B B' C C' h12 h23 h43 h15 hx hy hx5 hy5 hy5' hx5' hn2 hx6 hy6 hx7 hy7 hx7' hy7' hw hq hw' hq'; grobner) hst
  subst hww
  have hqq : q = q' := by clear C C' h12 h23 h43 h15 hx hy hx5 hy5 hy5' hx5' hn2 hx6 hy6 hx7 hy7 hx7' hy7' hw hq hw' hq'; grobner
  subst hqq
  have hw0 : w ≠ 0 := by
    intro h
    subst h
    exact h13 (by clear C C' h12 h23 h43 h15 hx hy hx5 hy5 hy5' hx5' hn2 hx6 hy6 hx7 hy7 hx7' hy7' hw hq hw' hq'; grobner)
  have hxx : x6 = x7 := by clear h12 h23 h43 h15 hx hy hx5 hy5 hy5' hx5' hn2 hx6 hy6 hx7 hy7 hx7' hy7' hw hq hw' hq'; grobner
  have hyy : y6 = y7 := by
    subst hxx
    have : w * (y6 - y7) = 0 := by clear A A' B B' h12 h23 h43 h15 hx hy hx5 hy5 hy5' hx5' hn2 hx6 hy6 hx7 hy7 hx7' hy7' hw hq hw' hq'; grobner
    rcases mul_zero_or hp this with h | h
    · exact absurd h hw0
    · clear A A' B B' C C' h12 h23 h43 h15 hx hy hx5 hy5 hy5' hx5' hn2 hx6 hy6 hx7 hy7 hx7' hy7' hw hq hw' hq'; grobner
  show Pt.at (u * u - x4 - x3) (u * (x4 - (u * u - x4 - x3)) - y4) = Pt.at (v * v - x1 - x5) (v * (x1 - (v * v - x1 - x5)) - y1)
  rw [hx6, hy6, hx7, hy7, hxx, hyy]


/-- A point on the line through two is one of the three. -/
theorem on_line (hp : Prime p) {b s x1 y1 x2 y2 x3 y3 : Fin p} (o1 : (Pt.at x1 y1).on b) (o3 : (Pt.at x3 y3).on b) (h12 : Sl s x1 y1 x2 y2) (h3 : y3 - y1 = s * (x3 - x1)) :
    x3 = x1 ∨ x3 = x2 ∨ x3 = s * s - x1 - x2 := by
  obtain ⟨h1, h2⟩ := h12
  simp only [Pt.on] at o1 o3
  have e : (x3 - x1) * ((x3 - x2) * (x3 - (s * s - x1 - x2))) = 0 := by
    have hy : y3 = y1 + s * (x3 - x1) := by clear o1 o3 h1 h2; grobner
    subst hy
    have hy2 : y2 = y1 + s * (x2 - x1) := by clear o1 o3 h2 h3; grobner
    subst hy2
    clear h1 h3
    have k : (x3 - x2) * (x3 - (s * s - x1 - x2)) = x3 * x3 + x1 * x3 + x1 * x1 - 3 - (s * y1 + s * y1) - s * s * (x3 - x1) := by clear o1 o3; grobner
    rw [k]
    clear k h2
    have k : x1 * (x1 * x1) - 3 * x1 - y1 * y1 = -b := by rw [o1]; clear o1 o3; grobner
    have k3 : x3 * (x3 * x3) - 3 * x3 - (y1 + s * (x3 - x1)) * (y1 + s * (x3 - x1)) = -b := by rw [o3]; clear o1 o3 k; grobner
    have k4 : (x3 - x1) * (x3 * x3 + x1 * x3 + x1 * x1 - 3 - (s * y1 + s * y1) - s * s * (x3 - x1)) = x3 * (x3 * x3) - 3 * x3 - (y1 + s * (x3 - x1)) * (y1 + s * (x3 - x1)) - (x1 * (x1 * x1) - 3 * x1 - y1 * y1) := by clear o1 o3 k k3; grobner
    rw [k4, k, k3]
    clear k k3 k4 o1 o3; grobner
  rcases mul_zero_or hp e with h | h
  · left; clear o1 o3 h1 h2 h3 e; grobner
  · rcases mul_zero_or hp h with h | h
    · right; left; clear o1 o3 h1 h2 h3 e; grobner
    · right; right; clear o1 o3 h1 h2 h3 e; grobner

theorem Pt.opp_of {x1 y1 x2 y2 : Fin p} (h : x1 = x2 ∧ y1 = -y2) : (Pt.at x2 y2) = (Pt.at x1 y1).neg := by
  obtain ⟨rfl, rfl⟩ := h
  show _ = Pt.at _ (- -y2)
  congr 1; grobner

theorem assoc {b : Fin p} (g : Good b) {A B C : Pt p} (oA : A.on b) (oB : B.on b) (oC : C.on b) : addA (addA A B) C = addA A (addA B C) := by
  have hp := g.hp
  have comm := @addA_comm p _ hp b
  have can := fun {A B : Pt p} => cancel hp g (A := A) (B := B)
  have can' : ∀ {A B : Pt p}, A.on b → B.on b → addA A (addA A.neg B) = B := fun {A B} hA hB => by
    have := can (on_neg hA) hB
    rwa [neg_neg'] at this
  have oAB := on_add hp oA oB
  have oBC := on_add hp oB oC
  -- one is the opposite of another
  by_cases h1 : B = A.neg
  · subst h1
    rw [addA_neg, can' oA oC]; rfl
  by_cases h2 : C = B.neg
  · subst h2
    rw [addA_neg, addA_inf, comm oA oB, comm (on_add hp oB oA) (on_neg oB)]
    exact can oB oA
  by_cases h3 : A = C
  · subst h3
    rw [comm oA oBC, comm oBC oA, comm oB oA, comm oAB oA]
  by_cases h4 : C = A.neg
  · subst h4
    rw [comm oAB (on_neg oA), can oA oB, comm oB (on_neg oA), can' oA oB]
  by_cases h5 : C = (addA A B).neg
  · subst h5
    rw [addA_neg, neg_add hp oA oB, comm (on_neg oA) (on_neg oB), can' oB (on_neg oA), addA_neg]
  by_cases h6 : addA B C = A.neg
  · have hC : C = (addA A B).neg := by
      have := can oB oC
      rw [h6, ← neg_add hp oB oA, comm oB oA] at this
      exact this.symm
    exact absurd hC h5
  cases A with
  | inf => rfl
  | «at» x1 y1 =>
  cases B with
  | inf => rw [addA_inf]; rfl
  | «at» x2 y2 =>
  cases C with
  | inf => rw [addA_inf, addA_inf]
  | «at» x3 y3 =>
  have n12 : ¬ (x1 = x2 ∧ y1 = -y2) := fun h => h1 (Pt.opp_of h)
  have n23 : ¬ (x2 = x3 ∧ y2 = -y3) := fun h => h2 (Pt.opp_of h)
  obtain ⟨s, hs, es⟩ := exists_sl hp oA oB n12
  obtain ⟨t, ht, et⟩ := exists_sl hp oB oC n23
  rw [es] at oAB h5 ⊢
  rw [et] at oBC h6 ⊢
  simp only [chord] at oAB oBC h5 h6
  have es' : (chord s x1 y1 x2 : Pt p) = .at (s * s - x1 - x2) (s * (x1 - (s * s - x1 - x2)) - y1) := rfl
  have et' : (chord t x2 y2 x3 : Pt p) = .at (t * t - x2 - x3) (t * (x2 - (t * t - x2 - x3)) - y2) := rfl
  rw [es', et']
  generalize hx4 : s * s - x1 - x2 = x4 at *
  generalize hy4 : s * (x1 - x4) - y1 = y4 at *
  generalize hx5 : t * t - x2 - x3 = x5 at *
  generalize hy5 : t * (x2 - x5) - y2 = y5 at *
  have n43 : ¬ (x4 = x3 ∧ y4 = -y3) := fun h => h5 (Pt.opp_of h)
  have n15 : ¬ (x1 = x5 ∧ y1 = -y5) := fun h => h6 (Pt.opp_of h)
  have h13 : x1 ≠ x3 := by
    rintro rfl
    rcases on_same_x hp oA oC with h | h
    · exact h3 (by rw [h])
    · exact h4 (Pt.opp_of ⟨rfl, h⟩)
  have d23 : x2 = x3 → y2 = y3 := by
    rintro rfl
    rcases on_same_x hp oB oC with h | h
    · exact h
    · exact absurd ⟨rfl, h⟩ n23
  have d21 : x2 = x1 → y2 = y1 := by
    rintro rfl
    rcases on_same_x hp oA oB with h | h
    · exact h.symm
    · exact absurd ⟨rfl, h⟩ n12
  have hst : s ≠ t := by
    rintro rfl
    have hl : y3 - y1 = s * (x3 - x1) := by
      have a1 := hs.1
      have b1 := ht.1
      clear hx4 hy4 hx5 hy5 oA oB oC oAB oBC
      grobner
    rcases on_line hp oA oC hs hl with h | h | h
    · exact h13 h.symm
    · subst h
      have h32 := d23 rfl
      subst h32
      -- the line is the tangent at the second point
      obtain ⟨a1, a2⟩ := hs
      obtain ⟨b1, b2⟩ := ht
      have e : (x3 - x1) * (x3 - x4) = 0 := by
        have hl' : y2 = y1 + s * (x3 - x1) := by clear hx4 hy4 hx5 hy5 oA oB oC oAB oBC a1 a2 b1 b2; grobner
        subst hl'
        clear hy4 hx5 hy5 oA oB oC oAB oBC a1 b1 hl
        grobner
      rcases mul_zero_or hp e with h | h
      · exact h13 (by clear hx4 hy4 hx5 hy5 oA oB oC oAB oBC a1 a2 b1 b2 hl e; grobner)
      · refine n43 ⟨by clear hx4 hy4 hx5 hy5 oA oB oC oAB oBC a1 a2 b1 b2 hl e; grobner, ?_⟩
        have : x4 = x3 := by clear hx4 hy4 hx5 hy5 oA oB oC oAB oBC a1 a2 b1 b2 hl e; grobner
        rw [← hy4, this]
        clear hx4 hy4 hx5 hy5 oA oB oC oAB oBC a1 a2 b1 b2 e h; grobner
    · rw [hx4] at h
      refine n43 ⟨h.symm, ?_⟩
      rw [← hy4, ← h]
      clear hx4 hy4 hx5 hy5 oA oB oC oAB oBC h; grobner
  obtain ⟨u, hu, eu⟩ := exists_sl hp oAB oC n43
  obtain ⟨v, hv, ev⟩ := exists_sl hp oA oBC n15
  rw [eu, ev]
  exact assoc_gen hp hs ht hu hv hx4.symm hy4.symm hx5.symm hy5.symm n43 n15 d23 d21 hst h13

end Go.Proofs.YtjkjlbchbbpmaaaGreatDoor.Ec
/- Primes by parts of n - 1, and by curves: plain. -/
namespace Go.Proofs.YtjkjlbchbbpmaaaGreatDoor.Ecp
open Ec

/-! ### by parts of n - 1 -/
def Ones (n F : Nat) : Prop := F ∣ n - 1 ∧ ∀ d, Prime d → d ∣ n → F ∣ d - 1
theorem ones_1 (n : Nat) : Ones n 1 := ⟨Nat.one_dvd _, fun _ _ _ => Nat.one_dvd _⟩
theorem ones_cons {n F q k a f : Nat} (o : Ones n F) (hq : Prime q) (hk : 0 < k) (hn : 2 ≤ n) (hf : n ≤ 2 ^ f) (h : pockB n q k a f = true) (hc : Nat.gcd (q ^ k) F = 1) : Ones n (q ^ k * F) := by
  have h1 : q ^ k ∣ n - 1 := by
    simp only [pockB, Bool.and_eq_true, beq_iff_eq] at h
    exact Nat.dvd_of_mod_eq_zero h.1.1
  exact ⟨Nat.Coprime.mul_dvd_of_dvd_of_dvd hc h1 o.1, fun d hd hdn => Nat.Coprime.mul_dvd_of_dvd_of_dvd hc (pock_dvd hq hk hd hdn hn hf h) (o.2 d hd hdn)⟩

theorem cube_core {F M x y c1 c2 r : Nat} (hx : 1 ≤ x) (hy : 1 ≤ y) (hM : M = F * (x * y) + (x + y)) (hb : F * M + 1 < F * F * F) (hc : M = c2 * F + c1) (h1 : c1 < F)
    (hr : c1 * c1 < 4 * c2 ∨ (4 * c2 + r * r < c1 * c1 ∧ c1 * c1 < 4 * c2 + (r + 1) * (r + 1))) : False := by
  have hF : 0 < F := by omega
  have hxy : x * y < F := by
    rcases Nat.lt_or_ge (x * y) F with h | h
    · exact h
    · exfalso
      have h2 : F * F ≤ M := by
        have := Nat.mul_le_mul_left F h
        omega
      have h3 := Nat.mul_le_mul_left F h2
      rw [← Nat.mul_assoc] at h3
      omega
  obtain ⟨u, rfl⟩ : ∃ u, x = u + 1 := ⟨x - 1, by omega⟩
  obtain ⟨v, rfl⟩ : ∃ v, y = v + 1 := ⟨y - 1, by omega⟩
  have e : (u + 1) * (v + 1) = u * v + u + v + 1 := by grind
  have hs : (u + 1) + (v + 1) ≤ F := by omega
  rcases Nat.lt_or_ge ((u + 1) + (v + 1)) F with h | h
  · have hq : c1 = (u + 1) + (v + 1) ∧ c2 = (u + 1) * (v + 1) := by
      have a1 : M % F = (u + 1) + (v + 1) := by rw [hM, Nat.mul_add_mod, Nat.mod_eq_of_lt h]
      have a2 : M % F = c1 := by rw [hc, Nat.mul_comm, Nat.mul_add_mod, Nat.mod_eq_of_lt h1]
      have b1 : M / F = (u + 1) * (v + 1) := by rw [hM, Nat.mul_add_div hF, Nat.div_eq_of_lt h, Nat.add_zero]
      have b2 : M / F = c2 := by rw [hc, Nat.mul_comm, Nat.mul_add_div hF, Nat.div_eq_of_lt h1, Nat.add_zero]
      exact ⟨by rw [← a2, a1], by rw [← b2, b1]⟩
    obtain ⟨rfl, rfl⟩ := hq
    have key : ∀ s t : Nat, s ≤ t → ((s + 1) + (t + 1)) * ((s + 1) + (t + 1)) = 4 * ((s + 1) * (t + 1)) + (t - s) * (t - s) := by
      intro s t hst
      obtain ⟨w, rfl⟩ : ∃ w, t = s + w := ⟨t - s, by omega⟩
      rw [Nat.add_sub_cancel_left]
      grind
    have hw : ∃ w, ((u + 1) + (v + 1)) * ((u + 1) + (v + 1)) = 4 * ((u + 1) * (v + 1)) + w * w := by
      rcases Nat.le_total u v with hl | hl
      · exact ⟨_, key u v hl⟩
      · have := key v u hl
        exact ⟨u - v, by rw [Nat.add_comm (u + 1), Nat.mul_comm (u + 1)]; exact this⟩
    obtain ⟨w, hw⟩ := hw
    rw [hw] at hr
    rcases hr with hr | ⟨h2, h3⟩
    · omega
    · have a : r * r < w * w := by omega
      have b : w * w < (r + 1) * (r + 1) := by omega
      have a' : r < w := by
        rcases Nat.lt_or_ge r w with h | h
        · exact h
        · have := Nat.mul_le_mul h h; omega
      have := Nat.mul_le_mul a' a'
      rw [Nat.succ_eq_add_one] at this
      omega
  · have h4 : u * v = 0 := by omega
    have h5 : F * (F * ((u + 1) * (v + 1))) + F * ((u + 1) + (v + 1)) = F * F * F := by
      have e2 : (u + 1) * (v + 1) = F - 1 := by omega
      have e3 : (u + 1) + (v + 1) = F := by omega
      rw [e2, e3]
      obtain ⟨G, rfl⟩ : ∃ G, F = G + 1 := ⟨F - 1, by omega⟩
      rw [Nat.add_sub_cancel]
      grind
    rw [hM, Nat.mul_add, h5] at hb
    omega

theorem ones_cube {n F M : Nat} (o : Ones n F) (hn : 2 ≤ n) (c1 c2 r : Nat) (hM : n = F * M + 1) (hc : M = c2 * F + c1) (h1 : c1 < F) (hb : n < F * F * F)
    (hr : c1 * c1 < 4 * c2 ∨ (4 * c2 + r * r < c1 * c1 ∧ c1 * c1 < 4 * c2 + (r + 1) * (r + 1))) : Prime n := by
  obtain ⟨d, hd, ⟨e, he⟩, h | h⟩ := exists_prime_dvd n hn
  · exact h
  · exfalso
    have hF : 0 < F := by omega
    obtain ⟨x, hx⟩ := o.2 d hd ⟨e, he⟩
    have hd2 := hd.1
    have hdx : d = F * x + 1 := by omega
    have hx1 : 1 ≤ x := by
      rcases Nat.eq_zero_or_pos x with h0 | h0
      · subst h0; omega
      · exact h0
    have hle : d ≤ e := by
      rw [he] at h
      exact Nat.le_of_mul_le_mul_left h (by omega)
    have hE : F * (x * e) + e = F * M + 1 := by
      rw [← hM, he, hdx, Nat.add_mul, Nat.one_mul, Nat.mul_assoc]
    have hxe : x * e ≤ M := by
      refine Nat.le_of_mul_le_mul_left (c := F) ?_ hF
      omega
    obtain ⟨y, hy⟩ : ∃ y, M = x * e + y := ⟨M - x * e, by omega⟩
    have hey : e = F * y + 1 := by
      rw [hy, Nat.mul_add] at hE
      omega
    have hy1 : 1 ≤ y := by
      rcases Nat.eq_zero_or_pos y with h0 | h0
      · subst h0; omega
      · exact h0
    refine cube_core (F := F) (M := M) (x := x) (y := y) (c1 := c1) (c2 := c2) (r := r) hx1 hy1 ?_ (by omega) hc h1 hr
    rw [hy, hey]
    grind

theorem ones_sqrt {n F : Nat} (o : Ones n F) (hn : 2 ≤ n) (hb : n < F * F) : Prime n := by
  obtain ⟨d, hd, hdn, h | h⟩ := exists_prime_dvd n hn
  · exact h
  · exfalso
    have h2 := o.2 d hd hdn
    have h3 := hd.1
    have h4 := Nat.le_of_dvd (by omega) h2
    have := Nat.mul_le_mul (show F ≤ d by omega) (show F ≤ d by omega)
    omega

/-- A number for each point. -/
def codeB {p : Nat} : Pt p → Nat
  | .inf => 0
  | .at x y => 1 + 2 * x.val + y.val % 2
theorem codeB_lt {p : Nat} (A : Pt p) : codeB A < 2 * p + 1 := by
  cases A with
  | inf => exact Nat.succ_pos _
  | «at» x y =>
    have := x.isLt
    show 1 + 2 * x.val + y.val % 2 < 2 * p + 1
    omega
theorem negB_val {p : Nat} (y : Fin p) (h : y.val ≠ 0) : (-y).val = p - y.val := by
  have := y.isLt
  rw [Fin.neg_def]
  exact Nat.mod_eq_of_lt (by show p - y.val < p; omega)
/-! ### by curves -/
section
variable {p : Nat} [NeZero p]

def nB (A : Pt p) : Nat → Pt p
  | 0 => .inf
  | n + 1 => addA (nB A n) A
theorem on_nB (hp : Prime p) {b : Fin p} {A : Pt p} (a : A.on b) : ∀ n, (nB A n).on b
  | 0 => trivial
  | n + 1 => on_add hp (on_nB hp a n) a
theorem nB_add {b : Fin p} (g : Good b) {A : Pt p} (a : A.on b) (m : Nat) : ∀ n, nB A (m + n) = addA (nB A m) (nB A n)
  | 0 => (addA_inf _).symm
  | n + 1 => by show addA (nB A (m + n)) A = addA (nB A m) (addA (nB A n) A); rw [nB_add g a m n, assoc g (on_nB g.hp a m) (on_nB g.hp a n) a]
theorem nB_mul {b : Fin p} (g : Good b) {A : Pt p} (a : A.on b) (m : Nat) : ∀ n, nB A (m * n) = nB (nB A m) n
  | 0 => rfl
  | n + 1 => by rw [Nat.mul_succ, nB_add g a, nB_mul g a m n]; rfl
theorem nB_one (A : Pt p) : nB A 1 = A := rfl
theorem nB_inf : ∀ n, nB (.inf : Pt p) n = .inf
  | 0 => rfl
  | n + 1 => by show addA (nB .inf n) .inf = _; rw [nB_inf n]; rfl
theorem left_cancel {b : Fin p} (g : Good b) {A B C : Pt p} (a : A.on b) (hb : B.on b) (c : C.on b) (h : addA A B = addA A C) : B = C := by
  have := congrArg (addA A.neg) h
  rwa [cancel g.hp g a hb, cancel g.hp g a c] at this

theorem pigeon : ∀ (n m : Nat) (f : Nat → Nat), (∀ i, i < m → f i < n) → (∀ i j, i < m → j < m → f i = f j → i = j) → m ≤ n
  | 0, m, f, h, _ => by
    rcases Nat.eq_zero_or_pos m with h0 | h0
    · omega
    · have := h 0 h0; omega
  | n + 1, 0, _, _, _ => by omega
  | n + 1, m + 1, f, h, hi => by
    have := pigeon n m (fun i => if f i = n then f m else f i) (fun i him => by
      have h1 := h i (by omega)
      have h2 := h m (by omega)
      show (if f i = n then f m else f i) < n
      by_cases e : f i = n
      · rw [if_pos e]
        by_cases e2 : f m = n
        · have := hi i m (by omega) (by omega) (by rw [e, e2]); omega
        · omega
      · rw [if_neg e]; omega) (fun i j him hjm e => by
      by_cases e1 : f i = n
      · rw [if_pos e1] at e
        by_cases e2 : f j = n
        · exact hi i j (by omega) (by omega) (by rw [e1, e2])
        · rw [if_neg e2] at e
          have := hi m j (by omega) (by omega) e; omega
      · rw [if_neg e1] at e
        by_cases e2 : f j = n
        · rw [if_pos e2] at e
          have := hi i m (by omega) (by omega) e; omega
        · rw [if_neg e2] at e
          exact hi i j (by omega) (by omega) e)
    omega

theorem codeB_inj (hp : Prime p) (hodd : p % 2 = 1) {b : Fin p} {A B : Pt p} (a : A.on b) (hb : B.on b) (h : codeB A = codeB B) : A = B := by
  cases A with
  | inf =>
    cases B with
    | inf => rfl
    | «at» x y => simp only [codeB] at h; omega
  | «at» x y =>
    cases B with
    | inf => simp only [codeB] at h; omega
    | «at» x' y' =>
      simp only [codeB] at h
      have hx : x = x' := Fin.ext (by omega)
      subst hx
      have hy : y.val % 2 = y'.val % 2 := by omega
      rcases on_same_x hp a hb with h1 | h1
      · rw [h1]
      · by_cases h0 : y'.val = 0
        · have h2 : y' = 0 := Fin.ext h0
          subst h2
          rw [h1, show -(0 : Fin p) = 0 by grobner]
        · exfalso
          rw [h1, negB_val _ h0] at hy
          have := y'.isLt
          omega

/-- A point that q takes far out, q a prime: the field isn't small. -/
theorem field_big {b : Fin p} (g : Good b) (hodd : p % 2 = 1) {A : Pt p} (a : A.on b) (hA : A ≠ .inf) {q : Nat} (hq : Prime q) (hz : nB A q = .inf) : q ≤ 2 * p + 1 := by
  have hq2 := hq.1
  have hmod : ∀ k, nB A k = nB A (k % q) := by
    intro k
    have : nB A (q * (k / q) + k % q) = nB A (k % q) := by
      rw [nB_add g a, nB_mul g a, hz, nB_inf]; rfl
    rw [← this, Nat.div_add_mod]
  have hzero : ∀ k, 0 < k → k < q → nB A k ≠ .inf := by
    intro k h0 hk h
    have hnd : ¬ q ∣ k := fun hd => by have := Nat.le_of_dvd h0 hd; omega
    have hinv : k * k ^ (q - 2) % q = 1 := by
      have hf := fermat hq (a := k) hnd
      rw [show q - 1 = q - 2 + 1 by omega, Nat.pow_succ, Nat.mul_comm] at hf
      rw [hf, Nat.mod_eq_of_lt (by omega)]
    have h1 : nB A (k * k ^ (q - 2)) = A := by rw [hmod, hinv, nB_one]
    rw [nB_mul g a, h, nB_inf] at h1
    exact hA h1.symm
  have key : ∀ i j : Nat, i ≤ j → j < q → nB A i = nB A j → i = j := by
    intro i j hij hj h
    obtain ⟨d, rfl⟩ : ∃ d, j = i + d := ⟨j - i, by omega⟩
    rcases Nat.eq_zero_or_pos d with h0 | h0
    · omega
    · exfalso
      rw [nB_add g a] at h
      have h2 : addA (nB A i) .inf = addA (nB A i) (nB A d) := by rw [addA_inf]; exact h
      exact hzero d h0 (by omega) (left_cancel g (on_nB g.hp a i) (show Pt.on b .inf from trivial) (on_nB g.hp a d) h2).symm
  refine pigeon (2 * p + 1) q (fun i => codeB (nB A i)) (fun i _ => codeB_lt _) (fun i j hi hj h => ?_)
  have h := codeB_inj g.hp hodd (on_nB g.hp a i) (on_nB g.hp a j) h
  rcases Nat.le_total i j with h1 | h1
  · exact key i j h1 hj h
  · exact (key j i h1 hi h.symm).symm

/-- Multiples on the way down, without a division. -/
def wk (X Y : Fin p) : Nat → Nat → Jac p
  | 0, _ => ⟨X, Y, 1⟩
  | f + 1, m => bif m == 1 then ⟨X, Y, 1⟩ else bif m % 2 == 1 then (wk X Y f (m / 2)).twice.more X Y else (wk X Y f (m / 2)).twice

theorem rep_wk {b : Fin p} (g : Good b) {X Y : Fin p} (a : (Pt.at X Y).on b) : ∀ f m, 1 ≤ m → m < 2 ^ f → (wk X Y f m).z ≠ 0 → Rep (wk X Y f m) (nB (.at X Y) m)
  | 0, m, h1, h, _ => by omega
  | f + 1, m, h1, h, hz => by
    have hr1 : Rep (⟨X, Y, 1⟩ : Jac p) (.at X Y) := rep_of g.hp (.at X Y)
    unfold wk at hz ⊢
    by_cases e1 : m = 1
    · subst e1; exact hr1
    · have e2 : (m == 1) = false := by rw [beq_eq_false_iff_ne]; exact e1
      rw [e2] at hz ⊢
      simp only [cond_false] at hz ⊢
      have ih := rep_wk g a f (m / 2) (by omega) (by rw [Nat.pow_succ] at h; omega)
      have hd : m = m / 2 + m / 2 + m % 2 := by omega
      have tz : (wk X Y f (m / 2)).twice.z = 2 * ((wk X Y f (m / 2)).y * (wk X Y f (m / 2)).z) := rfl
      have hpre : (wk X Y f (m / 2)).twice.z ≠ 0 → Rep (wk X Y f (m / 2)).twice (nB (.at X Y) (m / 2 + m / 2)) := by
        intro h0
        rw [nB_add g a]
        refine Rep.twice g.hp g.two (ih fun h3 => h0 ?_)
        rw [tz, h3]; grobner
      rcases Nat.mod_two_eq_zero_or_one m with h0 | h0
      · have e : (m % 2 == 1) = false := by rw [h0]; rfl
        rw [e] at hz ⊢
        simp only [cond_false] at hz ⊢
        rw [show m = m / 2 + m / 2 by omega] at ⊢
        rw [show (m / 2 + m / 2) / 2 = m / 2 by omega]
        exact hpre hz
      · have e : (m % 2 == 1) = true := by rw [h0]; rfl
        rw [e] at hz ⊢
        simp only [cond_true] at hz ⊢
        have e3 : nB (.at X Y) m = addA (nB (.at X Y) (m / 2 + m / 2)) (.at X Y) := by
          have : m = (m / 2 + m / 2) + 1 := by omega
          exact (congrArg (nB (.at X Y)) this).trans rfl
        rw [e3]
        generalize (wk X Y f (m / 2)).twice = j at hz hpre ⊢
        have mz : (j.more X Y).z = j.z * (X * (j.z * j.z) - j.x) := rfl
        rw [mz] at hz
        have hjz : j.z ≠ 0 := fun h3 => hz (by rw [h3]; grobner)
        have hh : X * (j.z * j.z) - j.x ≠ 0 := fun h3 => hz (by rw [h3]; grobner)
        rw [more_add hjz (one_ne g.hp) hh]
        exact Rep.add g.hp g.two (hpre hjz) hr1 (on_nB g.hp a _) a
end

/-! ### modulo n, and modulo a divisor -/
section
variable {n d : Nat}
def red (d : Nat) [NeZero d] (a : Fin n) : Fin d := Fin.ofNat d a.val
theorem red_mul [NeZero d] (h : d ∣ n) (a b : Fin n) : red d (a * b) = red d a * red d b := by
  apply Fin.ext
  rw [Fin.val_mul]
  show (a * b).val % d = a.val % d * (b.val % d) % d
  rw [Fin.val_mul, Nat.mod_mod_of_dvd _ h, ← Nat.mul_mod]
theorem red_add [NeZero d] (h : d ∣ n) (a b : Fin n) : red d (a + b) = red d a + red d b := by
  apply Fin.ext
  rw [Fin.val_add]
  show (a + b).val % d = (a.val % d + b.val % d) % d
  rw [Fin.val_add, Nat.mod_mod_of_dvd _ h, ← Nat.add_mod]
theorem red_sub [NeZero n] [NeZero d] (h : d ∣ n) (a b : Fin n) : red d (a - b) = red d a - red d b := by
  have e : a - b + b = a := by grobner
  have h1 := red_add h (a - b) b
  rw [e] at h1
  grobner
theorem red_lit [NeZero n] [NeZero d] (h : d ∣ n) (k : Nat) : red d (Fin.ofNat n k) = Fin.ofNat d k := by
  apply Fin.ext
  show k % n % d = k % d
  exact Nat.mod_mod_of_dvd _ h
def jred (d : Nat) [NeZero d] (j : Jac n) : Jac d := ⟨red d j.x, red d j.y, red d j.z⟩
theorem jred_twice [NeZero n] [NeZero d] (h : d ∣ n) (j : Jac n) : jred d j.twice = (jred d j).twice := by
  have e2 : red d (2 : Fin n) = 2 := red_lit h 2
  have e3 : red d (3 : Fin n) = 3 := red_lit h 3
  have e4 : red d (4 : Fin n) = 4 := red_lit h 4
  have e8 : red d (8 : Fin n) = 8 := red_lit h 8
  simp only [jred, Jac.twice, red_mul h, red_add h, red_sub h, e2, e3, e4, e8]
theorem jred_more [NeZero n] [NeZero d] (h : d ∣ n) (j : Jac n) (X Y : Fin n) : jred d (j.more X Y) = (jred d j).more (red d X) (red d Y) := by
  simp only [jred, Jac.more, red_mul h, red_add h, red_sub h]
theorem jred_wk [NeZero n] [NeZero d] (h : d ∣ n) (X Y : Fin n) : ∀ f m, jred d (wk X Y f m) = wk (red d X) (red d Y) f m
  | 0, m => by
    have e1 : red d (1 : Fin n) = 1 := red_lit h 1
    simp only [wk, jred, e1]
  | f + 1, m => by
    have e1 : red d (1 : Fin n) = 1 := red_lit h 1
    unfold wk
    cases m == 1
    · simp only [cond_false]
      cases m % 2 == 1
      · simp only [cond_false]; rw [jred_twice h, jred_wk h X Y f]
      · simp only [cond_true]; rw [jred_more h, jred_twice h, jred_wk h X Y f]
    · simp only [cond_true, jred, e1]

/-! ### worked out in numbers -/
def Jac.putN {α : Type} (j : Jac n) (k : Nat → Nat → Nat → α) : α := k j.x.val j.y.val j.z.val
def mmN (n a b : Nat) : Nat := a * b % n
def smN (n a b : Nat) : Nat := (n - b + a) % n
def amN (n a b : Nat) : Nat := (a + b) % n
def dblN {α : Type} (n x y z : Nat) (k : Nat → Nat → Nat → α) : α :=
  frc (mmN n z z) fun zz => frc (mmN n y y) fun yy => frc (mmN n (3 % n) (mmN n (smN n x zz) (amN n x zz))) fun m => frc (mmN n (4 % n) (mmN n x yy)) fun s =>
  frc (smN n (mmN n m m) (amN n s s)) fun x' => frc (smN n (mmN n m (smN n s x')) (mmN n (8 % n) (mmN n yy yy))) fun y' => frc (mmN n (2 % n) (mmN n y z)) fun z' => k x' y' z'
def moreN {α : Type} (n x y z X Y : Nat) (k : Nat → Nat → Nat → α) : α :=
  frc (mmN n z z) fun zz => frc (smN n (mmN n X zz) x) fun h => frc (smN n (mmN n Y (mmN n zz z)) y) fun r => frc (mmN n h h) fun hh => frc (mmN n h hh) fun hhh => frc (mmN n x hh) fun v =>
  frc (smN n (smN n (mmN n r r) hhh) (amN n v v)) fun x' => frc (smN n (mmN n r (smN n v x')) (mmN n y hhh)) fun y' => frc (mmN n z h) fun z' => k x' y' z'
def wkN {α : Type} (n X Y : Nat) : Nat → Nat → (Nat → Nat → Nat → α) → α
  | 0, _, k => k X Y (1 % n)
  | f + 1, m, k => bif m == 1 then k X Y (1 % n) else frc (m / 2) fun m' => wkN n X Y f m' fun x y z => dblN n x y z fun x y z => bif m % 2 == 1 then moreN n x y z X Y k else k x y z

theorem valN_mul (a b : Fin n) : (a * b).val = mmN n a.val b.val := Fin.val_mul a b
theorem valN_sub (a b : Fin n) : (a - b).val = smN n a.val b.val := by rw [Fin.sub_def]; rfl
theorem valN_add (a b : Fin n) : (a + b).val = amN n a.val b.val := Fin.val_add a b
theorem valN_1 [NeZero n] : (1 : Fin n).val = 1 % n := rfl
theorem valN_2 [NeZero n] : (2 : Fin n).val = 2 % n := rfl
theorem valN_3 [NeZero n] : (3 : Fin n).val = 3 % n := rfl
theorem valN_4 [NeZero n] : (4 : Fin n).val = 4 % n := rfl
theorem valN_8 [NeZero n] : (8 : Fin n).val = 8 % n := rfl
theorem dblN_eq [NeZero n] {α : Type} (j : Jac n) (k : Nat → Nat → Nat → α) : Jac.putN j (fun x y z => dblN n x y z k) = Jac.putN j.twice k := by
  simp only [Jac.putN, dblN, frc_eq, Jac.twice, valN_mul, valN_sub, valN_add, valN_2, valN_3, valN_4, valN_8]
theorem moreN_eq {α : Type} (j : Jac n) (X Y : Fin n) (k : Nat → Nat → Nat → α) : Jac.putN j (fun x y z => moreN n x y z X.val Y.val k) = Jac.putN (j.more X Y) k := by
  simp only [Jac.putN, moreN, frc_eq, Jac.more, valN_mul, valN_sub, valN_add]
theorem wkN_eq [NeZero n] {α : Type} (X Y : Fin n) : ∀ (f m : Nat) (k : Nat → Nat → Nat → α), wkN n X.val Y.val f m k = Jac.putN (wk X Y f m) k
  | 0, _, k => rfl
  | f + 1, m, k => by
    have ih := wkN_eq (α := α) X Y f (m / 2)
    unfold wkN wk
    cases m == 1
    · simp only [cond_false]
      rw [frc_eq, ih]
      show Jac.putN (wk X Y f (m / 2)) (fun x y z => dblN n x y z _) = _
      rw [dblN_eq]
      cases m % 2 == 1
      · rfl
      · show Jac.putN _ (fun x y z => moreN n x y z X.val Y.val k) = _
        rw [moreN_eq]; rfl
    · rfl

/-- What is asked of a curve's numbers. -/
def ecB (n b X Y q f : Nat) : Bool :=
  n % 2 == 1 && Nat.gcd (6 * (b * b + 4 * (n - 1))) n == 1 && Nat.blt X n && Nat.blt Y n && Nat.blt b n && mmN n Y Y == amN n (smN n (mmN n X (mmN n X X)) (mmN n (3 % n) X)) b && Nat.blt (q - 1) (2 ^ f) && Nat.blt (4 * n) ((q - 1) * (q - 1)) &&
  wkN n X Y f (q - 1) fun x y z => Nat.gcd z n == 1 && x == mmN n X (mmN n z z) && y == smN n 0 (mmN n Y (mmN n (mmN n z z) z))
end

theorem coprime_val {d n z : Nat} (hd : Prime d) (hdn : d ∣ n) (h : Nat.gcd z n = 1) : ¬ d ∣ z := fun h2 => by
  have h3 := Nat.dvd_gcd h2 hdn
  rw [h] at h3
  have := Nat.le_of_dvd (by omega) h3
  have := hd.1
  omega

theorem prime_curve {n b X Y q f : Nat} (hq : Prime q) (hn : 2 ≤ n) (h : ecB n b X Y q f = true) : Prime n := by
  obtain ⟨d, hd, hdn, h1 | h1⟩ := exists_prime_dvd n hn
  · exact h1
  exfalso
  have : NeZero n := ⟨by omega⟩
  have : NeZero d := ⟨by have := hd.1; omega⟩
  have hq1 := hq.1
  simp only [ecB, Bool.and_eq_true, beq_iff_eq, Nat.blt_eq] at h
  obtain ⟨⟨⟨⟨⟨⟨⟨⟨hodd, hg⟩, hX⟩, hY⟩, hb⟩, hon⟩, hf⟩, hbig⟩, hw⟩ := h
  obtain ⟨x, hx⟩ : ∃ x : Fin n, x.val = X := ⟨⟨X, hX⟩, rfl⟩
  obtain ⟨y, hy⟩ : ∃ y : Fin n, y.val = Y := ⟨⟨Y, hY⟩, rfl⟩
  obtain ⟨c, hc⟩ : ∃ c : Fin n, c.val = b := ⟨⟨b, hb⟩, rfl⟩
  subst hx hy hc
  rw [wkN_eq] at hw
  simp only [Jac.putN, Bool.and_eq_true, beq_iff_eq] at hw
  have hcurve : y * y = x * (x * x) - 3 * x + c := by
    apply Fin.ext
    rw [valN_mul, valN_add, valN_sub, valN_mul, valN_mul, valN_mul, valN_3]
    exact hon
  obtain ⟨j, hj⟩ : ∃ j, j = wk x y f (q - 1) := ⟨_, rfl⟩
  rw [← hj] at hw
  obtain ⟨⟨hz, hjx⟩, hjy⟩ := hw
  have hjx' : j.x = x * (j.z * j.z) := by
    apply Fin.ext
    rw [valN_mul, valN_mul]; exact hjx
  have hjy' : j.y = 0 - y * (j.z * j.z * j.z) := by
    apply Fin.ext
    rw [valN_sub, valN_mul, valN_mul, valN_mul]; exact hjy
  have e3 : red d (3 : Fin n) = 3 := red_lit hdn 3
  have e0 : red d (0 : Fin n) = 0 := red_lit hdn 0
  have ron : (Pt.at (red d x) (red d y)).on (red d c) := by
    have := congrArg (red d) hcurve
    rw [red_mul hdn, red_add hdn, red_sub hdn, red_mul hdn, red_mul hdn, red_mul hdn, e3] at this
    exact this
  have hg6 := coprime_val hd hdn hg
  have hdodd : d % 2 = 1 := by
    obtain ⟨e, he⟩ := hdn
    rcases Nat.mod_two_eq_zero_or_one d with h0 | h0
    · exfalso
      rw [he, Nat.mul_mod, h0] at hodd
      simp at hodd
    · exact h0
  have good : Good (red d c) := by
    refine ⟨hd, fun h2 => hg6 ?_, fun h3 => hg6 ?_, fun h4 => hg6 ?_⟩
    · have := congrArg Fin.val h2
      have h5 : 2 % d = 0 := this
      exact Nat.dvd_trans (Nat.dvd_of_mod_eq_zero h5) ⟨3 * (c.val * c.val + 4 * (n - 1)), by omega⟩
    · have := congrArg Fin.val h3
      have h5 : 3 % d = 0 := this
      exact Nat.dvd_trans (Nat.dvd_of_mod_eq_zero h5) ⟨2 * (c.val * c.val + 4 * (n - 1)), by omega⟩
    · have := congrArg Fin.val h4
      have h5 : c.val % d * (c.val % d) % d = 4 % d := this
      rw [← Nat.mul_mod] at h5
      refine Nat.dvd_trans (Nat.dvd_of_mod_eq_zero ?_) ⟨6, Nat.mul_comm _ _⟩
      rw [Nat.add_mod, h5, ← Nat.add_mod, show 4 + 4 * (n - 1) = 4 * n by omega]
      obtain ⟨e, he⟩ := hdn
      rw [he, Nat.mul_left_comm]
      exact Nat.mul_mod_right _ _
  have hjd : jred d j = wk (red d x) (red d y) f (q - 1) := by rw [hj]; exact jred_wk hdn x y f (q - 1)
  have hjz : (jred d j).z ≠ 0 := fun h0 => by
    have h5 : j.z.val % d = 0 := congrArg Fin.val h0
    exact coprime_val hd hdn hz (Nat.dvd_of_mod_eq_zero h5)
  have hrep : Rep (jred d j) (nB (.at (red d x) (red d y)) (q - 1)) := by
    rw [hjd]
    exact rep_wk good ron f (q - 1) (by omega) hf (by rw [← hjd]; exact hjz)
  have hneg : Rep (jred d j) (Pt.at (red d x) (red d y)).neg := by
    refine ⟨hjz, ?_, ?_⟩
    · have := congrArg (red d) hjx'
      rw [red_mul hdn, red_mul hdn] at this
      exact this
    · have := congrArg (red d) hjy'
      rw [red_sub hdn, red_mul hdn, red_mul hdn, red_mul hdn, e0] at this
      have h6 : (jred d j).y = 0 - red d y * ((jred d j).z * (jred d j).z * (jred d j).z) := this
      rw [h6]
      generalize (jred d j).z = z
      grobner
  have hnq := Rep.uniq hd hrep hneg
  have hfar : nB (.at (red d x) (red d y)) q = .inf := by
    have e : q = q - 1 + 1 := by omega
    rw [e]
    show addA (nB (.at (red d x) (red d y)) (q - 1)) (.at (red d x) (red d y)) = .inf
    rw [hnq]
    have := addA_neg (Pt.at (red d x) (red d y)).neg
    rw [neg_neg'] at this
    exact this
  have hle := field_big good hdodd ron (fun h => by cases h) hq hfar
  have h7 := Nat.mul_le_mul (show q - 1 ≤ 2 * d by omega) (show q - 1 ≤ 2 * d by omega)
  have h8 : 2 * d * (2 * d) = 4 * (d * d) := by grind
  omega
end Go.Proofs.YtjkjlbchbbpmaaaGreatDoor.Ecp
/- The known keys' primes are primes. -/
namespace Go.Proofs.YtjkjlbchbbpmaaaGreatDoor.Ecp
open Ec
theorem rp_0 : Prime 8596667 := prime_small 2931 (by decide) (by decide +kernel) (by decide)
theorem rp_1_ones : Ones 68773337 8596667 := by
  have h := (ones_cons (n := 68773337) (q := 8596667) (k := 1) (a := 2) (f := 27) (ones_1 _) rp_0 (by decide) (by decide +kernel) (by decide +kernel) (by decide +kernel) (by decide +kernel))
  exact h
theorem rp_1 : Prime 68773337 := ones_sqrt rp_1_ones (by decide +kernel) (by decide +kernel)
theorem rp_2 : Prime 853 := prime_small 28 (by decide) (by decide +kernel) (by decide)
theorem rp_3_ones : Ones 153442759 853 := by
  have h := (ones_cons (n := 153442759) (q := 853) (k := 1) (a := 2) (f := 28) (ones_1 _) rp_2 (by decide) (by decide +kernel) (by decide +kernel) (by decide +kernel) (by decide +kernel))
  exact h
theorem rp_3 : Prime 153442759 := ones_cube rp_3_ones (by decide +kernel) 756 210 755 (M := 179886) (by decide +kernel) (by decide +kernel) (by decide +kernel) (by decide +kernel) (by decide +kernel)
theorem rp_4 : Prime 29 := prime_small 4 (by decide) (by decide +kernel) (by decide)
theorem rp_5 : Prime 1759 := prime_small 40 (by decide) (by decide +kernel) (by decide)
theorem rp_6_ones : Ones 2452628672269 51011 := by
  have h := (ones_cons (n := 2452628672269) (q := 1759) (k := 1) (a := 2) (f := 42) (ones_cons (n := 2452628672269) (q := 29) (k := 1) (a := 2) (f := 42) (ones_1 _) rp_4 (by decide) (by decide +kernel) (by decide +kernel) (by decide +kernel) (by decide +kernel)) rp_5 (by decide) (by decide +kernel) (by decide +kernel) (by decide +kernel) (by decide +kernel))
  exact h
theorem rp_6 : Prime 2452628672269 := ones_cube rp_6_ones (by decide +kernel) 28026 942 28025 (M := 48080388) (by decide +kernel) (by decide +kernel) (by decide +kernel) (by decide +kernel) (by decide +kernel)
theorem rp_7_ones : Ones 104175181403320771449679647246364924262471784189588960573409709335459547301287 25882027683917521284454790627 := by
  have h := (ones_cons (n := 104175181403320771449679647246364924262471784189588960573409709335459547301287) (q := 2452628672269) (k := 1) (a := 2) (f := 256) (ones_cons (n := 104175181403320771449679647246364924262471784189588960573409709335459547301287) (q := 153442759) (k := 1) (a := 2) (f := 256) (ones_cons (n := 104175181403320771449679647246364924262471784189588960573409709335459547301287) (q := 68773337) (k := 1) (a := 2) (f := 256) (ones_1 _) rp_1 (by decide) (by decide +kernel) (by decide +kernel) (by decide +kernel) (by decide +kernel)) rp_3 (by decide) (by decide +kernel) (by decide +kernel) (by decide +kernel) (by decide +kernel)) rp_6 (by decide) (by decide +kernel) (by decide +kernel) (by decide +kernel) (by decide +kernel))
  exact h
theorem rp_7 : Prime 104175181403320771449679647246364924262471784189588960573409709335459547301287 := ones_cube rp_7_ones (by decide +kernel) 11820464241520640170872010454 155513347754181518532 11820464241520640170872010453 (M := 4025000771792418748245303141782064329943852410018) (by decide +kernel) (by decide +kernel) (by decide +kernel) (by decide +kernel) (by decide +kernel)
theorem rp_8 : Prime 11 := prime_small 2 (by decide) (by decide +kernel) (by decide)
theorem rp_9 : Prime 70583 := prime_small 264 (by decide) (by decide +kernel) (by decide)
theorem rp_10_ones : Ones 284747861351503001 8540543 := by
  have h := (ones_cons (n := 284747861351503001) (q := 70583) (k := 1) (a := 2) (f := 58) (ones_cons (n := 284747861351503001) (q := 11) (k := 2) (a := 2) (f := 58) (ones_1 _) rp_8 (by decide) (by decide +kernel) (by decide +kernel) (by decide +kernel) (by decide +kernel)) rp_9 (by decide) (by decide +kernel) (by decide +kernel) (by decide +kernel) (by decide +kernel))
  exact h
theorem rp_10 : Prime 284747861351503001 := ones_cube rp_10_ones (by decide +kernel) 6981671 3903 6981670 (M := 33340721000) (by decide +kernel) (by decide +kernel) (by decide +kernel) (by decide +kernel) (by decide +kernel)
theorem rp_11_ones : Ones 2390743043907219196397 284747861351503001 := by
  have h := (ones_cons (n := 2390743043907219196397) (q := 284747861351503001) (k := 1) (a := 2) (f := 72) (ones_1 _) rp_10 (by decide) (by decide +kernel) (by decide +kernel) (by decide +kernel) (by decide +kernel))
  exact h
theorem rp_11 : Prime 2390743043907219196397 := ones_sqrt rp_11_ones (by decide +kernel) (by decide +kernel)
theorem rp_12_ones : Ones 2041694559496765193723039 2390743043907219196397 := by
  have h := (ones_cons (n := 2041694559496765193723039) (q := 2390743043907219196397) (k := 1) (a := 2) (f := 81) (ones_1 _) rp_11 (by decide) (by decide +kernel) (by decide +kernel) (by decide +kernel) (by decide +kernel))
  exact h
theorem rp_12 : Prime 2041694559496765193723039 := ones_sqrt rp_12_ones (by decide +kernel) (by decide +kernel)
theorem rp_13_ones : Ones 1807720446367554896052766176679 2041694559496765193723039 := by
  have h := (ones_cons (n := 1807720446367554896052766176679) (q := 2041694559496765193723039) (k := 1) (a := 2) (f := 101) (ones_1 _) rp_12 (by decide) (by decide +kernel) (by decide +kernel) (by decide +kernel) (by decide +kernel))
  exact h
theorem rp_13 : Prime 1807720446367554896052766176679 := ones_sqrt rp_13_ones (by decide +kernel) (by decide +kernel)
theorem rp_14_ones : Ones 24961748704267101437313769107248423749 1807720446367554896052766176679 := by
  have h := (ones_cons (n := 24961748704267101437313769107248423749) (q := 1807720446367554896052766176679) (k := 1) (a := 2) (f := 125) (ones_1 _) rp_13 (by decide) (by decide +kernel) (by decide +kernel) (by decide +kernel) (by decide +kernel))
  exact h
theorem rp_14 : Prime 24961748704267101437313769107248423749 := ones_sqrt rp_14_ones (by decide +kernel) (by decide +kernel)
theorem rp_15 : Prime 246665619237745473837253481365257400127068787323242909147298005427 := prime_curve (b := 232820157223293865151427982278792147233000101906452802996624574734) (X := 185594230827860416215351079515023585878984501027923585082724155567) (Y := 8064628727539501711586787742169645953742812600356708482911570452) (f := 125) rp_14 (by decide +kernel) (by decide +kernel)
theorem rp_16 : Prime 90835215976978105469291653094359399275992969542283932128434133045209869664573 := prime_curve (b := 69099532392530305868688858939740878685470596257236763707438610247589596420992) (X := 17363274548267242781975630957230746540117478955586559352196830642972208944308) (Y := 24299299051760714097888565938791124672092670852583908063738433727259569079529) (f := 218) rp_15 (by decide +kernel) (by decide +kernel)
theorem rp_17 : Prime 5 := prime_small 1 (by decide) (by decide +kernel) (by decide)
theorem rp_18 : Prime 81559 := prime_small 284 (by decide) (by decide +kernel) (by decide)
theorem rp_19_ones : Ones 51917609444714681 407795 := by
  have h := (ones_cons (n := 51917609444714681) (q := 81559) (k := 1) (a := 2) (f := 56) (ones_cons (n := 51917609444714681) (q := 5) (k := 1) (a := 3) (f := 56) (ones_1 _) rp_17 (by decide) (by decide +kernel) (by decide +kernel) (by decide +kernel) (by decide +kernel)) rp_18 (by decide) (by decide +kernel) (by decide +kernel) (by decide +kernel) (by decide +kernel))
  exact h
theorem rp_19 : Prime 51917609444714681 := ones_cube rp_19_ones (by decide +kernel) 227894 312198 227891 (M := 127313011304) (by decide +kernel) (by decide +kernel) (by decide +kernel) (by decide +kernel) (by decide +kernel)
theorem rp_20_ones : Ones 3521839861729454270167329061433355169063168831133 51917609444714681 := by
  have h := (ones_cons (n := 3521839861729454270167329061433355169063168831133) (q := 51917609444714681) (k := 1) (a := 2) (f := 162) (ones_1 _) rp_19 (by decide) (by decide +kernel) (by decide +kernel) (by decide +kernel) (by decide +kernel))
  exact h
theorem rp_20 : Prime 3521839861729454270167329061433355169063168831133 := ones_cube rp_20_ones (by decide +kernel) 9764168624452160 1306592709242652 9764168624452159 (M := 67835169981771662311008360226172) (by decide +kernel) (by decide +kernel) (by decide +kernel) (by decide +kernel) (by decide +kernel)
theorem rp_21 : Prime 56386702578935394327949573019299023702340577549968309954899866063127079392313301 := prime_curve (b := 38690113547144593069673547646054893131179379141378872877450089514608021204871159) (X := 26366663944965741015897642276724890128617325064159614924446430417741301085623315) (Y := 24492373208013979607309486099512793972260181649394940375928998685519526872069526) (f := 162) rp_20 (by decide +kernel) (by decide +kernel)
theorem rp_22 : Prime 429139 := prime_small 654 (by decide) (by decide +kernel) (by decide)
theorem rp_23 : Prime 2531 := prime_small 49 (by decide) (by decide +kernel) (by decide)
theorem rp_24_ones : Ones 253611263 2531 := by
  have h := (ones_cons (n := 253611263) (q := 2531) (k := 1) (a := 2) (f := 28) (ones_1 _) rp_23 (by decide) (by decide +kernel) (by decide +kernel) (by decide +kernel) (by decide +kernel))
  exact h
theorem rp_24 : Prime 253611263 := ones_cube rp_24_ones (by decide +kernel) 1493 39 1492 (M := 100202) (by decide +kernel) (by decide +kernel) (by decide +kernel) (by decide +kernel) (by decide +kernel)
theorem rp_25_ones : Ones 29418906509 253611263 := by
  have h := (ones_cons (n := 29418906509) (q := 253611263) (k := 1) (a := 2) (f := 35) (ones_1 _) rp_24 (by decide) (by decide +kernel) (by decide +kernel) (by decide +kernel) (by decide +kernel))
  exact h
theorem rp_25 : Prime 29418906509 := ones_sqrt rp_25_ones (by decide +kernel) (by decide +kernel)
theorem rp_26 : Prime 480461 := prime_small 692 (by decide) (by decide +kernel) (by decide)
theorem rp_27_ones : Ones 55733477 480461 := by
  have h := (ones_cons (n := 55733477) (q := 480461) (k := 1) (a := 2) (f := 26) (ones_1 _) rp_26 (by decide) (by decide +kernel) (by decide +kernel) (by decide +kernel) (by decide +kernel))
  exact h
theorem rp_27 : Prime 55733477 := ones_sqrt rp_27_ones (by decide +kernel) (by decide +kernel)
theorem rp_28_ones : Ones 5796281609 55733477 := by
  have h := (ones_cons (n := 5796281609) (q := 55733477) (k := 1) (a := 2) (f := 33) (ones_1 _) rp_27 (by decide) (by decide +kernel) (by decide +kernel) (by decide +kernel) (by decide +kernel))
  exact h
theorem rp_28 : Prime 5796281609 := ones_sqrt rp_28_ones (by decide +kernel) (by decide +kernel)
theorem rp_29_ones : Ones 1843217551663 5796281609 := by
  have h := (ones_cons (n := 1843217551663) (q := 5796281609) (k := 1) (a := 2) (f := 41) (ones_1 _) rp_28 (by decide) (by decide +kernel) (by decide +kernel) (by decide +kernel) (by decide +kernel))
  exact h
theorem rp_29 : Prime 1843217551663 := ones_sqrt rp_29_ones (by decide +kernel) (by decide +kernel)
theorem rp_30_ones : Ones 23041726706273730938560524953453871125589531386512618703556529620391927597462337 23270253168095307262298293913 := by
  have h := (ones_cons (n := 23041726706273730938560524953453871125589531386512618703556529620391927597462337) (q := 1843217551663) (k := 1) (a := 2) (f := 264) (ones_cons (n := 23041726706273730938560524953453871125589531386512618703556529620391927597462337) (q := 29418906509) (k := 1) (a := 2) (f := 264) (ones_cons (n := 23041726706273730938560524953453871125589531386512618703556529620391927597462337) (q := 429139) (k := 1) (a := 2) (f := 264) (ones_1 _) rp_22 (by decide) (by decide +kernel) (by decide +kernel) (by decide +kernel) (by decide +kernel)) rp_25 (by decide) (by decide +kernel) (by decide +kernel) (by decide +kernel) (by decide +kernel)) rp_29 (by decide) (by decide +kernel) (by decide +kernel) (by decide +kernel) (by decide +kernel))
  exact h
theorem rp_30 : Prime 23041726706273730938560524953453871125589531386512618703556529620391927597462337 := ones_cube rp_30_ones (by decide +kernel) 10631953973797820217033299500 42551297247490094344244 10631953973797820217033299499 (M := 990179459579971495610672665742217328590828745086272) (by decide +kernel) (by decide +kernel) (by decide +kernel) (by decide +kernel) (by decide +kernel)
theorem rp_31 : Prime 277919 := prime_small 526 (by decide) (by decide +kernel) (by decide)
theorem rp_32_ones : Ones 12718766268349 277919 := by
  have h := (ones_cons (n := 12718766268349) (q := 277919) (k := 1) (a := 2) (f := 44) (ones_1 _) rp_31 (by decide) (by decide +kernel) (by decide +kernel) (by decide +kernel) (by decide +kernel))
  exact h
theorem rp_32 : Prime 12718766268349 := ones_cube rp_32_ones (by decide +kernel) 185576 164 185575 (M := 45764292) (by decide +kernel) (by decide +kernel) (by decide +kernel) (by decide +kernel) (by decide +kernel)
theorem rp_33 : Prime 2239 := prime_small 46 (by decide) (by decide +kernel) (by decide)
theorem rp_34 : Prime 2549 := prime_small 49 (by decide) (by decide +kernel) (by decide)
theorem rp_35_ones : Ones 1381872765645767 5707211 := by
  have h := (ones_cons (n := 1381872765645767) (q := 2549) (k := 1) (a := 2) (f := 51) (ones_cons (n := 1381872765645767) (q := 2239) (k := 1) (a := 2) (f := 51) (ones_1 _) rp_33 (by decide) (by decide +kernel) (by decide +kernel) (by decide +kernel) (by decide +kernel)) rp_34 (by decide) (by decide +kernel) (by decide +kernel) (by decide +kernel) (by decide +kernel))
  exact h
theorem rp_35 : Prime 1381872765645767 := ones_cube rp_35_ones (by decide +kernel) 2424644 42 2424643 (M := 242127506) (by decide +kernel) (by decide +kernel) (by decide +kernel) (by decide +kernel) (by decide +kernel)
theorem rp_36_ones : Ones 57610772645209837073581731621458686992108894456112639744922187037253193335746943 17575716718845524151797928683 := by
  have h := (ones_cons (n := 57610772645209837073581731621458686992108894456112639744922187037253193335746943) (q := 1381872765645767) (k := 1) (a := 2) (f := 265) (ones_cons (n := 57610772645209837073581731621458686992108894456112639744922187037253193335746943) (q := 12718766268349) (k := 1) (a := 2) (f := 265) (ones_1 _) rp_32 (by decide) (by decide +kernel) (by decide +kernel) (by decide +kernel) (by decide +kernel)) rp_35 (by decide) (by decide +kernel) (by decide +kernel) (by decide +kernel) (by decide +kernel))
  exact h
theorem rp_36 : Prime 57610772645209837073581731621458686992108894456112639744922187037253193335746943 := ones_cube rp_36_ones (by decide +kernel) 559456329801401195976528478 186499474125908657587412 559456329801401195976528477 (M := 3277861925450631039771083858789770912315429591066874) (by decide +kernel) (by decide +kernel) (by decide +kernel) (by decide +kernel) (by decide +kernel)
theorem rp_37 : Prime 2039 := prime_small 44 (by decide) (by decide +kernel) (by decide)
theorem rp_38_ones : Ones 300393637 2039 := by
  have h := (ones_cons (n := 300393637) (q := 2039) (k := 1) (a := 2) (f := 29) (ones_1 _) rp_37 (by decide) (by decide +kernel) (by decide +kernel) (by decide +kernel) (by decide +kernel))
  exact h
theorem rp_38 : Prime 300393637 := ones_cube rp_38_ones (by decide +kernel) 516 72 515 (M := 147324) (by decide +kernel) (by decide +kernel) (by decide +kernel) (by decide +kernel) (by decide +kernel)
theorem rp_39 : Prime 2 := prime_small 0 (by decide) (by decide +kernel) (by decide)
theorem rp_40 : Prime 3 := prime_small 0 (by decide) (by decide +kernel) (by decide)
theorem rp_41 : Prime 383 := prime_small 18 (by decide) (by decide +kernel) (by decide)
theorem rp_42_ones : Ones 17617695133 4596 := by
  have h := (ones_cons (n := 17617695133) (q := 383) (k := 1) (a := 2) (f := 35) (ones_cons (n := 17617695133) (q := 3) (k := 1) (a := 2) (f := 35) (ones_cons (n := 17617695133) (q := 2) (k := 2) (a := 2) (f := 35) (ones_1 _) rp_39 (by decide) (by decide +kernel) (by decide +kernel) (by decide +kernel) (by decide +kernel)) rp_40 (by decide) (by decide +kernel) (by decide +kernel) (by decide +kernel) (by decide +kernel)) rp_41 (by decide) (by decide +kernel) (by decide +kernel) (by decide +kernel) (by decide +kernel))
  exact h
theorem rp_42 : Prime 17617695133 := ones_cube rp_42_ones (by decide +kernel) 203 834 194 (M := 3833267) (by decide +kernel) (by decide +kernel) (by decide +kernel) (by decide +kernel) (by decide +kernel)
theorem rp_43_ones : Ones 70470780533 17617695133 := by
  have h := (ones_cons (n := 70470780533) (q := 17617695133) (k := 1) (a := 2) (f := 37) (ones_1 _) rp_42 (by decide) (by decide +kernel) (by decide +kernel) (by decide +kernel) (by decide +kernel))
  exact h
theorem rp_43 : Prime 70470780533 := ones_sqrt rp_43_ones (by decide +kernel) (by decide +kernel)
theorem rp_44 : Prime 23 := prime_small 3 (by decide) (by decide +kernel) (by decide)
theorem rp_45 : Prime 31 := prime_small 4 (by decide) (by decide +kernel) (by decide)
theorem rp_46_ones : Ones 121680326340269 65596 := by
  have h := (ones_cons (n := 121680326340269) (q := 31) (k := 1) (a := 2) (f := 47) (ones_cons (n := 121680326340269) (q := 23) (k := 2) (a := 2) (f := 47) (ones_cons (n := 121680326340269) (q := 2) (k := 2) (a := 2) (f := 47) (ones_1 _) rp_39 (by decide) (by decide +kernel) (by decide +kernel) (by decide +kernel) (by decide +kernel)) rp_44 (by decide) (by decide +kernel) (by decide +kernel) (by decide +kernel) (by decide +kernel)) rp_45 (by decide) (by decide +kernel) (by decide +kernel) (by decide +kernel) (by decide +kernel))
  exact h
theorem rp_46 : Prime 121680326340269 := ones_cube rp_46_ones (by decide +kernel) 6849 28279 6840 (M := 1854996133) (by decide +kernel) (by decide +kernel) (by decide +kernel) (by decide +kernel) (by decide +kernel)
theorem rp_47_ones : Ones 243360652680539 121680326340269 := by
  have h := (ones_cons (n := 243360652680539) (q := 121680326340269) (k := 1) (a := 2) (f := 48) (ones_1 _) rp_46 (by decide) (by decide +kernel) (by decide +kernel) (by decide +kernel) (by decide +kernel))
  exact h
theorem rp_47 : Prime 243360652680539 := ones_sqrt rp_47_ones (by decide +kernel) (by decide +kernel)
theorem rp_48_ones : Ones 53496828316885632078152529844314900191676054381191742620116216498061294429224241 5151695345409767475445233550612819 := by
  have h := (ones_cons (n := 53496828316885632078152529844314900191676054381191742620116216498061294429224241) (q := 243360652680539) (k := 1) (a := 2) (f := 265) (ones_cons (n := 53496828316885632078152529844314900191676054381191742620116216498061294429224241) (q := 70470780533) (k := 1) (a := 2) (f := 265) (ones_cons (n := 53496828316885632078152529844314900191676054381191742620116216498061294429224241) (q := 300393637) (k := 1) (a := 2) (f := 265) (ones_1 _) rp_38 (by decide) (by decide +kernel) (by decide +kernel) (by decide +kernel) (by decide +kernel)) rp_43 (by decide) (by decide +kernel) (by decide +kernel) (by decide +kernel) (by decide +kernel)) rp_47 (by decide) (by decide +kernel) (by decide +kernel) (by decide +kernel) (by decide +kernel))
  exact h
theorem rp_48 : Prime 53496828316885632078152529844314900191676054381191742620116216498061294429224241 := ones_cube rp_48_ones (by decide +kernel) 4897916299030045686464369616746160 2015708327200 4897916299030045686464369616746159 (M := 10384315206944846512769708841205546290983122960) (by decide +kernel) (by decide +kernel) (by decide +kernel) (by decide +kernel) (by decide +kernel)
theorem rp_49 : Prime 244901 := prime_small 493 (by decide) (by decide +kernel) (by decide)
theorem rp_50 : Prime 521789 := prime_small 721 (by decide) (by decide +kernel) (by decide)
theorem rp_51 : Prime 5040043 := prime_small 2244 (by decide) (by decide +kernel) (by decide)
theorem rp_52_ones : Ones 3024025801 5040043 := by
  have h := (ones_cons (n := 3024025801) (q := 5040043) (k := 1) (a := 2) (f := 32) (ones_1 _) rp_51 (by decide) (by decide +kernel) (by decide +kernel) (by decide +kernel) (by decide +kernel))
  exact h
theorem rp_52 : Prime 3024025801 := ones_sqrt rp_52_ones (by decide +kernel) (by decide +kernel)
theorem rp_53 : Prime 43 := prime_small 5 (by decide) (by decide +kernel) (by decide)
theorem rp_54 : Prime 311 := prime_small 16 (by decide) (by decide +kernel) (by decide)
theorem rp_55_ones : Ones 17831114824951739 414563 := by
  have h := (ones_cons (n := 17831114824951739) (q := 311) (k := 1) (a := 2) (f := 54) (ones_cons (n := 17831114824951739) (q := 43) (k := 1) (a := 2) (f := 54) (ones_cons (n := 17831114824951739) (q := 31) (k := 1) (a := 2) (f := 54) (ones_1 _) rp_45 (by decide) (by decide +kernel) (by decide +kernel) (by decide +kernel) (by decide +kernel)) rp_53 (by decide) (by decide +kernel) (by decide +kernel) (by decide +kernel) (by decide +kernel)) rp_54 (by decide) (by decide +kernel) (by decide +kernel) (by decide +kernel) (by decide +kernel))
  exact h
theorem rp_55 : Prime 17831114824951739 := ones_cube rp_55_ones (by decide +kernel) 93350 103752 93347 (M := 43011833726) (by decide +kernel) (by decide +kernel) (by decide +kernel) (by decide +kernel) (by decide +kernel)
theorem rp_56_ones : Ones 33334697368834311340811853737954568717949635273318747906579318874483209383822545078454378668325488946119192633475059 558128867510844533305917509122837142451 := by
  have h := (ones_cons (n := 33334697368834311340811853737954568717949635273318747906579318874483209383822545078454378668325488946119192633475059) (q := 17831114824951739) (k := 1) (a := 2) (f := 384) (ones_cons (n := 33334697368834311340811853737954568717949635273318747906579318874483209383822545078454378668325488946119192633475059) (q := 3024025801) (k := 1) (a := 2) (f := 384) (ones_cons (n := 33334697368834311340811853737954568717949635273318747906579318874483209383822545078454378668325488946119192633475059) (q := 521789) (k := 1) (a := 2) (f := 384) (ones_cons (n := 33334697368834311340811853737954568717949635273318747906579318874483209383822545078454378668325488946119192633475059) (q := 244901) (k := 1) (a := 2) (f := 384) (ones_cons (n := 33334697368834311340811853737954568717949635273318747906579318874483209383822545078454378668325488946119192633475059) (q := 3) (k := 4) (a := 2) (f := 384) (ones_1 _) rp_40 (by decide) (by decide +kernel) (by decide +kernel) (by decide +kernel) (by decide +kernel)) rp_49 (by decide) (by decide +kernel) (by decide +kernel) (by decide +kernel) (by decide +kernel)) rp_50 (by decide) (by decide +kernel) (by decide +kernel) (by decide +kernel) (by decide +kernel)) rp_52 (by decide) (by decide +kernel) (by decide +kernel) (by decide +kernel) (by decide +kernel)) rp_55 (by decide) (by decide +kernel) (by decide +kernel) (by decide +kernel) (by decide +kernel))
  exact h
theorem rp_56 : Prime 33334697368834311340811853737954568717949635273318747906579318874483209383822545078454378668325488946119192633475059 := ones_cube rp_56_ones (by decide +kernel) 279873556008228778385098487683318168771 107010783885170132365900472981472343537 279873556008228778385098487683318168770 (M := 59725807621277738032140194769353371173592181133797026541129782767454596357958) (by decide +kernel) (by decide +kernel) (by decide +kernel) (by decide +kernel) (by decide +kernel)
theorem rp_57 : Prime 7540369 := prime_small 2744 (by decide) (by decide +kernel) (by decide)
theorem rp_58 : Prime 139 := prime_small 10 (by decide) (by decide +kernel) (by decide)
theorem rp_59 : Prime 179 := prime_small 12 (by decide) (by decide +kernel) (by decide)
theorem rp_60_ones : Ones 7194209470840603 671787 := by
  have h := (ones_cons (n := 7194209470840603) (q := 179) (k := 1) (a := 2) (f := 53) (ones_cons (n := 7194209470840603) (q := 139) (k := 1) (a := 2) (f := 53) (ones_cons (n := 7194209470840603) (q := 3) (k := 3) (a := 3) (f := 53) (ones_1 _) rp_40 (by decide) (by decide +kernel) (by decide +kernel) (by decide +kernel) (by decide +kernel)) rp_58 (by decide) (by decide +kernel) (by decide +kernel) (by decide +kernel) (by decide +kernel)) rp_59 (by decide) (by decide +kernel) (by decide +kernel) (by decide +kernel) (by decide +kernel))
  exact h
theorem rp_60 : Prime 7194209470840603 := ones_cube rp_60_ones (by decide +kernel) 106679 15941 106678 (M := 10709063246) (by decide +kernel) (by decide +kernel) (by decide +kernel) (by decide +kernel) (by decide +kernel)
theorem rp_61 : Prime 13 := prime_small 2 (by decide) (by decide +kernel) (by decide)
theorem rp_62 : Prime 60961 := prime_small 245 (by decide) (by decide +kernel) (by decide)
theorem rp_63_ones : Ones 12992735991949481 133931317 := by
  have h := (ones_cons (n := 12992735991949481) (q := 60961) (k := 1) (a := 2) (f := 54) (ones_cons (n := 12992735991949481) (q := 13) (k := 3) (a := 2) (f := 54) (ones_1 _) rp_61 (by decide) (by decide +kernel) (by decide +kernel) (by decide +kernel) (by decide +kernel)) rp_62 (by decide) (by decide +kernel) (by decide +kernel) (by decide +kernel) (by decide +kernel))
  exact h
theorem rp_63 : Prime 12992735991949481 := ones_sqrt rp_63_ones (by decide +kernel) (by decide +kernel)
theorem rp_64_ones : Ones 337738567497956002244416159453104048076954186002678056186374886027156435448259743706868221419989023 704816872352961655461798738723568148867 := by
  have h := (ones_cons (n := 337738567497956002244416159453104048076954186002678056186374886027156435448259743706868221419989023) (q := 12992735991949481) (k := 1) (a := 2) (f := 328) (ones_cons (n := 337738567497956002244416159453104048076954186002678056186374886027156435448259743706868221419989023) (q := 7194209470840603) (k := 1) (a := 2) (f := 328) (ones_cons (n := 337738567497956002244416159453104048076954186002678056186374886027156435448259743706868221419989023) (q := 7540369) (k := 1) (a := 2) (f := 328) (ones_1 _) rp_57 (by decide) (by decide +kernel) (by decide +kernel) (by decide +kernel) (by decide +kernel)) rp_60 (by decide) (by decide +kernel) (by decide +kernel) (by decide +kernel) (by decide +kernel)) rp_63 (by decide) (by decide +kernel) (by decide +kernel) (by decide +kernel) (by decide +kernel))
  exact h
theorem rp_64 : Prime 337738567497956002244416159453104048076954186002678056186374886027156435448259743706868221419989023 := ones_cube rp_64_ones (by decide +kernel) 252594155221982849580111198523829933201 679873436559402707795 252594155221982849580111198523829933200 (M := 479186269151657912369163492444816580023226652670939291251466) (by decide +kernel) (by decide +kernel) (by decide +kernel) (by decide +kernel) (by decide +kernel)
theorem rp_65 : Prime 34840880905334667621437726890474831617231767124846662105940816408628461669731210284799006614927925142202337021495273 := prime_curve (b := 3498637455323309282309432346350642550125583012561660181774127445416714352083245954296294999035734871115010780928906) (X := 23704104925225183961337225590451028938425441099438630884393028172796683587639428028126943256568683057772045091508011) (Y := 6079980367584197944169884563971572154218322944899390609821668152118369047271053471552315361339857358059735786371135) (f := 328) rp_64 (by decide +kernel) (by decide +kernel)
theorem rp_66 : Prime 4989181 := prime_small 2232 (by decide) (by decide +kernel) (by decide)
theorem rp_67 : Prime 7 := prime_small 1 (by decide) (by decide +kernel) (by decide)
theorem rp_68 : Prime 347 := prime_small 17 (by decide) (by decide +kernel) (by decide)
theorem rp_69_ones : Ones 1342940663 2429 := by
  have h := (ones_cons (n := 1342940663) (q := 347) (k := 1) (a := 2) (f := 31) (ones_cons (n := 1342940663) (q := 7) (k := 1) (a := 2) (f := 31) (ones_1 _) rp_67 (by decide) (by decide +kernel) (by decide +kernel) (by decide +kernel) (by decide +kernel)) rp_68 (by decide) (by decide +kernel) (by decide +kernel) (by decide +kernel) (by decide +kernel))
  exact h
theorem rp_69 : Prime 1342940663 := ones_cube rp_69_ones (by decide +kernel) 1495 227 1494 (M := 552878) (by decide +kernel) (by decide +kernel) (by decide +kernel) (by decide +kernel) (by decide +kernel)
theorem rp_70 : Prime 145759 := prime_small 380 (by decide) (by decide +kernel) (by decide)
theorem rp_71_ones : Ones 10927630648343 145759 := by
  have h := (ones_cons (n := 10927630648343) (q := 145759) (k := 1) (a := 2) (f := 44) (ones_1 _) rp_70 (by decide) (by decide +kernel) (by decide +kernel) (by decide +kernel) (by decide +kernel))
  exact h
theorem rp_71 : Prime 10927630648343 := ones_cube rp_71_ones (by decide +kernel) 50412 514 50411 (M := 74970538) (by decide +kernel) (by decide +kernel) (by decide +kernel) (by decide +kernel) (by decide +kernel)
theorem rp_72 : Prime 3389 := prime_small 57 (by decide) (by decide +kernel) (by decide)
theorem rp_73 : Prime 8761 := prime_small 92 (by decide) (by decide +kernel) (by decide)
theorem rp_74_ones : Ones 13117774876523789 29691029 := by
  have h := (ones_cons (n := 13117774876523789) (q := 8761) (k := 1) (a := 2) (f := 54) (ones_cons (n := 13117774876523789) (q := 3389) (k := 1) (a := 2) (f := 54) (ones_1 _) rp_72 (by decide) (by decide +kernel) (by decide +kernel) (by decide +kernel) (by decide +kernel)) rp_73 (by decide) (by decide +kernel) (by decide +kernel) (by decide +kernel) (by decide +kernel))
  exact h
theorem rp_74 : Prime 13117774876523789 := ones_cube rp_74_ones (by decide +kernel) 26134966 14 26134965 (M := 441809372) (by decide +kernel) (by decide +kernel) (by decide +kernel) (by decide +kernel) (by decide +kernel)
theorem rp_75_ones : Ones 1022178743964994662664386397735627064976498976507488254472273579186419552648862953043903324919452118556845786321602852767530093368301 960444479785432095141828357149543456735103881 := by
  have h := (ones_cons (n := 1022178743964994662664386397735627064976498976507488254472273579186419552648862953043903324919452118556845786321602852767530093368301) (q := 13117774876523789) (k := 1) (a := 2) (f := 439) (ones_cons (n := 1022178743964994662664386397735627064976498976507488254472273579186419552648862953043903324919452118556845786321602852767530093368301) (q := 10927630648343) (k := 1) (a := 2) (f := 439) (ones_cons (n := 1022178743964994662664386397735627064976498976507488254472273579186419552648862953043903324919452118556845786321602852767530093368301) (q := 1342940663) (k := 1) (a := 2) (f := 439) (ones_cons (n := 1022178743964994662664386397735627064976498976507488254472273579186419552648862953043903324919452118556845786321602852767530093368301) (q := 4989181) (k := 1) (a := 2) (f := 439) (ones_1 _) rp_66 (by decide) (by decide +kernel) (by decide +kernel) (by decide +kernel) (by decide +kernel)) rp_69 (by decide) (by decide +kernel) (by decide +kernel) (by decide +kernel) (by decide +kernel)) rp_71 (by decide) (by decide +kernel) (by decide +kernel) (by decide +kernel) (by decide +kernel)) rp_74 (by decide) (by decide +kernel) (by decide +kernel) (by decide +kernel) (by decide +kernel))
  exact h
theorem rp_75 : Prime 1022178743964994662664386397735627064976498976507488254472273579186419552648862953043903324919452118556845786321602852767530093368301 := ones_cube rp_75_ones (by decide +kernel) 535624563799032920654806648758564609940084041 1108108576246856933153025640763026366776939 535624563799032920654806648758564609940084040 (M := 1064276765059188323235892835900353238088483686590200028226642453990231281248851260284300) (by decide +kernel) (by decide +kernel) (by decide +kernel) (by decide +kernel) (by decide +kernel)
theorem rp_76 : Prime 10101126090382211490639651214374550339152420690974398942186008278094470174730757798516700963728666322484355572937478672191342929742736620087568066629828453 := prime_curve (b := 1007989175877774727298878633929423081168359155636407887938564878445740550959455929086723303474719266330991174730285741058382347994768191789332778773558476) (X := 4157693890534086889447972953708505233719540861569282101215391653864168921607264418846886674496025072659544693138593983995758963804555755052590357648411301) (Y := 9665872363684458399966408077065277099741989574803534213216575510505739644162468920991813399257424916412142968266744260290100865486998003864310543662730560) (f := 439) rp_75 (by decide +kernel) (by decide +kernel)
theorem rp_77_ones : Ones 403852261 1015 := by
  have h := (ones_cons (n := 403852261) (q := 29) (k := 1) (a := 2) (f := 29) (ones_cons (n := 403852261) (q := 7) (k := 1) (a := 2) (f := 29) (ones_cons (n := 403852261) (q := 5) (k := 1) (a := 3) (f := 29) (ones_1 _) rp_17 (by decide) (by decide +kernel) (by decide +kernel) (by decide +kernel) (by decide +kernel)) rp_67 (by decide) (by decide +kernel) (by decide +kernel) (by decide +kernel) (by decide +kernel)) rp_4 (by decide) (by decide +kernel) (by decide +kernel) (by decide +kernel) (by decide +kernel))
  exact h
theorem rp_77 : Prime 403852261 := ones_cube rp_77_ones (by decide +kernel) 4 392 0 (M := 397884) (by decide +kernel) (by decide +kernel) (by decide +kernel) (by decide +kernel) (by decide +kernel)
theorem rp_78 : Prime 113 := prime_small 9 (by decide) (by decide +kernel) (by decide)
theorem rp_79 : Prime 193 := prime_small 12 (by decide) (by decide +kernel) (by decide)
theorem rp_80_ones : Ones 33446469303131 283517 := by
  have h := (ones_cons (n := 33446469303131) (q := 193) (k := 1) (a := 2) (f := 45) (ones_cons (n := 33446469303131) (q := 113) (k := 1) (a := 2) (f := 45) (ones_cons (n := 33446469303131) (q := 13) (k := 1) (a := 2) (f := 45) (ones_1 _) rp_61 (by decide) (by decide +kernel) (by decide +kernel) (by decide +kernel) (by decide +kernel)) rp_78 (by decide) (by decide +kernel) (by decide +kernel) (by decide +kernel) (by decide +kernel)) rp_79 (by decide) (by decide +kernel) (by decide +kernel) (by decide +kernel) (by decide +kernel))
  exact h
theorem rp_80 : Prime 33446469303131 := ones_cube rp_80_ones (by decide +kernel) 26818 416 26817 (M := 117969890) (by decide +kernel) (by decide +kernel) (by decide +kernel) (by decide +kernel) (by decide +kernel)
theorem rp_81 : Prime 97 := prime_small 8 (by decide) (by decide +kernel) (by decide)
theorem rp_82 : Prime 1223 := prime_small 33 (by decide) (by decide +kernel) (by decide)
theorem rp_83_ones : Ones 13147310053617191 1304941 := by
  have h := (ones_cons (n := 13147310053617191) (q := 1223) (k := 1) (a := 2) (f := 54) (ones_cons (n := 13147310053617191) (q := 97) (k := 1) (a := 2) (f := 54) (ones_cons (n := 13147310053617191) (q := 11) (k := 1) (a := 2) (f := 54) (ones_1 _) rp_8 (by decide) (by decide +kernel) (by decide +kernel) (by decide +kernel) (by decide +kernel)) rp_81 (by decide) (by decide +kernel) (by decide +kernel) (by decide +kernel) (by decide +kernel)) rp_82 (by decide) (by decide +kernel) (by decide +kernel) (by decide +kernel) (by decide +kernel))
  exact h
theorem rp_83 : Prime 13147310053617191 := ones_cube rp_83_ones (by decide +kernel) 878070 7720 878069 (M := 10075022590) (by decide +kernel) (by decide +kernel) (by decide +kernel) (by decide +kernel) (by decide +kernel)
theorem rp_84_ones : Ones 6851307325887066677220548849944168003804145715725158269553959611997952742815216127425075753 177586399826032247369358111903841122481 := by
  have h := (ones_cons (n := 6851307325887066677220548849944168003804145715725158269553959611997952742815216127425075753) (q := 13147310053617191) (k := 1) (a := 2) (f := 302) (ones_cons (n := 6851307325887066677220548849944168003804145715725158269553959611997952742815216127425075753) (q := 33446469303131) (k := 1) (a := 2) (f := 302) (ones_cons (n := 6851307325887066677220548849944168003804145715725158269553959611997952742815216127425075753) (q := 403852261) (k := 1) (a := 2) (f := 302) (ones_1 _) rp_77 (by decide) (by decide +kernel) (by decide +kernel) (by decide +kernel) (by decide +kernel)) rp_80 (by decide) (by decide +kernel) (by decide +kernel) (by decide +kernel) (by decide +kernel)) rp_83 (by decide) (by decide +kernel) (by decide +kernel) (by decide +kernel) (by decide +kernel))
  exact h
theorem rp_84 : Prime 6851307325887066677220548849944168003804145715725158269553959611997952742815216127425075753 := ones_cube rp_84_ones (by decide +kernel) 97338755036526048463696310013372193861 217247127591251 97338755036526048463696310013372193860 (M := 38580135261477039372642786460682800841020342967207592) (by decide +kernel) (by decide +kernel) (by decide +kernel) (by decide +kernel) (by decide +kernel)
theorem rp_85 : Prime 121929790683629208845316859789693748889716947896826273656722862612879875871758230509671737041766300562695975874001830041 := prime_curve (b := 87863813454009680974344363279744258267630204289582016351765596895891931247241073463960018525516773310090167342013000479) (X := 48271566119310536882114477906158476153835510768321575714428599472120076275652408887607781068498858532347401603655686763) (Y := 75071981864335112652778998272379204449967810250606802994815044705146360502208822904335628032016918589632304051021739109) (f := 302) rp_84 (by decide +kernel) (by decide +kernel)
theorem rp_86 : Prime 11858112108092390675699329779525986627130374957896657699458546440190224021686744721894878934980488387822341441129963481444512385575615890527184614649717001 := prime_curve (b := 7190606986422645148758999263154727438604885196012264557729432819234014912316322207717358787825944117740950956937678349906191833566403270694120576732900947) (X := 11120727866992447485654198551033463215302348549104194893506913656937809066228140819648808667227049444995324752155901454318960458331765666176799058702001529) (Y := 10606036717686944697903582368987680725889674286289079373774404203860994525265655195229890541387730879425436484296344479714689910661129274257134774083696563) (f := 396) rp_85 (by decide +kernel) (by decide +kernel)
theorem known_0 : Prime 104175181403320771449679647246364924262471784189588960573409709335459547301287 := rp_7
theorem known_1 : Prime 90835215976978105469291653094359399275992969542283932128434133045209869664573 := rp_16
theorem known_2 : Prime 56386702578935394327949573019299023702340577549968309954899866063127079392313301 := rp_21
theorem known_3 : Prime 23041726706273730938560524953453871125589531386512618703556529620391927597462337 := rp_30
theorem known_4 : Prime 57610772645209837073581731621458686992108894456112639744922187037253193335746943 := rp_36
theorem known_5 : Prime 53496828316885632078152529844314900191676054381191742620116216498061294429224241 := rp_48
theorem known_6 : Prime 33334697368834311340811853737954568717949635273318747906579318874483209383822545078454378668325488946119192633475059 := rp_56
theorem known_7 : Prime 34840880905334667621437726890474831617231767124846662105940816408628461669731210284799006614927925142202337021495273 := rp_65
theorem known_8 : Prime 10101126090382211490639651214374550339152420690974398942186008278094470174730757798516700963728666322484355572937478672191342929742736620087568066629828453 := rp_76
theorem known_9 : Prime 11858112108092390675699329779525986627130374957896657699458546440190224021686744721894878934980488387822341441129963481444512385575615890527184614649717001 := rp_86
end Go.Proofs.YtjkjlbchbbpmaaaGreatDoor.Ecp
/- RSA there and back, by two primes: plain. -/
namespace Go.Proofs.YtjkjlbchbbpmaaaGreatDoor.Ecp
open Ec

theorem rsa_p {P n a : Nat} (hp : Prime P) (h : n % (P - 1) = 1) : a ^ n % P = a % P := by
  by_cases hd : P ∣ a
  · have h0 : n ≠ 0 := by rintro rfl; simp at h
    rw [Nat.mod_eq_zero_of_dvd hd, Nat.mod_eq_zero_of_dvd (Nat.dvd_trans hd (by obtain ⟨j, rfl⟩ : ∃ j, n = j + 1 := ⟨n - 1, by omega⟩; rw [Nat.pow_succ]; exact Nat.dvd_mul_left _ _))]
  · have e : n = (P - 1) * (n / (P - 1)) + 1 := by
      have := Nat.div_add_mod n (P - 1); rw [h] at this; exact this.symm
    rw [e, Nat.pow_succ, Nat.mul_mod, pow_one_mod (fermat hp hd), ← Nat.mul_mod, Nat.one_mul]

theorem crt_eq {P Q a b : Nat} (hc : Nat.Coprime P Q) (ha : a < P * Q) (hb : b < P * Q) (h1 : a % P = b % P) (h2 : a % Q = b % Q) : a = b := by
  have key : ∀ x y : Nat, x ≤ y → y < P * Q → x % P = y % P → x % Q = y % Q → x = y := by
    intro x y hxy hy e1 e2
    have d1 : P ∣ y - x := Nat.dvd_of_mod_eq_zero (Nat.sub_mod_eq_zero_of_mod_eq e1.symm)
    have d2 : Q ∣ y - x := Nat.dvd_of_mod_eq_zero (Nat.sub_mod_eq_zero_of_mod_eq e2.symm)
    have d := Nat.Coprime.mul_dvd_of_dvd_of_dvd hc d1 d2
    rcases Nat.eq_zero_or_pos (y - x) with h | h
    · omega
    · have := Nat.le_of_dvd h d; omega
  rcases Nat.le_total a b with h | h
  · exact key a b h hb h1 h2
  · exact (key b a h ha h1.symm h2.symm).symm
end Go.Proofs.YtjkjlbchbbpmaaaGreatDoor.Ecp

namespace Go.Proofs.YtjkjlbchbbpmaaaGreatDoor
/-- The number that raised makes of m. -/
def crtN (M P Q Dp Dq U : Nat) : Nat :=
  (M % Q) ^ Dq % Q + (((M % P) ^ Dp % P + P - (M % Q) ^ Dq % Q % P) * U % P) * Q

theorem crt_lt (M P Q Dp Dq U : Nat) (hP : 0 < P) (hQ : 0 < Q) : crtN M P Q Dp Dq U < P * Q := by
  unfold crtN
  have h1 := Nat.mod_lt ((M % Q) ^ Dq) hQ
  have h2 := Nat.mod_lt (((M % P) ^ Dp % P + P - (M % Q) ^ Dq % Q % P) * U) hP
  generalize (M % Q) ^ Dq % Q = v at *
  generalize ((M % P) ^ Dp % P + P - v % P) * U % P = z at *
  have h3 : (z + 1) * Q ≤ P * Q := Nat.mul_le_mul_right Q h2
  rw [Nat.add_mul, Nat.one_mul] at h3
  omega

theorem crt_q (M P Q Dp Dq U : Nat) : crtN M P Q Dp Dq U % Q = M ^ Dq % Q := by
  unfold crtN
  rw [Nat.add_mul_mod_self_right, Nat.mod_mod, ← Nat.pow_mod]

theorem crt_p (M P Q Dp Dq U : Nat) (hP : 0 < P) (hU : U * Q % P = 1 % P) : crtN M P Q Dp Dq U % P = M ^ Dp % P := by
  unfold crtN
  generalize (M % Q) ^ Dq % Q = v
  rw [← Nat.pow_mod]
  have lu : M ^ Dp % P < P := Nat.mod_lt _ hP
  generalize M ^ Dp % P = u at *
  have lv : v % P < P := Nat.mod_lt _ hP
  have e : ((u + P - v % P) * U % P) * Q % P = (u + P - v % P) % P := by
    rw [Nat.mul_mod, Nat.mod_mod, ← Nat.mul_mod, Nat.mul_assoc, Nat.mul_mod, hU, ← Nat.mul_mod, Nat.mul_one]
  rw [Nat.add_mod, e, ← Nat.add_mod]
  have e2 : (v + (u + P - v % P)) % P = (v % P + (u + P - v % P)) % P := by
    generalize u + P - v % P = y
    rw [Nat.mod_add_mod]
  rw [e2, show v % P + (u + P - v % P) = u + P by omega, Nat.add_mod_right, Nat.mod_eq_of_lt lu]

/-- What a key's numbers keep. -/
structure KeyN (N E P Q Dp Dq U : Nat) : Prop where
  p : Ec.Prime P
  q : Ec.Prime Q
  co : Nat.Coprime P Q
  n : N = P * Q
  dp : E * Dp % (P - 1) = 1
  dq : E * Dq % (Q - 1) = 1
  u : U * Q % P = 1 % P

theorem KeyN.back {N E P Q Dp Dq U x : Nat} (k : KeyN N E P Q Dp Dq U) (hx : x < N) : crtN x P Q Dp Dq U ^ E % N = x := by
  have hP := k.p.pos
  have hQ := k.q.pos
  have hN : 0 < N := by omega
  refine Ecp.crt_eq k.co (by rw [← k.n]; exact Nat.mod_lt _ hN) (by rw [← k.n]; exact hx) ?_ ?_
  · rw [k.n, Nat.mod_mul_right_mod, Nat.pow_mod, crt_p _ _ _ _ _ _ hP k.u, ← Nat.pow_mod, ← Nat.pow_mul, Nat.mul_comm, Ecp.rsa_p k.p k.dp]
  · rw [k.n, Nat.mod_mul_left_mod, Nat.pow_mod, crt_q, ← Nat.pow_mod, ← Nat.pow_mul, Nat.mul_comm, Ecp.rsa_p k.q k.dq]

theorem KeyN.forth {N E P Q Dp Dq U x : Nat} (k : KeyN N E P Q Dp Dq U) (hx : x < N) : crtN (x ^ E % N) P Q Dp Dq U = x := by
  have hP := k.p.pos
  have hQ := k.q.pos
  refine Ecp.crt_eq k.co (crt_lt _ _ _ _ _ _ hP hQ) (by rw [← k.n]; exact hx) ?_ ?_
  · rw [crt_p _ _ _ _ _ _ hP k.u, Nat.pow_mod, k.n, Nat.mod_mul_right_mod, ← Nat.pow_mod, ← Nat.pow_mul, Ecp.rsa_p k.p k.dp]
  · rw [crt_q, Nat.pow_mod, k.n, Nat.mod_mul_left_mod, ← Nat.pow_mod, ← Nat.pow_mul, Ecp.rsa_p k.q k.dq]
end Go.Proofs.YtjkjlbchbbpmaaaGreatDoor
