/- Fermat Primes Curve P256 Group Order, in one text. -/
import Derived.Test.YtaggpodckafbgaaGreatDoorZA0
/- Fermat's little theorem, and Pocklington's criterion: plain. -/
namespace Go.Proofs.YtaggpodckafbgaaGreatDoor.Ec
def Prime (p : Nat) : Prop := 2 ≤ p ∧ ∀ d, d ∣ p → d = 1 ∨ d = p
theorem Prime.pos {p : Nat} (h : Prime p) : 0 < p := by have := h.1; omega
theorem Prime.coprime {p a : Nat} (h : Prime p) (ha : ¬ p ∣ a) : Nat.Coprime a p := by
  have hd := Nat.gcd_dvd_right a p
  rcases h.2 _ hd with h1 | h1
  · exact h1
  · exfalso
    have := Nat.gcd_dvd_left a p
    rw [h1] at this
    exact ha this
theorem Prime.dvd_mul {p a b : Nat} (h : Prime p) (hd : p ∣ a * b) : p ∣ a ∨ p ∣ b := by
  by_cases ha : p ∣ a
  · exact Or.inl ha
  · right
    have hc : Nat.Coprime p a := (h.coprime ha).symm
    exact hc.dvd_of_dvd_mul_left hd
/-! ### binomial coefficients -/
def ch : Nat → Nat → Nat
  | _, 0 => 1
  | 0, _ + 1 => 0
  | n + 1, k + 1 => ch n k + ch n (k + 1)
theorem ch_zero (n : Nat) : ch n 0 = 1 := by cases n <;> rfl
theorem ch_big : ∀ (n k : Nat), n < k → ch n k = 0
  | 0, k + 1, _ => rfl
  | n + 1, k + 1, h => by
    show ch n k + ch n (k + 1) = 0
    rw [ch_big n k (by omega), ch_big n (k + 1) (by omega)]
theorem ch_self : ∀ n : Nat, ch n n = 1
  | 0 => rfl
  | n + 1 => by
    show ch n n + ch n (n + 1) = 1
    rw [ch_self n, ch_big n (n + 1) (by omega)]
theorem ch_mul : ∀ (n k : Nat), (k + 1) * ch (n + 1) (k + 1) = (n + 1) * ch n k
  | 0, 0 => rfl
  | 0, k + 1 => by
    have h1 : ch 1 (k + 2) = 0 := ch_big _ _ (by omega)
    have h2 : ch 0 (k + 1) = 0 := rfl
    rw [h1, h2]; simp
  | n + 1, 0 => by
    have ih := ch_mul n 0
    have e : ch (n + 2) 1 = ch (n + 1) 0 + ch (n + 1) 1 := rfl
    have z1 : ch (n + 1) 0 = 1 := ch_zero _
    have z2 : ch n 0 = 1 := ch_zero _
    have ih2 : (0 + 1) * ch (n + 1) 1 = (n + 1) * ch n 0 := ih
    show (0 + 1) * ch (n + 2) 1 = (n + 1 + 1) * ch (n + 1) 0
    rw [e, z1]
    rw [z2] at ih2
    omega
  | n + 1, k + 1 => by
    have h1 := ch_mul n k
    have h2 := ch_mul n (k + 1)
    have e : ch (n + 2) (k + 2) = ch (n + 1) (k + 1) + ch (n + 1) (k + 2) := rfl
    have e2 : ch (n + 1) (k + 1) = ch n k + ch n (k + 1) := rfl
    rw [e, Nat.mul_add]
    have h3 : (k + 1 + 1) * ch (n + 1) (k + 1) = (n + 1) * ch n k + ch (n + 1) (k + 1) := by
      rw [Nat.succ_mul, h1]
    rw [h3, h2]
    rw [Nat.succ_mul (n + 1), e2, Nat.mul_add]
    omega
def bs (n a : Nat) : Nat → Nat
  | 0 => 0
  | m + 1 => bs n a m + ch n m * a ^ m
theorem bs_succ (n a : Nat) : ∀ m, bs (n + 1) a (m + 1) = a * bs n a m + bs n a (m + 1)
  | 0 => by simp [bs, ch_zero]
  | m + 1 => by
    have ih := bs_succ n a m
    show bs (n + 1) a (m + 1) + ch (n + 1) (m + 1) * a ^ (m + 1) = a * (bs n a m + ch n m * a ^ m) + (bs n a (m + 1) + ch n (m + 1) * a ^ (m + 1))
    have e : ch (n + 1) (m + 1) = ch n m + ch n (m + 1) := rfl
    rw [ih, e, Nat.add_mul, Nat.mul_add, Nat.pow_succ]
    have : a * (ch n m * a ^ m) = ch n m * (a ^ m * a) := by simp only [Nat.mul_comm, Nat.mul_assoc]
    omega
theorem binom (a : Nat) : ∀ n, bs n a (n + 1) = (a + 1) ^ n
  | 0 => by simp [bs, ch_zero]
  | n + 1 => by
    rw [bs_succ, binom a n]
    show a * (a + 1) ^ n + (bs n a (n + 1) + ch n (n + 1) * a ^ (n + 1)) = _
    have e : (a + 1) ^ (n + 1) = a * (a + 1) ^ n + (a + 1) ^ n := by rw [Nat.pow_succ, Nat.mul_add, Nat.mul_one, Nat.mul_comm a]
    rw [ch_big n (n + 1) (by omega), binom a n, e, Nat.zero_mul]
    rfl
theorem prime_ch {p k : Nat} (h : Prime p) (h0 : 0 < k) (hk : k < p) : p ∣ ch p k := by
  obtain ⟨n, rfl⟩ : ∃ n, p = n + 1 := ⟨p - 1, by have := h.1; omega⟩
  obtain ⟨j, rfl⟩ : ∃ j, k = j + 1 := ⟨k - 1, by omega⟩
  have hd : n + 1 ∣ (j + 1) * ch (n + 1) (j + 1) := by rw [ch_mul]; exact Nat.dvd_mul_right _ _
  rcases h.dvd_mul hd with h1 | h1
  · have := Nat.le_of_dvd (by omega) h1; omega
  · exact h1
theorem bs_mid {p a : Nat} (h : Prime p) : ∀ m, 0 < m → m ≤ p → bs p a m % p = 1 % p
  | 0, h0, _ => by omega
  | 1, _, _ => by simp [bs, ch_zero]
  | m + 2, _, hm => by
    have ih := bs_mid h (m + 1) (by omega) (by omega) (a := a)
    show (bs p a (m + 1) + ch p (m + 1) * a ^ (m + 1)) % p = 1 % p
    obtain ⟨c, hc⟩ := prime_ch h (show 0 < m + 1 by omega) (by omega)
    rw [hc, Nat.mul_assoc, Nat.add_mul_mod_self_left, ih]
theorem fermat_step {p a : Nat} (h : Prime p) : (a + 1) ^ p % p = (a ^ p + 1) % p := by
  rw [← binom]
  show (bs p a p + ch p p * a ^ p) % p = _
  rw [ch_self, Nat.one_mul, Nat.add_mod, bs_mid h p h.pos (Nat.le_refl _), ← Nat.add_mod, Nat.add_comm]
theorem fermat' {p : Nat} (h : Prime p) : ∀ a, a ^ p % p = a % p
  | 0 => by rw [Nat.zero_pow h.pos]
  | a + 1 => by rw [fermat_step h, Nat.add_mod, fermat' h a, ← Nat.add_mod]
theorem cancel_mod {p a x y : Nat} (h : Nat.Coprime a p) (e : a * x % p = a * y % p) : x % p = y % p := by
  have key : ∀ x y : Nat, x ≤ y → a * x % p = a * y % p → x % p = y % p := by
    intro x y hxy e
    have h1 : (a * y - a * x) % p = 0 := Nat.sub_mod_eq_zero_of_mod_eq e.symm
    rw [← Nat.mul_sub] at h1
    have h2 : p ∣ y - x := (h.symm).dvd_of_dvd_mul_left (Nat.dvd_of_mod_eq_zero h1)
    obtain ⟨c, hc⟩ := h2
    have : y = x + p * c := by omega
    rw [this, Nat.add_mul_mod_self_left]
  rcases Nat.le_total x y with hxy | hxy
  · exact key x y hxy e
  · exact (key y x hxy e.symm).symm
theorem fermat {p a : Nat} (h : Prime p) (ha : ¬ p ∣ a) : a ^ (p - 1) % p = 1 % p := by
  refine cancel_mod (h.coprime ha) ?_
  rw [Nat.mul_one, ← fermat' h a]
  congr 1
  obtain ⟨n, rfl⟩ : ∃ n, p = n + 1 := ⟨p - 1, by have := h.1; omega⟩
  rw [Nat.add_sub_cancel, Nat.pow_succ, Nat.mul_comm]
/-! ### Pocklington -/
theorem pow_one_mod {x m k d : Nat} (h : x ^ m % d = 1 % d) : x ^ (m * k) % d = 1 % d := by
  rw [Nat.pow_mul, Nat.pow_mod, h, ← Nat.pow_mod, Nat.one_pow]
theorem pow_gcd {x d : Nat} (m n : Nat) (hm : x ^ m % d = 1 % d) (hn : x ^ n % d = 1 % d) : x ^ Nat.gcd m n % d = 1 % d := by
  induction m, n using Nat.gcd.induction with
  | H0 n => rw [Nat.gcd_zero_left]; exact hn
  | H1 m n hp ih =>
    rw [Nat.gcd_rec]
    refine ih ?_ hm
    have e : x ^ n = x ^ (m * (n / m)) * x ^ (n % m) := by rw [← Nat.pow_add, Nat.div_add_mod]
    rw [e, Nat.mul_mod, pow_one_mod hm, ← Nat.mul_mod, Nat.one_mul] at hn
    exact hn
theorem dvd_prime_pow {q : Nat} (hq : Prime q) : ∀ (k d : Nat), d ∣ q ^ k → d ∣ q ^ (k - 1) ∨ d = q ^ k
  | 0, d, h => by
    left
    simpa using h
  | k + 1, d, h => by
    rw [Nat.add_sub_cancel]
    obtain ⟨c, hc⟩ := h
    by_cases hqc : q ∣ c
    · obtain ⟨e, rfl⟩ := hqc
      left
      have h1 : q * q ^ k = q * (d * e) := by
        rw [Nat.mul_comm q (q ^ k), ← Nat.pow_succ, hc]; simp only [Nat.mul_left_comm]
      exact ⟨e, Nat.eq_of_mul_eq_mul_left hq.pos h1⟩
    · right
      have hco : Nat.Coprime c (q ^ (k + 1)) := (hq.coprime hqc).pow_right _
      have h1 : c ∣ q ^ (k + 1) := ⟨d, by rw [hc, Nat.mul_comm]⟩
      have h2 : c = 1 := by
        have := Nat.dvd_gcd (Nat.dvd_refl c) h1
        rw [hco] at this
        exact Nat.dvd_one.1 this
      rw [h2, Nat.mul_one] at hc
      exact hc.symm
theorem exists_prime_dvd : ∀ n : Nat, 2 ≤ n → ∃ d, Prime d ∧ d ∣ n ∧ (Prime n ∨ d * d ≤ n) := by
  intro n hn
  -- the least divisor from 2 on
  have hex : ∃ d, 2 ≤ d ∧ d ∣ n := ⟨n, hn, Nat.dvd_refl n⟩
  have hleast : ∀ m : Nat, (∃ d, 2 ≤ d ∧ d ∣ n ∧ d ≤ m) → ∃ d, 2 ≤ d ∧ d ∣ n ∧ ∀ e, 2 ≤ e → e ∣ n → d ≤ e := by
    intro m
    induction m with
    | zero => rintro ⟨d, h1, _, h2⟩; omega
    | succ m ih =>
      rintro ⟨d, h1, h2, h3⟩
      by_cases hs : ∃ d, 2 ≤ d ∧ d ∣ n ∧ d ≤ m
      · exact ih hs
      · refine ⟨d, h1, h2, fun e h4 h5 => ?_⟩
        rcases Nat.lt_or_ge e d with h6 | h6
        · exact absurd ⟨e, h4, h5, by omega⟩ hs
        · exact h6
  obtain ⟨d, h2, hd, hmin⟩ := hleast n ⟨n, hn, Nat.dvd_refl n, Nat.le_refl n⟩
  have hp : Prime d := ⟨h2, fun e he => by
    have he0 : e ≠ 0 := by rintro rfl; have := Nat.eq_zero_of_zero_dvd he; omega
    by_cases h1 : e = 1
    · exact Or.inl h1
    · right
      have := hmin e (by omega) (Nat.dvd_trans he hd)
      have := Nat.le_of_dvd (by omega) he
      omega⟩
  refine ⟨d, hp, hd, ?_⟩
  obtain ⟨c, hc⟩ := hd
  have hc0 : c ≠ 0 := by rintro rfl; omega
  by_cases h1 : c = 1
  · left
    rw [h1, Nat.mul_one] at hc
    rw [hc]; exact hp
  · right
    have := hmin c (by omega) ⟨d, by rw [hc, Nat.mul_comm]⟩
    rw [hc]
    exact Nat.mul_le_mul_left _ this
theorem pock_one {n q k a d : Nat} (hq : Prime q) (hk : 0 < k) (hd : Prime d) (hdn : d ∣ n) (hf : q ^ k ∣ n - 1) (h1 : a ^ (n - 1) % n = 1 % n) (h2 : Nat.gcd (a ^ ((n - 1) / q) % n + (n - 1)) n = 1) (hn : 2 ≤ n) : q ^ k ∣ d - 1 := by
  obtain ⟨c, hc⟩ := hf
  obtain ⟨e, he⟩ := hdn
  have hd2 := hd.1
  have md : ∀ x y : Nat, x % n = y % n → x % d = y % d := fun x y h => by
    have := congrArg (· % d) h
    simpa [he, Nat.mod_mul_right_mod] using this
  have hx1 : (a ^ c) ^ (q ^ k) % d = 1 % d := by
    rw [← Nat.pow_mul, Nat.mul_comm, ← hc]; exact md _ _ h1
  have hqc : (n - 1) / q = c * q ^ (k - 1) := by
    obtain ⟨j, rfl⟩ : ∃ j, k = j + 1 := ⟨k - 1, by omega⟩
    rw [hc, Nat.add_sub_cancel, Nat.pow_succ, Nat.mul_right_comm, Nat.mul_div_cancel _ hq.pos, Nat.mul_comm]
  have hnd : ¬ d ∣ a := by
    intro h
    have h3 : a ^ (n - 1) % d = 1 % d := md _ _ h1
    obtain ⟨f, rfl⟩ := h
    rw [Nat.mul_pow, Nat.mul_mod, show d ^ (n - 1) % d = 0 from by
      obtain ⟨m, hm⟩ : ∃ m, n - 1 = m + 1 := ⟨n - 2, by omega⟩
      rw [hm, Nat.pow_succ]; exact Nat.mul_mod_left _ _, Nat.zero_mul, Nat.zero_mod, Nat.mod_eq_of_lt (by omega : 1 < d)] at h3
    omega
  have hnd2 : ¬ d ∣ a ^ c := by
    intro h
    have : ∀ j, d ∣ a ^ j → d ∣ a := by
      intro j
      induction j with
      | zero => intro h; have := Nat.le_of_dvd (by omega) (show d ∣ 1 by simpa using h); omega
      | succ j ih =>
        intro h
        rw [Nat.pow_succ] at h
        rcases hd.dvd_mul h with h | h
        · exact ih h
        · exact h
    exact hnd (this c h)
  have hx2 : (a ^ c) ^ (d - 1) % d = 1 % d := fermat hd hnd2
  have hg := pow_gcd (q ^ k) (d - 1) hx1 hx2
  rcases dvd_prime_pow hq k (Nat.gcd (q ^ k) (d - 1)) (Nat.gcd_dvd_left _ _) with h3 | h3
  · exfalso
    obtain ⟨f, hf⟩ := h3
    have h4 : (a ^ c) ^ (q ^ (k - 1)) % d = 1 % d := by rw [hf]; exact pow_one_mod hg
    rw [← Nat.pow_mul, ← hqc] at h4
    have h5 : d ∣ a ^ ((n - 1) / q) % n + (n - 1) := by
      refine Nat.dvd_of_mod_eq_zero ?_
      have h6 : a ^ ((n - 1) / q) % n % d = 1 % d := by rw [← h4]; exact md _ _ (Nat.mod_mod _ _)
      rw [Nat.add_mod, h6, ← Nat.add_mod, show 1 + (n - 1) = n from by omega, he, Nat.mul_mod_right]
    have h7 := Nat.dvd_gcd h5 ⟨e, he⟩
    rw [h2] at h7
    have := Nat.le_of_dvd (by omega) h7
    omega
  · rw [← h3]; exact Nat.gcd_dvd_right _ _
end Go.Proofs.YtaggpodckafbgaaGreatDoor.Ec
/- P and N are primes: Pocklington's criterion with its numbers. -/
namespace Go.Proofs.YtaggpodckafbgaaGreatDoor.Ec
def frc {α : Type} (n : Nat) (k : Nat → α) : α := Nat.rec (k 0) (fun m _ => k (m + 1)) n
theorem frc_eq {α : Type} (n : Nat) (k : Nat → α) : frc n k = k n := by cases n <;> rfl
def pm (n : Nat) : Nat → Nat → Nat → Nat
  | 0, _, _ => 1 % n
  | f + 1, a, e => frc (pm n f a (e / 2)) fun h => frc (h * h % n) fun s => bif e % 2 == 1 then s * a % n else s
theorem pm_eq (n a : Nat) : ∀ (f e : Nat), e < 2 ^ f → pm n f a e = a ^ e % n
  | 0, e, h => by
    have : e = 0 := by simpa using h
    subst this; rfl
  | f + 1, e, h => by
    have ih := pm_eq n a f (e / 2) (by rw [Nat.pow_succ] at h; omega)
    have hd : e = e / 2 + e / 2 + e % 2 := by omega
    have hs : a ^ (e / 2) % n * (a ^ (e / 2) % n) % n = a ^ (e / 2 + e / 2) % n := by
      rw [← Nat.mul_mod, ← Nat.pow_add]
    show frc (pm n f a (e / 2)) _ = _
    rw [frc_eq, frc_eq, ih, hs]
    rcases Nat.mod_two_eq_zero_or_one e with h0 | h1
    · have : (e % 2 == 1) = false := by rw [h0]; rfl
      rw [this]
      show a ^ (e / 2 + e / 2) % n = _
      congr 2; omega
    · have : (e % 2 == 1) = true := by rw [h1]; rfl
      rw [this]
      show a ^ (e / 2 + e / 2) % n * a % n = _
      rw [Nat.mod_mul_mod, ← Nat.pow_succ]
      congr 2; omega
def tr (n : Nat) : Nat → Bool
  | 0 => true
  | k + 1 => (bif n % (k + 2) == 0 then false else true) && tr n k
theorem tr_ok (n : Nat) : ∀ k, tr n k = true → ∀ d, 2 ≤ d → d < k + 2 → ¬ d ∣ n
  | 0, _, d, h2, hd => by omega
  | k + 1, h, d, h2, hd => by
    simp only [tr, Bool.and_eq_true] at h
    intro hdn
    by_cases e : d = k + 2
    · subst e
      have : (n % (k + 2) == 0) = true := by rw [Nat.mod_eq_zero_of_dvd hdn]; rfl
      rw [this] at h
      exact absurd h.1 (by decide)
    · exact tr_ok n k h.2 d h2 (by omega) hdn
theorem prime_small {n : Nat} (k : Nat) (h2 : 2 ≤ n) (ht : tr n k = true) (hk : n < (k + 2) * (k + 2)) : Prime n := by
  obtain ⟨d, hd, hdn, h | h⟩ := exists_prime_dvd n h2
  · exact h
  · exfalso
    refine tr_ok n k ht d hd.1 ?_ hdn
    rcases Nat.lt_or_ge d (k + 2) with h1 | h1
    · exact h1
    · have := Nat.mul_le_mul h1 h1; omega
def pockB (n q k a f : Nat) : Bool :=
  (n - 1) % q ^ k == 0 && pm n f a (n - 1) == 1 && Nat.gcd (pm n f a ((n - 1) / q) + (n - 1)) n == 1
theorem pock_dvd {n q k a f d : Nat} (hq : Prime q) (hk : 0 < k) (hd : Prime d) (hdn : d ∣ n) (hn : 2 ≤ n) (hf : n ≤ 2 ^ f) (h : pockB n q k a f = true) : q ^ k ∣ d - 1 := by
  simp only [pockB, Bool.and_eq_true, beq_iff_eq] at h
  have hle : (n - 1) / q ≤ n - 1 := Nat.div_le_self _ _
  refine pock_one hq hk hd hdn (Nat.dvd_of_mod_eq_zero h.1.1) (a := a) ?_ ?_ hn
  · rw [← pm_eq n a f (n - 1) (by omega), h.1.2, Nat.mod_eq_of_lt (by omega)]
  · rw [← pm_eq n a f ((n - 1) / q) (by omega)]; exact h.2
theorem pock1 {n q k a f : Nat} (hq : Prime q) (hk : 0 < k) (hn : 2 ≤ n) (hf : n ≤ 2 ^ f) (h : pockB n q k a f = true) (hb : n < q ^ k * q ^ k) : Prime n := by
  obtain ⟨d, hd, hdn, h1 | h1⟩ := exists_prime_dvd n hn
  · exact h1
  · exfalso
    have h2 := pock_dvd hq hk hd hdn hn hf h
    have h3 := hd.1
    have h4 := Nat.le_of_dvd (by omega) h2
    have := Nat.mul_le_mul (show q ^ k ≤ d by omega) (show q ^ k ≤ d by omega)
    omega
theorem pock2 {n q k a r j b f : Nat} (hq : Prime q) (hk : 0 < k) (hr : Prime r) (hj : 0 < j) (hn : 2 ≤ n) (hf : n ≤ 2 ^ f) (h : pockB n q k a f = true) (h' : pockB n r j b f = true) (hc : Nat.gcd (q ^ k) (r ^ j) = 1) (hb : n < (q ^ k * r ^ j) * (q ^ k * r ^ j)) : Prime n := by
  obtain ⟨d, hd, hdn, h1 | h1⟩ := exists_prime_dvd n hn
  · exact h1
  · exfalso
    have h2 := pock_dvd hq hk hd hdn hn hf h
    have h3 := pock_dvd hr hj hd hdn hn hf h'
    have h4 : q ^ k * r ^ j ∣ d - 1 := Nat.Coprime.mul_dvd_of_dvd_of_dvd hc h2 h3
    have h5 := hd.1
    have h6 := Nat.le_of_dvd (by omega) h4
    have := Nat.mul_le_mul (show q ^ k * r ^ j ≤ d by omega) (show q ^ k * r ^ j ≤ d by omega)
    omega
theorem prime_0 : Prime 313 := prime_small 16 (by decide) (by decide +kernel) (by decide)
theorem prime_1 : Prime 5 := prime_small 1 (by decide) (by decide +kernel) (by decide)
theorem prime_2 : Prime 704251 := pock2 (q := 313) (k := 1) (a := 2) (r := 5) (j := 3) (b := 2) (f := 20) prime_0 (by decide) prime_1 (by decide) (by decide) (by decide +kernel) (by decide +kernel) (by decide +kernel) (by decide +kernel) (by decide +kernel)
theorem prime_3 : Prime 78283 := prime_small 278 (by decide) (by decide +kernel) (by decide)
theorem prime_4 : Prime 46076956964474543 := pock2 (q := 704251) (k := 1) (a := 2) (r := 78283) (j := 1) (b := 2) (f := 56) prime_2 (by decide) prime_3 (by decide) (by decide) (by decide +kernel) (by decide +kernel) (by decide +kernel) (by decide +kernel) (by decide +kernel)
theorem prime_5 : Prime 3677 := prime_small 59 (by decide) (by decide +kernel) (by decide)
theorem prime_6 : Prime 197 := prime_small 13 (by decide) (by decide +kernel) (by decide)
theorem prime_7 : Prime 66417393611 := pock2 (q := 3677) (k := 1) (a := 2) (r := 197) (j := 1) (b := 2) (f := 36) prime_5 (by decide) prime_6 (by decide) (by decide) (by decide +kernel) (by decide +kernel) (by decide +kernel) (by decide +kernel) (by decide +kernel)
theorem prime_8 : Prime 11290956913871 := pock1 (q := 66417393611) (k := 1) (a := 2) (f := 44) prime_7 (by decide) (by decide) (by decide +kernel) (by decide +kernel) (by decide +kernel)
theorem prime_9 : Prime 774023187263532362759620327192479577272145303 := pock2 (q := 46076956964474543) (k := 1) (a := 2) (r := 11290956913871) (j := 1) (b := 2) (f := 150) prime_4 (by decide) prime_8 (by decide) (by decide) (by decide +kernel) (by decide +kernel) (by decide +kernel) (by decide +kernel) (by decide +kernel)
theorem prime_10 : Prime 835945042244614951780389953367877943453916927241 := pock1 (q := 774023187263532362759620327192479577272145303) (k := 1) (a := 2) (f := 160) prime_9 (by decide) (by decide) (by decide +kernel) (by decide +kernel) (by decide +kernel)
theorem prime_P : Prime 115792089210356248762697446949407573530086143415290314195533631308867097853951 := pock1 (q := 835945042244614951780389953367877943453916927241) (k := 1) (a := 2) (f := 256) prime_10 (by decide) (by decide) (by decide +kernel) (by decide +kernel) (by decide +kernel)
theorem prime_12 : Prime 155317 := prime_small 393 (by decide) (by decide +kernel) (by decide)
theorem prime_13 : Prime 191039911 := pock1 (q := 155317) (k := 1) (a := 2) (f := 28) prime_12 (by decide) (by decide) (by decide +kernel) (by decide +kernel) (by decide +kernel)
theorem prime_14 : Prime 3023 := prime_small 53 (by decide) (by decide +kernel) (by decide)
theorem prime_15 : Prime 208150935158385979 := pock2 (q := 191039911) (k := 1) (a := 2) (r := 3023) (j := 1) (b := 2) (f := 58) prime_13 (by decide) prime_14 (by decide) (by decide) (by decide +kernel) (by decide +kernel) (by decide +kernel) (by decide +kernel) (by decide +kernel)
theorem prime_16 : Prime 2624747550333869278416773953 := pock1 (q := 208150935158385979) (k := 1) (a := 2) (f := 92) prime_15 (by decide) (by decide) (by decide +kernel) (by decide +kernel) (by decide +kernel)
theorem prime_17 : Prime 104471 := prime_small 322 (by decide) (by decide +kernel) (by decide)
theorem prime_18 : Prime 3969899 := pock1 (q := 104471) (k := 1) (a := 2) (f := 22) prime_17 (by decide) (by decide) (by decide +kernel) (by decide +kernel) (by decide +kernel)
theorem prime_19 : Prime 1002328039319 := pock1 (q := 3969899) (k := 1) (a := 2) (f := 40) prime_18 (by decide) (by decide) (by decide +kernel) (by decide +kernel) (by decide +kernel)
theorem prime_N : Prime 115792089210356248762697446949407573529996955224135760342422259061068512044369 := pock2 (q := 2624747550333869278416773953) (k := 1) (a := 2) (r := 1002328039319) (j := 1) (b := 2) (f := 256) prime_16 (by decide) prime_19 (by decide) (by decide) (by decide +kernel) (by decide +kernel) (by decide +kernel) (by decide +kernel) (by decide +kernel)
end Go.Proofs.YtaggpodckafbgaaGreatDoor.Ec
/- The curve's points: sums without and with a division, over a field of p numbers: plain. -/
namespace Go.Proofs.YtaggpodckafbgaaGreatDoor.Ec
variable {p : Nat} [NeZero p]
def inv (a : Fin p) : Fin p := Fin.ofNat p (a.val ^ (p - 2))
theorem inv_ok (hp : Prime p) {a : Fin p} (h : a ≠ 0) : a * inv a = 1 := by
  have h1 : ¬ p ∣ a.val := by
    intro hd
    have := Nat.eq_zero_of_dvd_of_lt hd a.isLt
    exact h (Fin.ext (by simpa using this))
  have h2 := fermat hp h1
  have h3 := hp.1
  apply Fin.ext
  rw [Fin.val_mul]
  show a.val * (a.val ^ (p - 2) % p) % p = 1 % p
  rw [Nat.mul_mod_mod, ← Nat.pow_succ', show (p - 2).succ = p - 1 from by omega, h2]
theorem one_ne (hp : Prime p) : (1 : Fin p) ≠ 0 := by
  have h3 := hp.1
  intro h
  have := congrArg Fin.val h
  have h1 : (1 : Fin p).val = 1 % p := rfl
  have h0 : (0 : Fin p).val = 0 % p := rfl
  rw [h1, h0, Nat.mod_eq_of_lt (by omega : 1 < p)] at this
  simp at this
theorem mul_zero_or (hp : Prime p) {a b : Fin p} (h : a * b = 0) : a = 0 ∨ b = 0 := by
  by_cases ha : a = 0
  · exact Or.inl ha
  · right
    have := inv_ok hp ha
    grobner
inductive Pt (p : Nat) where
  | inf
  | at (x y : Fin p)
def Pt.on (b : Fin p) : Pt p → Prop
  | .inf => True
  | .at x y => y * y = x * (x * x) - 3 * x + b
def chord (s x1 y1 x2 : Fin p) : Pt p := .at (s * s - x1 - x2) (s * (x1 - (s * s - x1 - x2)) - y1)
def addA : Pt p → Pt p → Pt p
  | .inf, q => q
  | .at x1 y1, .inf => .at x1 y1
  | .at x1 y1, .at x2 y2 =>
    if x1 = x2 ∧ y1 = -y2 then .inf
    else if x1 = x2 ∧ y1 = y2 then chord ((3 * (x1 * x1) - 3) * inv (y1 + y1)) x1 y1 x2
    else chord ((y2 - y1) * inv (x2 - x1)) x1 y1 x2
theorem on_same_x (hp : Prime p) {b x y y' : Fin p} (h : (Pt.at x y).on b) (h' : (Pt.at x y').on b) : y = y' ∨ y = -y' := by
  have h1 : (y - y') * (y + y') = 0 := by simp only [Pt.on] at h h'; grobner
  rcases mul_zero_or hp h1 with h2 | h2
  · left; grobner
  · right; grobner
theorem on_dbl {b x y s i : Fin p} (h : y * y = x * (x * x) - 3 * x + b) (hi : (y + y) * i = 1) (hs : s = (3 * (x * x) - 3) * i) :
    (chord s x y x).on b := by
  have hs' : s * (y + y) = 3 * (x * x) - 3 := by subst hs; grobner
  simp only [chord, Pt.on]
  grobner
theorem on_chord {b x y x' y' s i : Fin p} (h : y * y = x * (x * x) - 3 * x + b) (h' : y' * y' = x' * (x' * x') - 3 * x' + b) (hi : (x' - x) * i = 1) (hs : s * (x' - x) = y' - y) :
    (chord s x y x').on b := by
  simp only [chord, Pt.on]
  grobner
structure Jac (p : Nat) where
  x : Fin p
  y : Fin p
  z : Fin p
def Rep (j : Jac p) : Pt p → Prop
  | .inf => j.z = 0
  | .at X Y => j.z ≠ 0 ∧ j.x = X * (j.z * j.z) ∧ j.y = Y * (j.z * j.z * j.z)
def Jac.twice (j : Jac p) : Jac p :=
  let zz := j.z * j.z
  let yy := j.y * j.y
  let m := 3 * ((j.x - zz) * (j.x + zz))
  let s := 4 * (j.x * yy)
  let x := m * m - (s + s)
  ⟨x, m * (s - x) - 8 * (yy * yy), 2 * (j.y * j.z)⟩
def Jac.add (j q : Jac p) : Jac p :=
  if j.z = 0 then q else if q.z = 0 then j else
  let pz := j.z * j.z
  let qz := q.z * q.z
  let u := j.x * qz
  let v := q.x * pz
  let s := j.y * (qz * q.z)
  let t := q.y * (pz * j.z)
  let h := v - u
  let r := t - s
  if h = 0 then (if r = 0 then j.twice else ⟨0, 0, 0⟩) else
  let hh := h * h
  let hhh := h * hh
  let uhh := u * hh
  let x := r * r - hhh - (uhh + uhh)
  ⟨x, r * (uhh - x) - s * hhh, h * (j.z * q.z)⟩
def Jac.pt (j : Jac p) : Pt p :=
  if j.z = 0 then .inf else .at (j.x * (inv j.z * inv j.z)) (j.y * (inv j.z * inv j.z * inv j.z))
theorem Rep.pt (hp : Prime p) (j : Jac p) : Rep j j.pt := by
  by_cases h : j.z = 0
  · simp [Jac.pt, h, Rep]
  · have hi := inv_ok hp h
    simp only [Jac.pt, h, if_false, Rep]
    refine ⟨h, ?_, ?_⟩ <;> grobner
theorem Rep.uniq (hp : Prime p) {j : Jac p} {A B : Pt p} (h : Rep j A) (h' : Rep j B) : A = B := by
  cases A <;> cases B <;> simp only [Rep] at h h'
  · rfl
  · exact absurd h h'.1
  · exact absurd h' h.1
  · obtain ⟨hz, h1, h2⟩ := h
    obtain ⟨_, h3, h4⟩ := h'
    have hi := inv_ok hp hz
    congr 1 <;> grobner
theorem Rep.twice (hp : Prime p) (h2 : (2 : Fin p) ≠ 0) {j : Jac p} {A : Pt p} (h : Rep j A) : Rep j.twice (addA A A) := by
  cases A with
  | inf => simp only [Rep] at h; simp only [addA, Rep, Jac.twice, h]; grobner
  | «at» X Y =>
    simp only [Rep] at h
    obtain ⟨hz, hx, hy⟩ := h
    by_cases hY : Y = -Y
    · have hY0 : Y = 0 := by
        have : (2 : Fin p) * Y = 0 := by grobner
        rcases mul_zero_or hp this with h | h
        · exact absurd h h2
        · exact h
      subst hY0
      simp only [addA, true_and]
      rw [if_pos hY]
      simp only [Rep, Jac.twice]
      grobner
    · have hYY : Y + Y ≠ 0 := by intro h; apply hY; grobner
      have hi := inv_ok hp hYY
      simp only [addA, true_and, hY, and_self, if_true, if_false, Rep, Jac.twice, chord]
      refine ⟨?_, ?_, ?_⟩
      · rw [hy]
        intro h0
        have h3 : (Y + Y) * (j.z * j.z * j.z * j.z) = 0 := by grobner
        rcases mul_zero_or hp h3 with h | h
        · exact hYY h
        rcases mul_zero_or hp h with h | h
        · rcases mul_zero_or hp h with h | h
          · rcases mul_zero_or hp h with h | h <;> exact hz h
          · exact hz h
        · exact hz h
      · rw [hx, hy]; grobner
      · rw [hx, hy]; grobner
theorem add_xy {X Y X' s Z h r u t x : Fin p} (hh : h = (X' - X) * (Z * Z)) (hr : r = s * h * Z) (hu : u = X * (Z * Z)) (ht : t = Y * (Z * Z * Z)) (hx : x = r * r - h * (h * h) - (u * (h * h) + u * (h * h))) :
    x = (s * s - X - X') * ((h * Z) * (h * Z)) ∧ r * (u * (h * h) - x) - t * (h * (h * h)) = (s * (X - (s * s - X - X')) - Y) * ((h * Z) * (h * Z) * (h * Z)) := by
  have h1 : x = (s * s - X - X') * ((h * Z) * (h * Z)) := by
    have h4 : h * (h * h) = (X' - X) * (Z * Z) * (h * h) := by rw [← hh]
    have h5 : h * (h * h) + (u * (h * h) + u * (h * h)) = (X + X') * ((h * Z) * (h * Z)) := by
      rw [h4, hu]; clear hh hr ht hx h4; grobner
    have h6 : x = r * r - (h * (h * h) + (u * (h * h) + u * (h * h))) := by rw [hx]; clear hh hr ht hx h4 h5; grobner
    rw [h6, h5, hr]; clear hh hr ht hx h4 h5 h6; grobner
  refine ⟨h1, ?_⟩
  rw [h1, hr, hu, ht]; clear hh; grobner
theorem Rep.add (hp : Prime p) (h2 : (2 : Fin p) ≠ 0) {b : Fin p} {j q : Jac p} {A B : Pt p} (h : Rep j A) (h' : Rep q B) (oA : A.on b) (oB : B.on b) : Rep (j.add q) (addA A B) := by
  cases A with
  | inf =>
    simp only [Rep] at h
    simp only [Jac.add, h, if_true, addA]
    exact h'
  | «at» X Y =>
    cases B with
    | inf =>
      have hz : j.z ≠ 0 := h.1
      have hq : q.z = 0 := h'
      simp only [Jac.add, hz, hq, if_true, if_false, addA]
      exact h
    | «at» X' Y' =>
      have hz : j.z ≠ 0 := h.1
      have hq : q.z ≠ 0 := h'.1
      have hx := h.2.1
      have hy := h.2.2
      have hx' := h'.2.1
      have hy' := h'.2.2
      have iz := inv_ok hp hz
      have iq := inv_ok hp hq
      generalize inv j.z = i at iz
      generalize inv q.z = k at iq
      simp only [Jac.add, hz, hq, if_false]
      have e1 : q.x * (j.z * j.z) - j.x * (q.z * q.z) = (X' - X) * ((j.z * q.z) * (j.z * q.z)) := by rw [hx, hx']; grobner
      have e2 : q.y * (j.z * j.z * j.z) - j.y * (q.z * q.z * q.z) = (Y' - Y) * ((j.z * q.z) * (j.z * q.z) * (j.z * q.z)) := by rw [hy, hy']; grobner
      by_cases hX : X = X'
      · subst hX
        have h0 : q.x * (j.z * j.z) - j.x * (q.z * q.z) = 0 := by rw [e1]; grobner
        rw [if_pos h0]
        rcases on_same_x hp oA oB with hY | hY
        · subst hY
          have h0 : q.y * (j.z * j.z * j.z) - j.y * (q.z * q.z * q.z) = 0 := by rw [e2]; grobner
          rw [if_pos h0]
          exact Rep.twice hp h2 h
        · by_cases hYY : Y = Y'
          · subst hYY
            have h0 : q.y * (j.z * j.z * j.z) - j.y * (q.z * q.z * q.z) = 0 := by rw [e2]; grobner
            rw [if_pos h0]
            exact Rep.twice hp h2 h
          · have h0 : ¬ q.y * (j.z * j.z * j.z) - j.y * (q.z * q.z * q.z) = 0 := by
              rw [e2]
              intro h0
              apply hYY
              grobner
            rw [if_neg h0]
            simp only [addA, true_and, hY, if_true, Rep]
      · have h0 : ¬ q.x * (j.z * j.z) - j.x * (q.z * q.z) = 0 := by
          rw [e1]
          intro h0
          apply hX
          grobner
        rw [if_neg h0]
        have hd : X' - X ≠ 0 := by intro h; apply hX; grobner
        have hi := inv_ok hp hd
        simp only [addA, hX, false_and, if_false, Rep, chord]
        generalize inv (X' - X) = w at hi
        refine ⟨?_, ?_⟩
        · rw [e1]
          intro h1
          have : X' - X = 0 := by grobner
          exact hd this
        · have hs : (Y' - Y) * w * (X' - X) = Y' - Y := by grobner
          have er : q.y * (j.z * j.z * j.z) - j.y * (q.z * q.z * q.z) = (Y' - Y) * w * (q.x * (j.z * j.z) - j.x * (q.z * q.z)) * (j.z * q.z) := by
            rw [e2, e1]; generalize (Y' - Y) * w = s at hs; rw [← hs]; clear hs; grobner
          exact add_xy (X := X) (Y := Y) (X' := X') (s := (Y' - Y) * w) (Z := j.z * q.z) e1 er (by rw [hx]; clear e1 er e2 h0; grobner) (by rw [hy]; clear e1 er e2 h0; grobner) rfl
theorem on_add (hp : Prime p) {b : Fin p} {A B : Pt p} (oA : A.on b) (oB : B.on b) : (addA A B).on b := by
  cases A with
  | inf => exact oB
  | «at» X Y =>
    cases B with
    | inf => exact oA
    | «at» X' Y' =>
      simp only [addA]
      by_cases h1 : X = X' ∧ Y = -Y'
      · rw [if_pos h1]; trivial
      · rw [if_neg h1]
        by_cases h3 : X = X' ∧ Y = Y'
        · rw [if_pos h3]
          obtain ⟨rfl, rfl⟩ := h3
          have hY : Y + Y ≠ 0 := by intro h; exact h1 ⟨rfl, by grobner⟩
          exact on_dbl oA (inv_ok hp hY) rfl
        · rw [if_neg h3]
          have hX : X' - X ≠ 0 := by
            intro h
            have hx : X = X' := by grobner
            subst hx
            rcases on_same_x hp oA oB with h4 | h4
            · exact h3 ⟨rfl, h4⟩
            · exact h1 ⟨rfl, h4⟩
          have hi := inv_ok hp hX
          generalize inv (X' - X) = w at hi
          refine on_chord oA oB hi ?_
          grobner
def Jac.twice' (j : Jac p) : Jac p :=
  let yy := j.y * j.y
  let zz := j.z * j.z
  let a := 4 * (j.x * yy)
  let b := 3 * (j.x * j.x - zz * zz)
  let x := b * b - (a + a)
  ⟨x, b * (a - x) - 8 * (yy * yy), (j.y + j.y) * j.z⟩
theorem twice_eq (j : Jac p) : j.twice' = j.twice := by
  have e : (3 : Fin p) * (j.x * j.x - j.z * j.z * (j.z * j.z)) = 3 * ((j.x - j.z * j.z) * (j.x + j.z * j.z)) := by grobner
  have e2 : (j.y + j.y) * j.z = 2 * (j.y * j.z) := by grobner
  simp only [Jac.twice, Jac.twice', e, e2]
def Jac.more (j : Jac p) (X Y : Fin p) : Jac p :=
  let zz := j.z * j.z
  let h := X * zz - j.x
  let r := Y * (zz * j.z) - j.y
  let hh := h * h
  let hhh := h * hh
  let v := j.x * hh
  let x := r * r - hhh - (v + v)
  ⟨x, r * (v - x) - j.y * hhh, j.z * h⟩
theorem more_add {j : Jac p} {X Y : Fin p} (hz : j.z ≠ 0) (h1 : (1 : Fin p) ≠ 0) (hh : X * (j.z * j.z) - j.x ≠ 0) : j.more X Y = j.add ⟨X, Y, 1⟩ := by
  have e1 : j.x * (1 * 1) = j.x := by grobner
  have e2 : j.y * (1 * 1 * 1) = j.y := by grobner
  have e3 : j.z * 1 = j.z := by grobner
  have e4 : j.z * (X * (j.z * j.z) - j.x) = (X * (j.z * j.z) - j.x) * j.z := by grobner
  simp only [Jac.more, Jac.add, hz, h1, if_false, e1, e2, e3, e4, hh]
def Jac.of : Pt p → Jac p
  | .inf => ⟨0, 0, 0⟩
  | .at X Y => ⟨X, Y, 1⟩
theorem rep_of (hp : Prime p) (A : Pt p) : Rep (Jac.of A) A := by
  cases A with
  | inf => rfl
  | «at» X Y => exact ⟨one_ne hp, by show X = X * (1 * 1); grobner, by show Y = Y * (1 * 1 * 1); grobner⟩
/-! ### multiples -/
def mulN (A : Pt p) (m : Nat) : Pt p :=
  if _h : m = 0 then .inf else
  bif m % 2 == 1 then addA (addA (mulN A (m / 2)) (mulN A (m / 2))) A else addA (mulN A (m / 2)) (mulN A (m / 2))
termination_by m
decreasing_by all_goals omega
theorem mulN_zero (A : Pt p) : mulN A 0 = .inf := by rw [mulN]; simp
theorem mulN_step (A : Pt p) (m : Nat) : mulN A m = bif m % 2 == 1 then addA (addA (mulN A (m / 2)) (mulN A (m / 2))) A else addA (mulN A (m / 2)) (mulN A (m / 2)) := by
  by_cases h : m = 0
  · subst h; rw [mulN_zero]; rfl
  · rw [mulN, dif_neg h]
theorem on_mulN (hp : Prime p) {b : Fin p} {A : Pt p} (oA : A.on b) (m : Nat) : (mulN A m).on b := by
  induction m using Nat.strongRecOn with
  | ind m ih =>
    by_cases h : m = 0
    · subst h; rw [mulN_zero]; trivial
    · have i := ih (m / 2) (by omega)
      have hd := on_add hp i i
      rw [mulN_step]
      cases m % 2 == 1
      · exact hd
      · exact on_add hp hd oA
def mulJ (q : Jac p) : Nat → Nat → Jac p
  | 0, _ => ⟨0, 0, 0⟩
  | f + 1, m => bif m % 2 == 1 then (mulJ q f (m / 2)).twice.add q else (mulJ q f (m / 2)).twice
theorem rep_mulJ (hp : Prime p) (h2 : (2 : Fin p) ≠ 0) {b : Fin p} {A : Pt p} {q : Jac p} (oA : A.on b) (hq : Rep q A) : ∀ f m, m < 2 ^ f → Rep (mulJ q f m) (mulN A m)
  | 0, m, h => by
    have : m = 0 := by simpa using h
    subst this; rw [mulN_zero]; rfl
  | f + 1, m, h => by
    have ih := rep_mulJ hp h2 oA hq f (m / 2) (by rw [Nat.pow_succ] at h; omega)
    have hd := Rep.twice hp h2 ih
    have ho := on_mulN hp oA (m / 2)
    have hd' := on_add hp ho ho
    rw [mulN_step]
    simp only [mulJ]
    cases m % 2 == 1
    · exact hd
    · exact Rep.add hp h2 hd hq hd' oA
end Go.Proofs.YtaggpodckafbgaaGreatDoor.Ec
/- The curve P-256: its numbers, its base point, and N times it. -/
namespace Go.Proofs.YtaggpodckafbgaaGreatDoor.Ec
def P : Nat := 115792089210356248762697446949407573530086143415290314195533631308867097853951
def N : Nat := 115792089210356248762697446949407573529996955224135760342422259061068512044369
theorem hP : Prime P := prime_P
theorem hN : Prime N := prime_N
instance : NeZero P := ⟨by decide⟩
instance : NeZero N := ⟨by decide⟩
abbrev F := Fin P
def cb : F := ⟨0x5ac635d8aa3a93e7b3ebbd55769886bc651d06b0cc53b0f63bce3c3e27d2604b, by decide⟩
def gx : F := ⟨0x6b17d1f2e12c4247f8bce6e563a440f277037d812deb33a0f4a13945d898c296, by decide⟩
def gy : F := ⟨0x4fe342e2fe1a7f9b8ee7eb4a7c0f9e162bce33576b315ececbb6406837bf51f5, by decide⟩
def G : Pt P := .at gx gy
theorem two_ne : (2 : F) ≠ 0 := by decide +kernel
theorem one_ne' : (1 : F) ≠ 0 := one_ne hP
theorem G_on : G.on cb := by
  show gy * gy = gx * (gx * gx) - 3 * gx + cb
  decide +kernel
/-! ### worked out in numbers -/
def mm (a b : Nat) : Nat := a * b % P
def sm (a b : Nat) : Nat := (P - b + a) % P
def am (a b : Nat) : Nat := (a + b) % P
def dblK {α : Type} (x y z : Nat) (k : Nat → Nat → Nat → α) : α :=
  frc (mm z z) fun zz => frc (mm y y) fun yy => frc (mm 3 (mm (sm x zz) (am x zz))) fun m => frc (mm 4 (mm x yy)) fun s =>
  frc (sm (mm m m) (am s s)) fun x' => frc (sm (mm m (sm s x')) (mm 8 (mm yy yy))) fun y' => frc (mm 2 (mm y z)) fun z' => k x' y' z'
def addK {α : Type} (x y z qx qy : Nat) (k : Nat → Nat → Nat → α) : α :=
  bif z == 0 then k qx qy 1 else
  frc (mm z z) fun pz => frc (sm (mm qx pz) (mm x (mm 1 1))) fun h => frc (sm (mm qy (mm pz z)) (mm y (mm (mm 1 1) 1))) fun r =>
  bif h == 0 then (bif r == 0 then dblK x y z k else k 0 0 0) else
  frc (mm h h) fun hh => frc (mm h hh) fun hhh => frc (mm (mm x (mm 1 1)) hh) fun u => frc (sm (sm (mm r r) hhh) (am u u)) fun x' =>
  frc (sm (mm r (sm u x')) (mm (mm y (mm (mm 1 1) 1)) hhh)) fun y' => frc (mm h (mm z 1)) fun z' => k x' y' z'
theorem val_mul (a b : F) : (a * b).val = mm a.val b.val := Fin.val_mul a b
theorem val_sub (a b : F) : (a - b).val = sm a.val b.val := by rw [Fin.sub_def]; rfl
theorem val_add (a b : F) : (a + b).val = am a.val b.val := Fin.val_add a b
theorem val_1 : (1 : F).val = 1 := by decide +kernel
theorem val_2 : (2 : F).val = 2 := by decide +kernel
theorem val_3 : (3 : F).val = 3 := by decide +kernel
theorem val_4 : (4 : F).val = 4 := by decide +kernel
theorem val_8 : (8 : F).val = 8 := by decide +kernel
theorem val_0 : (0 : F).val = 0 := rfl
theorem val_is0 (a : F) : (a.val == 0) = decide (a = 0) := by
  by_cases h : a = 0
  · subst h; rfl
  · have : a.val ≠ 0 := fun e => h (Fin.ext e)
    simp [h, this]
def Jac.put {α : Type} (j : Jac P) (k : Nat → Nat → Nat → α) : α := k j.x.val j.y.val j.z.val
theorem dblK_eq {α : Type} (j : Jac P) (k : Nat → Nat → Nat → α) : j.put (fun x y z => dblK x y z k) = j.twice.put k := by
  simp only [Jac.put, dblK, frc_eq, Jac.twice, val_mul, val_sub, val_add, val_2, val_3, val_4, val_8]
theorem addK_eq {α : Type} (j : Jac P) (X Y : F) (k : Nat → Nat → Nat → α) : j.put (fun x y z => addK x y z X.val Y.val k) = (j.add ⟨X, Y, 1⟩).put k := by
  have hd := dblK_eq j k
  simp only [Jac.put] at hd ⊢
  simp only [addK, frc_eq, Jac.add, ← val_1, ← val_mul, ← val_sub, ← val_add, val_is0, Bool.cond_decide]
  by_cases h1 : j.z = 0
  · simp only [h1, if_true, val_1]
  · simp only [h1, if_false, one_ne']
    by_cases h2 : X * (j.z * j.z) - j.x * (1 * 1) = 0
    · simp only [h2, if_true]
      by_cases h3 : Y * (j.z * j.z * j.z) - j.y * (1 * 1 * 1) = 0
      · simp only [h3, if_true]; exact hd
      · simp only [h3, if_false, val_0]
    · simp only [h2, if_false]
def mulK {α : Type} (qx qy : Nat) : Nat → Nat → (Nat → Nat → Nat → α) → α
  | 0, _, k => k 0 0 0
  | f + 1, m, k => frc (m / 2) fun m' => mulK qx qy f m' fun x y z => dblK x y z fun x y z => bif m % 2 == 1 then addK x y z qx qy k else k x y z
theorem mulK_eq {α : Type} (X Y : F) : ∀ (f m : Nat) (k : Nat → Nat → Nat → α), mulK X.val Y.val f m k = (mulJ ⟨X, Y, 1⟩ f m).put k
  | 0, _, k => rfl
  | f + 1, m, k => by
    have ih := mulK_eq (α := α) X Y f (m / 2)
    show frc (m / 2) _ = _
    rw [frc_eq, ih]
    show (mulJ ⟨X, Y, 1⟩ f (m / 2)).put (fun x y z => dblK x y z _) = _
    rw [dblK_eq]
    simp only [mulJ]
    cases m % 2 == 1
    · rfl
    · show Jac.put _ (fun x y z => addK x y z X.val Y.val k) = _
      rw [addK_eq]; rfl
theorem NG_z : (mulJ ⟨gx, gy, 1⟩ 256 N).z = 0 := by
  have h := mulK_eq gx gy 256 N (fun _ _ z => z)
  have h1 : mulK gx.val gy.val 256 N (fun _ _ z => z) = 0 := by decide +kernel
  rw [h1] at h
  exact Fin.ext h.symm
theorem NG : mulN G N = .inf := by
  have h := rep_mulJ hP two_ne G_on (rep_of hP G) 256 N (by decide +kernel)
  refine Rep.uniq hP h ?_
  exact NG_z
def g2x : F := ⟨0x7cf27b188d034f7e8a52380304b51ac3c08969e277f21b35a60b48fc47669978, by decide⟩
def g2y : F := ⟨0x07775510db8ed040293d9ac69f7430dbba7dade63ce982299e04b79d227873d1, by decide⟩
def g2s : F := ⟨0xa249bcb3191802d3cb56fc75a8731f848e7b2caf080f3477a4e4d904a671af9d, by decide⟩
theorem G2 : mulN G 2 = .at g2x g2y := by
  have h1 : mulN G 1 = G := by rw [mulN_step]; simp [mulN_zero, addA]
  rw [mulN_step]
  show (bif false then _ else addA (mulN G 1) (mulN G 1)) = _
  rw [h1]
  show addA G G = _
  have hn : ¬ (True ∧ gy = -gy) := by decide +kernel
  have hi := inv_ok hP (show gy + gy ≠ 0 by decide +kernel)
  have hs : (3 * (gx * gx) - 3) * inv (gy + gy) = g2s := by
    have e : 3 * (gx * gx) - 3 = g2s * (gy + gy) := by decide +kernel
    rw [e]; grobner
  show addA (.at gx gy) (.at gx gy) = _
  simp only [addA]
  rw [if_neg hn, if_pos ⟨trivial, trivial⟩, hs]
  show Pt.at _ _ = _
  have e1 : g2s * g2s - gx - gx = g2x := by decide +kernel
  rw [e1]
  have e2 : g2s * (gx - g2x) - gy = g2y := by decide +kernel
  rw [e2]
end Go.Proofs.YtaggpodckafbgaaGreatDoor.Ec
/- The sum of points hangs on neither order nor brackets: plain. -/
namespace Go.Proofs.YtaggpodckafbgaaGreatDoor.Ec
variable {p : Nat} [NeZero p]
def Pt.neg : Pt p → Pt p
  | .inf => .inf
  | .at x y => .at x (-y)
theorem neg_neg' (A : Pt p) : A.neg.neg = A := by
  cases A with
  | inf => rfl
  | «at» x y => show Pt.at x (- -y) = _; congr 1; grobner
theorem on_neg {b : Fin p} {A : Pt p} (h : A.on b) : A.neg.on b := by
  cases A with
  | inf => trivial
  | «at» x y => simp only [Pt.on, Pt.neg] at h ⊢; grobner
def Sl (s x1 y1 x2 y2 : Fin p) : Prop := s * (x2 - x1) = y2 - y1 ∧ x1 * x1 + x1 * x2 + x2 * x2 - 3 = s * (y1 + y2)
theorem Sl.symm {s x1 y1 x2 y2 : Fin p} (h : Sl s x1 y1 x2 y2) : Sl s x2 y2 x1 y1 := by
  obtain ⟨h1, h2⟩ := h
  exact ⟨by grobner, by grobner⟩
theorem Sl.neg {s x1 y1 x2 y2 : Fin p} (h : Sl s x1 y1 x2 y2) : Sl (-s) x1 (-y1) x2 (-y2) := by
  obtain ⟨h1, h2⟩ := h
  exact ⟨by grobner, by grobner⟩
theorem Sl.third {s x1 y1 x2 y2 x3 y3 : Fin p} (h : Sl s x1 y1 x2 y2) (hx : x3 = s * s - x1 - x2) (hy : y3 = s * (x1 - x3) - y1) : Sl s x1 y1 x3 (-y3) := by
  obtain ⟨h1, h2⟩ := h
  exact ⟨by grobner, by grobner⟩
theorem Sl.third' {s x1 y1 x2 y2 x3 y3 : Fin p} (h : Sl s x1 y1 x2 y2) (hx : x3 = s * s - x1 - x2) (hy : y3 = s * (x1 - x3) - y1) : Sl s x2 y2 x3 (-y3) := by
  obtain ⟨h1, h2⟩ := h
  exact ⟨by grobner, by grobner⟩
theorem Sl.y {s x1 y1 x2 y2 : Fin p} (h : Sl s x1 y1 x2 y2) (x3 : Fin p) : s * (x1 - x3) - y1 = s * (x2 - x3) - y2 := by
  obtain ⟨h1, _⟩ := h
  grobner
theorem Sl.uniq (hp : Prime p) {s t x1 y1 x2 y2 : Fin p} (h : Sl s x1 y1 x2 y2) (h' : Sl t x1 y1 x2 y2) (hn : ¬ (x1 = x2 ∧ y1 = -y2)) : s = t := by
  obtain ⟨h1, h2⟩ := h
  obtain ⟨h3, h4⟩ := h'
  have e1 : (s - t) * (x2 - x1) = 0 := by grobner
  have e2 : (s - t) * (y1 + y2) = 0 := by grobner
  rcases mul_zero_or hp e1 with h | h
  · grobner
  · rcases mul_zero_or hp e2 with h' | h'
    · grobner
    · exact absurd ⟨by grobner, by grobner⟩ hn
theorem exists_sl (hp : Prime p) {b x1 y1 x2 y2 : Fin p} (o1 : (Pt.at x1 y1).on b) (o2 : (Pt.at x2 y2).on b) (hn : ¬ (x1 = x2 ∧ y1 = -y2)) : ∃ s, Sl s x1 y1 x2 y2 ∧ addA (.at x1 y1) (.at x2 y2) = chord s x1 y1 x2 := by
  by_cases h : x1 = x2 ∧ y1 = y2
  · obtain ⟨rfl, rfl⟩ := h
    have hY : y1 + y1 ≠ 0 := by intro h; exact hn ⟨rfl, by grobner⟩
    have hi := inv_ok hp hY
    refine ⟨(3 * (x1 * x1) - 3) * inv (y1 + y1), ⟨by grobner, by grobner⟩, ?_⟩
    simp only [addA, true_and, if_true]
    rw [if_neg (fun h => hn ⟨rfl, h⟩)]
  · have hX : x2 - x1 ≠ 0 := by
      intro e
      have hx : x1 = x2 := by grobner
      subst hx
      rcases on_same_x hp o1 o2 with h4 | h4
      · exact h ⟨rfl, h4⟩
      · exact hn ⟨rfl, h4⟩
    have hi := inv_ok hp hX
    refine ⟨(y2 - y1) * inv (x2 - x1), ⟨by grobner, ?_⟩, ?_⟩
    · simp only [Pt.on] at o1 o2
      have : (x1 * x1 + x1 * x2 + x2 * x2 - 3) * (x2 - x1) = (y2 - y1) * (y1 + y2) := by grobner
      grobner
    · simp only [addA, hn, h, if_false]
theorem addA_of_sl (hp : Prime p) {b s x1 y1 x2 y2 : Fin p} (o1 : (Pt.at x1 y1).on b) (o2 : (Pt.at x2 y2).on b) (hn : ¬ (x1 = x2 ∧ y1 = -y2)) (h : Sl s x1 y1 x2 y2) : addA (.at x1 y1) (.at x2 y2) = chord s x1 y1 x2 := by
  obtain ⟨t, ht, e⟩ := exists_sl hp o1 o2 hn
  rw [h.uniq hp ht hn]; exact e
theorem addA_inf (A : Pt p) : addA A .inf = A := by cases A <;> rfl
theorem addA_comm (hp : Prime p) {b : Fin p} {A B : Pt p} (oA : A.on b) (oB : B.on b) : addA A B = addA B A := by
  cases A with
  | inf => rw [addA_inf]; rfl
  | «at» x1 y1 =>
    cases B with
    | inf => rfl
    | «at» x2 y2 =>
      by_cases hn : x1 = x2 ∧ y1 = -y2
      · obtain ⟨rfl, rfl⟩ := hn
        have : y2 = - -y2 := by grobner
        simp only [addA, true_and, ← this, if_true]
      · have hn' : ¬ (x2 = x1 ∧ y2 = -y1) := by rintro ⟨rfl, h⟩; exact hn ⟨rfl, by grobner⟩
        obtain ⟨s, hs, e⟩ := exists_sl hp oA oB hn
        rw [e, addA_of_sl hp oB oA hn' hs.symm]
        obtain ⟨h1, _⟩ := hs
        have ex : s * s - x2 - x1 = s * s - x1 - x2 := by grobner
        simp only [chord, ex]
        congr 1
        grobner
theorem addA_neg (A : Pt p) : addA A A.neg = .inf := by
  cases A with
  | inf => rfl
  | «at» x y =>
    have : y = - -y := by grobner
    simp only [Pt.neg, addA, true_and, ← this, if_true]
theorem chord_neg (s x1 y1 x2 : Fin p) : (chord s x1 y1 x2).neg = chord (-s) x1 (-y1) x2 := by
  simp only [chord, Pt.neg]
  have e : -s * -s = s * s := by grobner
  rw [e]
  congr 1
  grobner
theorem neg_add (hp : Prime p) {b : Fin p} {A B : Pt p} (oA : A.on b) (oB : B.on b) : (addA A B).neg = addA A.neg B.neg := by
  cases A with
  | inf => rfl
  | «at» x1 y1 =>
    cases B with
    | inf => rfl
    | «at» x2 y2 =>
      by_cases hn : x1 = x2 ∧ y1 = -y2
      · obtain ⟨rfl, rfl⟩ := hn
        simp only [Pt.neg, addA, true_and, if_true]
      · have hn' : ¬ (x1 = x2 ∧ -y1 = - -y2) := by rintro ⟨rfl, h⟩; exact hn ⟨rfl, by grobner⟩
        obtain ⟨s, hs, e⟩ := exists_sl hp oA oB hn
        rw [e, chord_neg]
        exact (addA_of_sl hp (on_neg oA) (on_neg oB) hn' hs.neg).symm
structure Good (b : Fin p) : Prop where
  hp : Prime p
  two : (2 : Fin p) ≠ 0
  three : (3 : Fin p) ≠ 0
  disc : b * b ≠ 4
theorem Good.smooth {b x : Fin p} (g : Good b) (h : (Pt.at x 0).on b) (h' : x * x + x * x + x * x - 3 = 0) : False := by
  have hp := g.hp
  simp only [Pt.on] at h
  have h1 : (3 : Fin p) * (x * x - 1) = 0 := by grobner
  rcases mul_zero_or hp h1 with h2 | h2
  · exact g.three h2
  · exact g.disc (by grobner)
theorem cancel (hp : Prime p) {b : Fin p} (g : Good b) {A B : Pt p} (oA : A.on b) (oB : B.on b) : addA A.neg (addA A B) = B := by
  cases A with
  | inf => rfl
  | «at» x1 y1 =>
    cases B with
    | inf => rw [addA_inf, addA_comm hp (on_neg oA) oA]; exact addA_neg _
    | «at» x2 y2 =>
      by_cases hn : x1 = x2 ∧ y1 = -y2
      · obtain ⟨rfl, rfl⟩ := hn
        have : addA (.at x1 (-y2)) (.at x1 y2) = (.inf : Pt p) := by simp only [addA, true_and, if_true]
        rw [this, addA_inf]
        show Pt.at x1 (- -y2) = _
        congr 1; grobner
      · obtain ⟨s, hs, e⟩ := exists_sl hp oA oB hn
        have oC := on_add hp oA oB
        rw [e] at oC ⊢
        simp only [chord] at oC ⊢
        generalize hx : s * s - x1 - x2 = x3 at oC
        generalize hy : s * (x1 - x3) - y1 = y3 at oC
        have h3 := (hs.third hx.symm hy.symm).neg
        have e3 : - -y3 = y3 := by grobner
        rw [e3] at h3
        have hn' : ¬ (x1 = x3 ∧ -y1 = -y3) := by
          rintro ⟨e1, e2⟩
          have hy1 : y1 = 0 := by
            have h4 : (2 : Fin p) * y1 = 0 := by grobner
            rcases mul_zero_or hp h4 with h5 | h5
            · exact absurd h5 g.two
            · exact h5
          subst hy1
          obtain ⟨_, h4⟩ := h3
          exact g.smooth oA (by grobner)
        show addA (.at x1 (-y1)) (.at x3 y3) = _
        rw [addA_of_sl hp (on_neg oA) oC hn' h3]
        obtain ⟨h1, _⟩ := hs
        have ex : -s * -s - x1 - x3 = x2 := by grobner
        simp only [chord, ex]
        congr 1
        grobner
theorem way_B (hp : Prime p) {s t u x1 y1 x2 y2 x3 y3 x4 y4 : Fin p} (h12 : Sl s x1 y1 x2 y2) (h23 : Sl t x2 y2 x3 y3) (h43 : Sl u x4 y4 x3 y3)
    (hx : x4 = s * s - x1 - x2) (hy : y4 = s * (x1 - x4) - y1) (hn : ¬ (x4 = x3 ∧ y4 = -y3)) (hd : x2 = x3 → y2 = y3) :
    (x2 * x2 + (s * u + x4) * x2 = (s + u) * y2 - (s * u * x4 + x4 * x4 - 3 + s * (y4 - u * x4) + u * (y2 - s * x2))) ∧ x2 + x3 + (s * u + x4) = (s + u) * t := by
  have h24 : Sl s x2 y2 x4 (-y4) := h12.third' hx hy
  obtain ⟨a1, a2⟩ := h24
  obtain ⟨b1, b2⟩ := h43
  obtain ⟨c1, c2⟩ := h23
  have e2 : x2 * x2 + (s * u + x4) * x2 = (s + u) * y2 - (s * u * x4 + x4 * x4 - 3 + s * (y4 - u * x4) + u * (y2 - s * x2)) := by
    clear b1 b2 c1 c2 hx hy; grobner
  refine ⟨e2, ?_⟩
  have hm : u * (y2 - s * x2) = u * (-y4 - s * x4) := by rw [show y2 - s * x2 = -y4 - s * x4 by clear b1 b2 c1 c2 hx hy e2; grobner]
  have e3 : x3 * x3 + (s * u + x4) * x3 = (s + u) * y3 - (s * u * x4 + x4 * x4 - 3 + s * (y4 - u * x4) + u * (y2 - s * x2)) := by
    rw [hm]; clear a1 a2 c1 c2 hx hy e2 hm; grobner
  by_cases h : x2 = x3
  · have hy' := hd h
    subst h; subst hy'
    have h24 : x2 - x4 ≠ 0 := by
      intro h
      refine hn ⟨by clear a1 a2 b1 b2 c1 c2 hx hy e2 e3 hm; grobner, ?_⟩
      have : x4 = x2 := by clear a1 a2 b1 b2 c1 c2 hx hy e2 e3 hm; grobner
      subst this
      clear a2 b1 b2 c1 c2 hx hy e2 e3 hm h; grobner
    have hi := inv_ok hp h24
    have hk : (x2 + x2 + (s * u + x4) - (s + u) * t) * (x2 - x4) = 0 := by
      have k1 : (s + u) * (x2 - x4) = y2 + y2 := by clear a2 b2 c1 c2 hx hy e2 e3 hm hi; grobner
      have k2 : s * u * (x2 - x4) = s * (y2 - y4) := by clear a1 a2 b2 c1 c2 hx hy e2 e3 hm hi k1; grobner
      have k3 : (s + u) * t * (x2 - x4) = (y2 + y2) * t := by rw [← k1]; clear a1 a2 b1 b2 c1 c2 hx hy e2 e3 hm hi k1 k2; grobner
      have k4 : (x2 + x2 + (s * u + x4) - (s + u) * t) * (x2 - x4) = (x2 + x2 + x4) * (x2 - x4) + s * u * (x2 - x4) - (s + u) * t * (x2 - x4) := by
        clear a1 a2 b1 b2 c1 c2 hx hy e2 e3 hm hi k1 k2 k3; grobner
      rw [k4, k2, k3]
      clear a1 b1 b2 c1 hx hy e2 e3 hm hi k1 k2 k3 k4; grobner
    rcases mul_zero_or hp hk with h | h
    · clear a1 a2 b1 b2 c1 c2 hx hy e2 e3 hm hi hk; grobner
    · exact absurd h h24
  · have hk : (x2 + x3 + (s * u + x4) - (s + u) * t) * (x3 - x2) = 0 := by
      have k1 : (s + u) * t * (x3 - x2) = (s + u) * (y3 - y2) := by rw [← c1]; clear a1 a2 b1 b2 c1 c2 hx hy e2 e3 hm; grobner
      have k2 : (x2 + x3 + (s * u + x4) - (s + u) * t) * (x3 - x2) = x3 * x3 + (s * u + x4) * x3 - (x2 * x2 + (s * u + x4) * x2) - (s + u) * t * (x3 - x2) := by
        clear a1 a2 b1 b2 c1 c2 hx hy e2 e3 hm k1; grobner
      rw [k2, e2, e3, k1]
      clear a1 a2 b1 b2 c1 c2 hx hy e2 e3 hm k1 k2; grobner
    rcases mul_zero_or hp hk with h' | h'
    · clear a1 a2 b1 b2 c1 c2 hx hy e2 e3 hm hk; grobner
    · exact absurd (by clear a1 a2 b1 b2 c1 c2 hx hy e2 e3 hm hk; grobner) h
theorem way_C (hp : Prime p) {s u t x1 y1 x2 y2 x3 y3 x4 y4 x6 y6 : Fin p} (h12 : Sl s x1 y1 x2 y2) (h23 : Sl t x2 y2 x3 y3) (h43 : Sl u x4 y4 x3 y3)
    (hx : x4 = s * s - x1 - x2) (hy : y4 = s * (x1 - x4) - y1) (hn : ¬ (x4 = x3 ∧ y4 = -y3)) (hd : x2 = x3 → y2 = y3)
    (hx6 : x6 = u * u - x4 - x3) (hy6 : y6 = u * (x4 - x6) - y4) :
    x6 = (s + u) * (s + u) - ((s * u + x4) + (s * u + x4)) - x1 - x2 - x3 ∧ (s + u) * y6 = -(x6 * x6 + (s * u + x4) * x6 + ((s + u) * y2 - x2 * x2 - (s * u + x4) * x2)) := by
  have hB := (way_B hp h12 h23 h43 hx hy hn hd).1
  have h46 : Sl u x4 y4 x6 (-y6) := h43.third hx6 hy6
  have h24 : Sl s x2 y2 x4 (-y4) := h12.third' hx hy
  refine ⟨by rw [hx6, hx]; clear hB h46 hx hy hx6 hy6 h24 hn hd h12 h23 h43; grobner, ?_⟩
  obtain ⟨a1, a2⟩ := h24
  obtain ⟨c1, c2⟩ := h46
  have e : (s + u) * y2 - x2 * x2 - (s * u + x4) * x2 = s * u * x4 + x4 * x4 - 3 + s * (y4 - u * x4) + u * (y2 - s * x2) := by
    clear a1 a2 c1 c2 hx hy hx6 hy6 hn hd h12 h23 h43; grobner
  have hm : u * (y2 - s * x2) = u * (-y4 - s * x4) := by rw [show y2 - s * x2 = -y4 - s * x4 by clear c1 c2 hx hy hx6 hy6 hn hd h12 h23 h43 hB e; grobner]
  rw [e, hm]
  clear a1 a2 hx hy hx6 hy6 hn hd h12 h23 h43 hB e hm
  grobner
theorem assoc_gen (hp : Prime p) {s t u v x1 y1 x2 y2 x3 y3 x4 y4 x5 y5 : Fin p}
    (h12 : Sl s x1 y1 x2 y2) (h23 : Sl t x2 y2 x3 y3) (h43 : Sl u x4 y4 x3 y3) (h15 : Sl v x1 y1 x5 y5)
    (hx : x4 = s * s - x1 - x2) (hy : y4 = s * (x1 - x4) - y1) (hx5 : x5 = t * t - x2 - x3) (hy5 : y5 = t * (x2 - x5) - y2)
    (hn : ¬ (x4 = x3 ∧ y4 = -y3)) (hn' : ¬ (x1 = x5 ∧ y1 = -y5)) (hd : x2 = x3 → y2 = y3) (hd' : x2 = x1 → y2 = y1) (hst : s ≠ t) (h13 : x1 ≠ x3) :
    (chord u x4 y4 x3 : Pt p) = chord v x1 y1 x5 := by
  have hy5' : y5 = t * (x3 - x5) - y3 := by rw [hy5]; exact h23.y x5
  have hx5' : x5 = t * t - x3 - x2 := by rw [hx5]; grobner
  have hn2 : ¬ (x5 = x1 ∧ y5 = -y1) := by rintro ⟨rfl, h⟩; exact hn' ⟨rfl, by grobner⟩
  have B := (way_B hp h12 h23 h43 hx hy hn hd).2
  have B' := (way_B hp h23.symm h12.symm h15.symm hx5' hy5' hn2 hd').2
  generalize hx6 : u * u - x4 - x3 = x6
  generalize hy6 : u * (x4 - x6) - y4 = y6
  generalize hx7 : v * v - x1 - x5 = x7
  generalize hy7 : v * (x1 - x7) - y1 = y7
  have hx7' : x7 = v * v - x5 - x1 := by rw [← hx7]; grobner
  have hy7' : y7 = v * (x5 - x7) - y5 := by rw [← hy7]; exact h15.y x7
  have C := way_C hp h12 h23 h43 hx hy hn hd hx6.symm hy6.symm
  have C' := way_C hp h23.symm h12.symm h15.symm hx5' hy5' hn2 hd' hx7' hy7'
  have A : x1 + x2 + (s * u + x4) = (s + u) * s := by rw [hx]; clear C C' B B'; grobner
  have A' : x3 + x2 + (t * v + x5) = (t + v) * t := by rw [hx5]; clear C C' B B'; grobner
  generalize hw : s + u = w at A B C
  generalize hq : s * u + x4 = q at A B C
  generalize hw' : t + v = w' at A' B' C'
  generalize hq' : t * v + x5 = q' at A' B' C'
  have hww : w = w' := by
    have : (w - w') * (s - t) = 0 := by clear C C' h12 h23 h43 h15 hx hy hx5 hy5 hy5' hx5' hn2 hx6 hy6 hx7 hy7 hx7' hy7' hw hq hw' hq'; grobner
    rcases mul_zero_or hp this with h | h
    · clear A A' B B' C C' h12 h23 h43 h15 hx hy hx5 hy5 hy5' hx5' hn2 hx6 hy6 hx7 hy7 hx7' hy7' hw hq hw' hq'; grobner
    · exact absurd (by clear A A' B B' C C' h12 h23 h43 h15 hx hy hx5 hy5 hy5' hx5' hn2 hx6 hy6 hx7 hy7 hx7' hy7' hw hq hw' hq'; grobner) hst
  subst hww
  have hqq : q = q' := by clear C C' h12 h23 h43 h15 hx hy hx5 hy5 hy5' hx5' hn2 hx6 hy6 hx7 hy7 hx7' hy7' hw hq hw' hq'; grobner
  subst hqq
  have hw0 : w ≠ 0 := by
    intro h
    subst h
    exact h13 (by clear C C' h12 h23 h43 h15 hx hy hx5 hy5 hy5' hx5' hn2 hx6 hy6 hx7 hy7 hx7' hy7' hw hq hw' hq'; grobner)
  have hxx : x6 = x7 := by clear h12 h23 h43 h15 hx hy hx5 hy5 hy5' hx5' hn2 hx6 hy6 hx7 hy7 hx7' hy7' hw hq hw' hq'; grobner
  have hyy : y6 = y7 := by
    subst hxx
    have : w * (y6 - y7) = 0 := by clear A A' B B' h12 h23 h43 h15 hx hy hx5 hy5 hy5' hx5' hn2 hx6 hy6 hx7 hy7 hx7' hy7' hw hq hw' hq'; grobner
    rcases mul_zero_or hp this with h | h
    · exact absurd h hw0
    · clear A A' B B' C C' h12 h23 h43 h15 hx hy hx5 hy5 hy5' hx5' hn2 hx6 hy6 hx7 hy7 hx7' hy7' hw hq hw' hq'; grobner
  show Pt.at (u * u - x4 - x3) (u * (x4 - (u * u - x4 - x3)) - y4) = Pt.at (v * v - x1 - x5) (v * (x1 - (v * v - x1 - x5)) - y1)
  rw [hx6, hy6, hx7, hy7, hxx, hyy]
theorem on_line (hp : Prime p) {b s x1 y1 x2 y2 x3 y3 : Fin p} (o1 : (Pt.at x1 y1).on b) (o3 : (Pt.at x3 y3).on b) (h12 : Sl s x1 y1 x2 y2) (h3 : y3 - y1 = s * (x3 - x1)) :
    x3 = x1 ∨ x3 = x2 ∨ x3 = s * s - x1 - x2 := by
  obtain ⟨h1, h2⟩ := h12
  simp only [Pt.on] at o1 o3
  have e : (x3 - x1) * ((x3 - x2) * (x3 - (s * s - x1 - x2))) = 0 := by
    have hy : y3 = y1 + s * (x3 - x1) := by clear o1 o3 h1 h2; grobner
    subst hy
    have hy2 : y2 = y1 + s * (x2 - x1) := by clear o1 o3 h2 h3; grobner
    subst hy2
    clear h1 h3
    have k : (x3 - x2) * (x3 - (s * s - x1 - x2)) = x3 * x3 + x1 * x3 + x1 * x1 - 3 - (s * y1 + s * y1) - s * s * (x3 - x1) := by clear o1 o3; grobner
    rw [k]
    clear k h2
    have k : x1 * (x1 * x1) - 3 * x1 - y1 * y1 = -b := by rw [o1]; clear o1 o3; grobner
    have k3 : x3 * (x3 * x3) - 3 * x3 - (y1 + s * (x3 - x1)) * (y1 + s * (x3 - x1)) = -b := by rw [o3]; clear o1 o3 k; grobner
    have k4 : (x3 - x1) * (x3 * x3 + x1 * x3 + x1 * x1 - 3 - (s * y1 + s * y1) - s * s * (x3 - x1)) = x3 * (x3 * x3) - 3 * x3 - (y1 + s * (x3 - x1)) * (y1 + s * (x3 - x1)) - (x1 * (x1 * x1) - 3 * x1 - y1 * y1) := by clear o1 o3 k k3; grobner
    rw [k4, k, k3]
    clear k k3 k4 o1 o3; grobner
  rcases mul_zero_or hp e with h | h
  · left; clear o1 o3 h1 h2 h3 e; grobner
  · rcases mul_zero_or hp h with h | h
    · right; left; clear o1 o3 h1 h2 h3 e; grobner
    · right; right; clear o1 o3 h1 h2 h3 e; grobner
theorem Pt.opp_of {x1 y1 x2 y2 : Fin p} (h : x1 = x2 ∧ y1 = -y2) : (Pt.at x2 y2) = (Pt.at x1 y1).neg := by
  obtain ⟨rfl, rfl⟩ := h
  show _ = Pt.at _ (- -y2)
  congr 1; grobner
theorem assoc {b : Fin p} (g : Good b) {A B C : Pt p} (oA : A.on b) (oB : B.on b) (oC : C.on b) : addA (addA A B) C = addA A (addA B C) := by
  have hp := g.hp
  have comm := @addA_comm p _ hp b
  have can := fun {A B : Pt p} => cancel hp g (A := A) (B := B)
  have can' : ∀ {A B : Pt p}, A.on b → B.on b → addA A (addA A.neg B) = B := fun {A B} hA hB => by
    have := can (on_neg hA) hB
    rwa [neg_neg'] at this
  have oAB := on_add hp oA oB
  have oBC := on_add hp oB oC
  -- one is the opposite of another
  by_cases h1 : B = A.neg
  · subst h1
    rw [addA_neg, can' oA oC]; rfl
  by_cases h2 : C = B.neg
  · subst h2
    rw [addA_neg, addA_inf, comm oA oB, comm (on_add hp oB oA) (on_neg oB)]
    exact can oB oA
  by_cases h3 : A = C
  · subst h3
    rw [comm oA oBC, comm oBC oA, comm oB oA, comm oAB oA]
  by_cases h4 : C = A.neg
  · subst h4
    rw [comm oAB (on_neg oA), can oA oB, comm oB (on_neg oA), can' oA oB]
  by_cases h5 : C = (addA A B).neg
  · subst h5
    rw [addA_neg, neg_add hp oA oB, comm (on_neg oA) (on_neg oB), can' oB (on_neg oA), addA_neg]
  by_cases h6 : addA B C = A.neg
  · have hC : C = (addA A B).neg := by
      have := can oB oC
      rw [h6, ← neg_add hp oB oA, comm oB oA] at this
      exact this.symm
    exact absurd hC h5
  cases A with
  | inf => rfl
  | «at» x1 y1 =>
  cases B with
  | inf => rw [addA_inf]; rfl
  | «at» x2 y2 =>
  cases C with
  | inf => rw [addA_inf, addA_inf]
  | «at» x3 y3 =>
  have n12 : ¬ (x1 = x2 ∧ y1 = -y2) := fun h => h1 (Pt.opp_of h)
  have n23 : ¬ (x2 = x3 ∧ y2 = -y3) := fun h => h2 (Pt.opp_of h)
  obtain ⟨s, hs, es⟩ := exists_sl hp oA oB n12
  obtain ⟨t, ht, et⟩ := exists_sl hp oB oC n23
  rw [es] at oAB h5 ⊢
  rw [et] at oBC h6 ⊢
  simp only [chord] at oAB oBC h5 h6
  have es' : (chord s x1 y1 x2 : Pt p) = .at (s * s - x1 - x2) (s * (x1 - (s * s - x1 - x2)) - y1) := rfl
  have et' : (chord t x2 y2 x3 : Pt p) = .at (t * t - x2 - x3) (t * (x2 - (t * t - x2 - x3)) - y2) := rfl
  rw [es', et']
  generalize hx4 : s * s - x1 - x2 = x4 at *
  generalize hy4 : s * (x1 - x4) - y1 = y4 at *
  generalize hx5 : t * t - x2 - x3 = x5 at *
  generalize hy5 : t * (x2 - x5) - y2 = y5 at *
  have n43 : ¬ (x4 = x3 ∧ y4 = -y3) := fun h => h5 (Pt.opp_of h)
  have n15 : ¬ (x1 = x5 ∧ y1 = -y5) := fun h => h6 (Pt.opp_of h)
  have h13 : x1 ≠ x3 := by
    rintro rfl
    rcases on_same_x hp oA oC with h | h
    · exact h3 (by rw [h])
    · exact h4 (Pt.opp_of ⟨rfl, h⟩)
  have d23 : x2 = x3 → y2 = y3 := by
    rintro rfl
    rcases on_same_x hp oB oC with h | h
    · exact h
    · exact absurd ⟨rfl, h⟩ n23
  have d21 : x2 = x1 → y2 = y1 := by
    rintro rfl
    rcases on_same_x hp oA oB with h | h
    · exact h.symm
    · exact absurd ⟨rfl, h⟩ n12
  have hst : s ≠ t := by
    rintro rfl
    have hl : y3 - y1 = s * (x3 - x1) := by
      have a1 := hs.1
      have b1 := ht.1
      clear hx4 hy4 hx5 hy5 oA oB oC oAB oBC
      grobner
    rcases on_line hp oA oC hs hl with h | h | h
    · exact h13 h.symm
    · subst h
      have h32 := d23 rfl
      subst h32
      -- the line is the tangent at the second point
      obtain ⟨a1, a2⟩ := hs
      obtain ⟨b1, b2⟩ := ht
      have e : (x3 - x1) * (x3 - x4) = 0 := by
        have hl' : y2 = y1 + s * (x3 - x1) := by clear hx4 hy4 hx5 hy5 oA oB oC oAB oBC a1 a2 b1 b2; grobner
        subst hl'
        clear hy4 hx5 hy5 oA oB oC oAB oBC a1 b1 hl
        grobner
      rcases mul_zero_or hp e with h | h
      · exact h13 (by clear hx4 hy4 hx5 hy5 oA oB oC oAB oBC a1 a2 b1 b2 hl e; grobner)
      · refine n43 ⟨by clear hx4 hy4 hx5 hy5 oA oB oC oAB oBC a1 a2 b1 b2 hl e; grobner, ?_⟩
        have : x4 = x3 := by clear hx4 hy4 hx5 hy5 oA oB oC oAB oBC a1 a2 b1 b2 hl e; grobner
        rw [← hy4, this]
        clear hx4 hy4 hx5 hy5 oA oB oC oAB oBC a1 a2 b1 b2 e h; grobner
    · rw [hx4] at h
      refine n43 ⟨h.symm, ?_⟩
      rw [← hy4, ← h]
      clear hx4 hy4 hx5 hy5 oA oB oC oAB oBC h; grobner
  obtain ⟨u, hu, eu⟩ := exists_sl hp oAB oC n43
  obtain ⟨v, hv, ev⟩ := exists_sl hp oA oBC n15
  rw [eu, ev]
  exact assoc_gen hp hs ht hu hv hx4.symm hy4.symm hx5.symm hy5.symm n43 n15 d23 d21 hst h13
end Go.Proofs.YtaggpodckafbgaaGreatDoor.Ec
/- N times any point of P-256 is the point far out: plain. -/
namespace Go.Proofs.YtaggpodckafbgaaGreatDoor.Ec
theorem good : Good cb := ⟨hP, two_ne, by decide +kernel, by decide +kernel⟩
/-! ### no point but those far out is its own opposite -/
def pwF (r : F) : Nat → F
  | 0 => 1
  | n + 1 => pwF r n * r
theorem pwF_val (r : F) : ∀ n, (pwF r n).val = r.val ^ n % P
  | 0 => by show (1 : F).val = _; rw [val_1, Nat.pow_zero]; decide
  | n + 1 => by
    show (pwF r n * r).val = _
    rw [Fin.val_mul, pwF_val r n, Nat.mod_mul_mod, Nat.pow_succ]
structure Tri where
  a : F
  b : F
  c : F
def Tri.at (t : Tri) (r : F) : F := t.a + t.b * r + t.c * (r * r)
def Tri.up (t : Tri) : Tri := ⟨0 - t.c * cb, t.a + 3 * t.c, t.b⟩
def Tri.put {α : Type} (t : Tri) (k : Nat → Nat → Nat → α) : α := k t.a.val t.b.val t.c.val
def tc : F := ⟨24678849118215552148312087830792888746041224110560601850711771001608500700145, by decide⟩
def uc : F := ⟨34768139465301476436978405170953382516735956999154666452188405812258086013549, by decide⟩
/-! ### multiples, one by one -/
abbrev On (A : Pt P) : Prop := A.on cb
theorem On.add {A B : Pt P} (a : On A) (b : On B) : On (addA A B) := on_add hP a b
theorem on_assoc {A B C : Pt P} (a : On A) (b : On B) (c : On C) : addA (addA A B) C = addA A (addA B C) := assoc good a b c
def nA (A : Pt P) : Nat → Pt P
  | 0 => .inf
  | n + 1 => addA (nA A n) A
theorem On.nA {A : Pt P} (a : On A) : ∀ n, On (nA A n)
  | 0 => trivial
  | n + 1 => (On.nA a n).add a
theorem nA_add {A : Pt P} (a : On A) (m : Nat) : ∀ n, nA A (m + n) = addA (nA A m) (nA A n)
  | 0 => (addA_inf _).symm
  | n + 1 => by show addA (nA A (m + n)) A = addA (nA A m) (addA (nA A n) A); rw [nA_add a m n, on_assoc (a.nA m) (a.nA n) a]
theorem mulN_nA {A : Pt P} (a : On A) (m : Nat) : mulN A m = nA A m := by
  induction m using Nat.strongRecOn with
  | ind m ih =>
    by_cases h : m = 0
    · subst h; rw [mulN_zero]; rfl
    · rw [mulN_step, ih (m / 2) (by omega), ← nA_add a]
      rcases Nat.mod_two_eq_zero_or_one m with h0 | h1
      · have e : (m % 2 == 1) = false := by rw [h0]; rfl
        rw [e]
        show Ec.nA A (m / 2 + m / 2) = _
        congr 1; omega
      · have e : (m % 2 == 1) = true := by rw [h1]; rfl
        rw [e]
        show Ec.nA A (m / 2 + m / 2 + 1) = _
        congr 1; omega
theorem nA_inf : ∀ n, nA .inf n = .inf
  | 0 => rfl
  | n + 1 => by show addA (nA .inf n) .inf = _; rw [nA_inf n]; rfl
/-! ### counting -/
/-! ### the base point's multiples are all points -/
section
variable {n : Nat}
end
end Go.Proofs.YtaggpodckafbgaaGreatDoor.Ec
